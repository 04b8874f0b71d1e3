/- GrouperWhole returns true for every list of rows whose bulk is at most 1048576, and leaves its input as it was. Part 2 of 5. -/
import Derived.Test.YtnllgjloimoebaaDoorMWhole0
import Derived.Test.YtnllgjloimoebaaDoorWEqStruct
import Derived.Sort.Grow
import Derived.Shelf.Strings.Builder1
import Derived.Shelf.Small.Bits
import Derived.Shelf.Small.Strs
import Derived.Shelf.Small.Wraps
import Derived.Shelf.Strings.BuilderF
import Derived.Shelf.Strings.BuilderK
import Derived.Shelf.Strconv.Itoa0
import Derived.Shelf.Strconv.Itoa1
import Derived.Shelf.LaysM
import Derived.Shelf.Strconv.Itoa2
import Derived.Shelf.Strconv.Itoa3
import Derived.Ground.Names2Prog
import Derived.Shelf.Slices.SearchI
import Derived.Ground.SlsfProg
import Derived.Shelf.SlSortCmp.Insertion
import Derived.Shelf.SlSortCmp.InsertionK
import Derived.Shelf.SlSortCmp.SiftDownK
import Derived.Shelf.SlSortCmp.HeapSortK
import Derived.Shelf.SlSortCmp.MedianK
import Derived.Shelf.SlSortCmp.PivotK
import Derived.Shelf.SlSortCmp.ReverseRangeK
import Derived.Shelf.SlSortCmp.PartialInsertionK
import Derived.Shelf.SlSortCmp.PartitionEqualK
import Derived.Shelf.SlSortCmp.PartitionK
import Derived.Shelf.SlSortCmp.PdqK
import Derived.Shelf.SlSortCmp.WholeK
import Derived.Shelf.SlSortCmp.SiftDown1
import Derived.Shelf.SlSortCmp.HeapSort1
import Derived.Shelf.SlSortCmp.Insertion1
import Derived.Shelf.SlSortCmp.Median1
import Derived.Shelf.SlSortCmp.Pivot1
import Derived.Shelf.SlSortCmp.ReverseRange1
import Derived.Shelf.SlSortCmp.PartialInsertion1
import Derived.Shelf.SlSortCmp.PartitionEqual1
import Derived.Shelf.SlSortCmp.Partition1
import Derived.Shelf.SlSortCmp.Pdq1
import Derived.Shelf.SlSortCmp.Whole1
import Derived.Shelf.SlSortCmp.NoneTotal
import Derived.Test.YtnllgjloimoebaaDoorChecked

-- By xprint.py (this session's own program over the kit's print): not trusted: Lean checks it.
namespace Go.Proofs.YtnllgjloimoebaaDoor.X
open Go.RowKit Go.Proofs.YtnllgjloimoebaaDoorW.PrintWords Go.Proofs.YtnllgjloimoebaaDoorW.PrintLast Go.Proofs.YtnllgjloimoebaaDoorW.PrintMore
attribute [local go_sem] max2_int min2_int max_two min_two max_three min_three max_four min_four   -- for this text's walks alone
set_option linter.unusedVariables false
set_option linter.unusedSimpArgs false

/-! ### tabellionref33_Groups: function 12 -/
mutual
def tabellionref33_Groups.l0 : Nat → List (List (S44)) → List (List Int) → Int → Option ((List (List Int)))
 | 0, _, _, _ => none
 | k + 1, x0, x3, x4 => if x4 < (x0.length : Int) then (tabellionref33_Groups.l1 k x0 x3 x4 0) else (some x3)
def tabellionref33_Groups.l1 : Nat → List (List (S44)) → List (List Int) → Int → Int → Option ((List (List Int)))
 | 0, _, _, _, _ => none
 | k + 1, x0, x3, x4, x5 => if x5 < (x3.length : Int) then (if 0 ≤ x5 then (if 0 < ((rd_L1 x3 x5).length : Int) then (if 0 ≤ (rd (rd_L1 x3 x5) 0) then (if (rd (rd_L1 x3 x5) 0) < (x0.length : Int) then (if 0 ≤ x4 then (if x4 < (x0.length : Int) then ((tabellionref03_Orders.f k (rd_L4 x0 (rd (rd_L1 x3 x5) 0)) (rd_L4 x0 x4)).bind fun t192 => (if t192 = 0 then (if x5 = (x3.length : Int) then (if x3.length < 5864062014805 then ((some (x3 ++ [(([] : List Int))] : List (List Int))).bind fun y196 => (if x5 < (y196.length : Int) then (if (rd_L1 y196 x5).length < 17592186044416 then (tabellionref33_Groups.l0 k x0 (y196.set (x5 : Int).toNat ((rd_L1 y196 x5) ++ [x4])) (wrap64 (x4 + 1))) else (none)) else (none))) else (none)) else (if (rd_L1 x3 x5).length < 17592186044416 then (tabellionref33_Groups.l0 k x0 (x3.set (x5 : Int).toNat ((rd_L1 x3 x5) ++ [x4])) (wrap64 (x4 + 1))) else (none))) else (tabellionref33_Groups.l1 k x0 x3 x4 (wrap64 (x5 + 1))))) else (none)) else (none)) else (none)) else (none)) else (none)) else (none)) else (if x5 = (x3.length : Int) then (if x3.length < 5864062014805 then ((some (x3 ++ [(([] : List Int))] : List (List Int))).bind fun y212 => (if 0 ≤ x5 then (if x5 < (y212.length : Int) then (if (rd_L1 y212 x5).length < 17592186044416 then (tabellionref33_Groups.l0 k x0 (y212.set (x5 : Int).toNat ((rd_L1 y212 x5) ++ [x4])) (wrap64 (x4 + 1))) else (none)) else (none)) else (none))) else (none)) else (if 0 ≤ x5 then (none) else (none)))
end
def tabellionref33_Groups.f (k : Nat) (l0 : List (List (S44))) : Option ((List (List Int))) := tabellionref33_Groups.l0 k l0 (([] : List (List Int))) 0
def tabellionref33_Groups.T6 : Bool × List (List Nat × List Nat) := (true, [([], []), ([], []), ([1], [1]), ([0, 2], [0, 2]), ([3], [3]), ([4], [4]), ([4], [4]), ([4], [4]), ([6, 7, 4], [4, 6, 7]), ([8, 4], [4, 8]), ([9, 4], [4, 9]), ([10, 4], [4, 10]), ([5, 11, 4], [4, 5, 11]), ([12, 4], [4, 12]), ([4], [4]), ([4], [4]), ([14, 15, 4], [4, 14, 15]), ([16, 4], [4, 16]), ([13, 17, 4, 4], [4, 13, 17]), ([18, 4], [4, 18]), ([4, 19], [4, 19])])
def tabellionref33_Groups.B6 : List Nat := [0, 0, 2, 7, 15, 31, 31, 31, 223, 479, 991, 2015, 4095, 8191, 31, 31, 49183, 114719, 262143, 524287, 1048575]
theorem tabellionref33_Groups.tab6 : rtab .any (opsOf Tryd.f12 6) = tabellionref33_Groups.T6 := by kernel_rfl
theorem tabellionref33_Groups.bits6 : waitsOk tabellionref33_Groups.T6.2 tabellionref33_Groups.B6 = true := by kernel_rfl
end Go.Proofs.YtnllgjloimoebaaDoor.X

/- grouper.Groups: which rows have one key. -/
set_option linter.unusedVariables false
set_option linter.unusedSimpArgs false
namespace Go.Proofs.YtnllgjloimoebaaDoor.X
open Go.RowKit Go.Maps Go.Proofs.YtnllgjloimoebaaDoorW.PrintWords Go.Proofs.YtnllgjloimoebaaDoorW.PrintLast Go.Proofs.YtnllgjloimoebaaDoorW.PrintMore

/-- one more row: its group, or a new one -/
def gput (s : List (List Int) × (Nat × List UInt8 → Option Int)) (r : List S44) (i : Int) : List (List Int) × (Nat × List UInt8 → Option Int) :=
  match s.2 (keyT r) with
  | some g => (s.1.set g.toNat (s.1.getD g.toNat [] ++ [i]), s.2)
  | none => ((s.1 ++ [[]]).set s.1.length ((s.1 ++ [[]]).getD s.1.length [] ++ [i]), putG s.2 (keyT r) s.1.length)
def gAfter (l : List (List S44)) : Nat → List (List Int) × (Nat × List UInt8 → Option Int)
  | 0 => ([], fun _ => none)
  | k + 1 => gput (gAfter l k) (l.getD k []) k
def groupsP (l : List (List S44)) : List (List Int) := (gAfter l l.length).1
def grouper_Groups.f (l : List (List S44)) : Option (List (List Int)) := if l.all keyable && decide (l.length ≤ 1099511627776) then some (groupsP l) else none

theorem gput_ok {s : List (List Int) × (Nat × List UInt8 → Option Int)} {r : List S44} {i : Int} {k : Nat} (h1 : s.1.length ≤ k) (h2 : ∀ t g, s.2 t = some g → 0 ≤ g ∧ g < s.1.length) (h3 : ∀ x ∈ s.1, x.length ≤ k) :
    (gput s r i).1.length ≤ k + 1 ∧ (∀ t g, (gput s r i).2 t = some g → 0 ≤ g ∧ g < (gput s r i).1.length) ∧ ∀ x ∈ (gput s r i).1, x.length ≤ k + 1 := by
  unfold gput
  cases hf : s.2 (keyT r) with
  | some g =>
    refine ⟨by simp; omega, fun t g' h => by simpa using h2 t g' h, fun x hx => ?_⟩
    rcases List.mem_or_eq_of_mem_set hx with hx | rfl
    · exact Nat.le_succ_of_le (h3 x hx)
    · have := h2 _ _ hf
      have hm : s.1.getD g.toNat [] ∈ s.1 := by
        rw [List.getD_eq_getElem?_getD, List.getElem?_eq_getElem (by omega)]; simp
      have := h3 _ hm
      rw [List.length_append, List.length_cons, List.length_nil]; omega
  | none =>
    refine ⟨by simp; omega, fun t g' h => ?_, fun x hx => ?_⟩
    · simp only [List.length_set, List.length_append, List.length_cons, List.length_nil]
      change putG s.2 (keyT r) s.1.length t = some g' at h
      unfold putG at h
      split at h
      · injection h with h
        omega
      · have := h2 t g' h
        omega
    · rcases List.mem_or_eq_of_mem_set hx with hx | rfl
      · rcases List.mem_append.1 hx with hx | hx
        · exact Nat.le_succ_of_le (h3 x hx)
        · simp at hx; subst hx; simp
      · simp
theorem gAfter_ok (l : List (List S44)) : ∀ k, (gAfter l k).1.length ≤ k ∧ (∀ t g, (gAfter l k).2 t = some g → 0 ≤ g ∧ g < (gAfter l k).1.length) ∧ ∀ x ∈ (gAfter l k).1, x.length ≤ k
  | 0 => ⟨by simp [gAfter], fun t g h => by simp [gAfter] at h, fun x hx => by simp [gAfter] at hx⟩
  | k + 1 => by
    obtain ⟨h1, h2, h3⟩ := gAfter_ok l k
    exact gput_ok h1 h2 h3

set_option maxHeartbeats 4000000 in
set_option maxRecDepth 100000 in
theorem grouper_Groups.calls (A0 : Option Addr) (c0 : Nat) (l0 : List (List (S44))) (r : List (List Int)) (w : World) (hr0 : Kd.C (Kd.slice 44 k44) w A0 l0.length l0) (hc0 : l0.length ≤ c0) (h : grouper_Groups.f l0 = some r) (htab : Tab w) :
    Calls Tryd.prog 11 #[.slice A0 l0.length c0] w fun e w' => ∃ v0_ : Value, e = .returned (v0_) ∧ Kd.S (Kd.slice 3 (Kd.int .i64)) 30 w' w.heap.size (fun _ => True) v0_ r ∧ Below w.heap.size w w' := by
  have HR0 := Aside0.mk hr0
  have HC0 := Aside0.mk hc0
  have HT := Aside0.mk htab
  clear hr0 hc0 htab
  unfold grouper_Groups.f at h
  split at h
  case isFalse => cases h
  rename_i hall
  rw [Bool.and_eq_true, decide_eq_true_eq, List.all_eq_true] at hall
  have HALL := Aside0.mk hall
  clear hall
  have h := Option.some.inj h
  unfold groupsP at h
  have HRES := Aside0.mk h
  clear h
  have hmm := @run_makeMap Tryd.prog
  go_enter Tryd.func11, Tryd.ntmps11
  go_wp2
  have HM0 : Aside0 (MapG (w.alloc (.map #[] 0)) w.heap.size 0 (gAfter l0 0).2) := ⟨MapG_made w⟩
  have HB0 : Aside0 (Below w.heap.size w (w.alloc (.map #[] 0))) := ⟨below_alloc (Below.refl _ _) _⟩
  have HS0 : Aside0 ((w.alloc (.map #[] 0)).heap.size = w.heap.size + 1) := ⟨by simp⟩
  obtain ⟨w1, hw1⟩ : ∃ w1, w1 = w.alloc (.map #[] 0) := ⟨_, rfl⟩
  rw [← hw1] at HM0 HB0 HS0 ⊢
  clear hw1
  go_loopg [3, 13] l0.length (fun n v3 v13 wr => ∃ k : Nat, v13 = .int .i64 k ∧ Aside0 (k + n = l0.length) ∧ Aside0 (MapG wr w.heap.size k (gAfter l0 k).2) ∧ Aside0 (Kd.S (Kd.slice 3 (Kd.int .i64)) 30 wr w.heap.size (fun j => j ≠ w.heap.size) v3 (gAfter l0 k).1) ∧ Aside0 (Below w.heap.size w wr))
  case atStart => exact ⟨0, rfl, ⟨Nat.zero_add _⟩, HM0, ⟨Kd.S_nil _ _ _ _ _⟩, HB0⟩
  case round =>
    clear HM0 HB0 HS0
    obtain ⟨k, rfl, HN, HM, HO, HB⟩ := hrel
    have hn := HN.out
    by_cases hlt : k < l0.length
    · obtain ⟨ad, A1, c1, e, hx0, hl0, hi0⟩ := at_L4 HR0.out k (by omega) (by omega)
      cases e
      obtain ⟨r, hr⟩ : ∃ r, r = l0.getD k [] := ⟨_, rfl⟩
      have hh : (rd_L4 l0 (k : Int)) = l0.getD k [] := by unfold rd_L4; rw [Int.toNat_natCast]
      rw [hh, ← hr] at hx0 hl0 hi0
      have hmem : r ∈ l0 := by rw [hr, List.getD_eq_getElem?_getD, List.getElem?_eq_getElem hlt]; simp
      have HKY : Aside0 (keyable r = true) := ⟨HALL.out.1 r hmem⟩
      have HR := Aside0.mk hr
      clear hr hh hmem
      rw [Int.toNat_natCast] at hx0
      replace hx0 := (HB.out.cell (World.block_lt_of_cell? w _ hx0)).trans hx0
      have HI : Aside0 (Kd.C k44 wr A1 r.length r) := ⟨Kd.C_below hi0 HB.out⟩
      have HCC := Aside0.mk hl0
      clear hi0 hl0
      have hkl : (k : Int) < (l0.length : Int) := by omega
      have hl2 : (l0.length : Int) ≤ 1099511627776 := by have := HALL.out.2; omega
      clear hn
      go_wp2_with (go_at_call 29; refine (keyOf_calls A1 c1 r _ HI.out HCC.out (by have := HKY.out; unfold keyable at this; rw [Bool.and_eq_true] at this; exact this.1) (keyable_len HKY.out).2 (tab_of HT.out HB.out)).mono ?_)
      rintro e w2 ⟨rfl, hb⟩
      have n0_ := Aside0.mk (Kd.S_below HO.out hb)
      have n1_ := Aside0.mk (MapG_below HM.out hb (MapG_lt HM.out))
      have n2_ := Aside0.mk (below_step HB.out hb)
      clear HO HM HB hx0 HI HCC hb
      have HO := n0_
      have HM := n1_
      have HB := n2_
      clear n0_ n1_ n2_
      obtain ⟨f, hf0⟩ : ∃ f, f = (gAfter l0 k).2 := ⟨_, rfl⟩
      obtain ⟨xs, hxs⟩ : ∃ xs, xs = (gAfter l0 k).1 := ⟨_, rfl⟩
      have hok := gAfter_ok l0 k
      rw [← hf0] at HM hok
      rw [← hxs] at HO hok
      have HOK := Aside0.mk hok
      have HNX : Aside0 (gAfter l0 (k + 1) = gput (xs, f) r k) := ⟨by rw [hf0, hxs, HR.out]; rfl⟩
      clear hok hf0 hxs
      cases hfr : f (keyT r) with
      | none =>
        have HNX2 : Aside0 (gAfter l0 (k + 1) = ((xs ++ [[]]).set xs.length ((xs ++ [[]]).getD xs.length [] ++ [(k : Int)]), putG f (keyT r) xs.length)) := ⟨by rw [HNX.out]; unfold gput; simp only [hfr]⟩
        obtain ⟨A3, c3, e3⟩ := Kd.S_slice HO.out
        subst e3
        have hlx : xs.length ≤ k := HOK.out.1
        have hlt3 := Kd.S_lt HO.out
        go_wp2_with (first | (at_lookup; refine wp_lookG _ rfl _ _ rfl _ _ f r HKY.out 0 false (by rw [hfr]; rfl) (by rw [hfr]; rfl) rfl (MapG_alloc HM.out _) rfl ?_) | (at_mapUpdate; refine wp_putG _ rfl _ _ _ rfl _ k f r HKY.out (xs.length : Int) (i64ok_of (by omega) (by omega)) (by unfold maxLen; omega) rfl (MapG_alloc HM.out _) rfl rfl ?_; intro w3 hm3 hg3; have n0_ := Aside0.mk (Kd.S_grown (Kd.S_alloc HO.out _) hg3 (fun j hj e => hj (Option.some.inj e))); have n1_ := Aside0.mk hm3; have n2_ := Aside0.mk (pw_below_grown (by repeat (first | (with_reducible first | exact HB.out | apply below_alloc | apply pw_below_drewN | apply below_drew1) | exact HB.out)) (some w.heap.size) (below_size (by repeat (first | (with_reducible first | exact HB.out | apply below_alloc | apply pw_below_drewN | apply below_drew1) | exact HB.out))) hg3 (fun j hj => by cases hj; exact Nat.le_refl _)); clear HO HM HB hm3 hg3; have HO := n0_; have HM := n1_; have HB := n2_; clear n0_ n1_ n2_; have HSZ : Aside0 (w.heap.size < w3.heap.size) := ⟨MapG_lt HM.out⟩; generalize hgi : (xs.length : Int) = gi; have HGI := Aside0.mk hgi; clear hgi) | ((with_reducible refine gate_builtin (b := .append) (xs := #[.tmp 33, .tmp 34]) rfl ?_); at_builtin; refine Kd.S_append (Kd.slice 3 (Kd.int .i64)) (w0 := w) w.heap.size rfl (.tmp 33) (.tmp 34) 25 30 (.slice none 0 0) 24 rfl Tryd.underlying25 info30 rfl (by decide) (by omega) (.slice A3 xs.length c3) xs ([] : List Int) [.slice none 0 0] (fun j => j ≠ w.heap.size) (fun _ => False) rfl rfl ?aP (fun _ hk => hk.elim) ?aF ?aO ?aB ?aS ?aL ?_; (case aP => exact Kd.M_row (Kd.R_nil _ _ _ _ _)); (case aF => exact (fun k_ hk => by have h_ := HSZ.out; show k_ ≠ w.heap.size; omega)); (case aO => exact Kd.S_mono HO.out (fun _ hk => ⟨hk, fun h_ => h_⟩)); (case aB => exact (by repeat (first | (with_reducible first | exact HB.out | apply below_alloc | apply pw_below_drewN | apply below_drew1) | exact HB.out))); (case aS => exact (below_size (by repeat (first | (with_reducible first | exact HB.out | apply below_alloc | apply pw_below_drewN | apply below_drew1) | exact HB.out)))); (case aL => omega); intro v4 w4 ho hb hg hat; have n0_ := Aside0.mk ho; have n1_ := Aside0.mk (MapG_kept HM.out hg (Kd.S_away HO.out (fun _ h_ => h_))); have n2_ := Aside0.mk hb; clear HO HM HB HSZ ho hb hg hat; have HO := n0_; have HM := n1_; have HB := n2_; clear n0_ n1_ n2_; obtain ⟨ys, hys⟩ : ∃ ys, ys = xs ++ [([] : List Int)] := ⟨_, rfl⟩; have HP0 : Aside0 (0 ≤ gi) := ⟨by have h_ := HGI.out; omega⟩; have HP1 : Aside0 (gi < (ys.length : Int)) := ⟨by have h_ := HGI.out; rw [hys, List.length_append]; simp only [List.length_cons, List.length_nil]; omega⟩; have HLE0 : Aside0 ((ys.getD gi.toNat []).length ≤ 0) := ⟨by have h_ := HGI.out; rw [hys, ← h_, Int.toNat_natCast]; simp⟩; have HNX3 : Aside0 (gAfter l0 (k + 1) = (ys.set gi.toNat (ys.getD gi.toNat [] ++ [(k : Int)]), putG f (keyT r) gi)) := ⟨by have h_ := HGI.out; rw [HNX2.out, hys, ← h_, Int.toNat_natCast]⟩; rw [← hys] at HO; obtain ⟨A4, c4, e4⟩ := Kd.S_slice HO.out; subst e4; have HYS := Aside0.mk hys; clear hys; obtain ⟨go27, co27, eo27, gb27, gl27, cl27, HG27⟩ := Kd.S_form HO.out (by have h0_ := HP0.out; have h1_ := HP1.out; omega); injection eo27 with ea27 en27 ec27; subst ea27; subst ec27; clear en27; have GB27 := Aside0.mk gb27; have GG27 := Aside0.mk HG27; clear gb27 gl27 HG27; obtain ⟨oki27, ce27, hcl27, hM27, hcc27, _, _, hH27⟩ := Kd.S_elem HO.out [] (gi : Int) HP0.out HP1.out; obtain ⟨el, hel⟩ : ∃ el, el = ys.getD (gi : Int).toNat [] := ⟨_, rfl⟩; rw [← hel] at hM27; obtain ⟨ve27, rfl, ge27⟩ := hM27; have hv27 := hcc27 0 _ rfl; rw [Nat.add_zero, show ((Kd.slice 3 (Kd.int .i64))).sz = 1 from rfl, Nat.mul_one] at hv27; obtain ⟨A199, c199, e199⟩ := Kd.R_slice ge27; subst e199; have UU27 := Aside0.mk (show Kd.R (Kd.int .i64) 3 _ w.heap.size oki27 (.slice A199 el.length c199) el from ge27); have HEL := Aside0.mk hel; clear hel; have HH27 := Aside0.mk hH27; have HC27 := Aside0.mk (Kd.S_reads' HO.out).2.1; clear hH27 ge27 hcc27 hcl27 HO; have HLE : Aside0 (el.length ≤ 0) := ⟨by rw [HEL.out]; exact HLE0.out⟩; have hp0 := eq_true HP0.out; have hp1 := eq_true HP1.out) | ((with_reducible refine gate_builtin (b := .append) (xs := #[.tmp 41, .tmp 43]) rfl ?_); at_builtin; refine Kd.R_append (Kd.int .i64) (w0 := w) w.heap.size rfl (.tmp 41) (.tmp 43) 30 3 (.int .i64 0) 8 rfl Tryd.underlying30 info3 rfl (by decide) (by omega) (.slice A199 el.length c199) el (k : Int) [.int .i64 k] (fun k_ => oki27 k_ ∨ ((fun j => j ≠ w.heap.size)) k_ ∧ w4.heap.size ≤ k_) (fun _ => False) rfl rfl ?aP (fun _ hk => hk.elim) ?aF ?aO ?aB ?aS ?aL ?_; (case aP => exact rfl); (case aB => exact (by repeat (first | (with_reducible first | exact HB.out | apply below_alloc | apply pw_below_drewN | apply below_drew1) | exact HB.out))); (case aF => exact (fun k_ hk => .inr ⟨by have h_ := MapG_lt HM.out; show k_ ≠ w.heap.size; omega, hk⟩)); (case aO => exact (by (with_reducible repeat (first | apply Kd.R_alloc | apply Kd.R_drewN | apply Kd.R_drew)); exact Kd.R_mono UU27.out (fun _ hk => .inl hk))); (case aS => exact (below_size (by repeat (first | (with_reducible first | exact HB.out | apply below_alloc | apply pw_below_drewN | apply below_drew1) | exact HB.out)))); (case aL => have := HLE.out; omega); intro v201 w28 ho hb hg hat; have n0_ := Aside0.mk (hb); have n1_ := Aside0.mk (Kd.H_grown (Kd.H_widen (by repeat (first | exact HH27.out | refine Kd.H_alloc ?_ _ | refine Kd.H_drewN ?_ _ | refine Kd.H_drew ?_))) hg (fun k_ e_ => .inl (UU27.out.1 k_ e_))); have n2_ := Aside0.mk (ho); have n3_ := Aside0.mk (MapG_kept HM.out hg (fun e_ => HH27.out.1 _ (UU27.out.1 _ e_.symm) rfl)); clear HB; clear HH27; clear UU27; clear HM; clear hv27; have HB := n0_; have HH27 := n1_; have HO202 := n2_; have HM := n3_; clear n0_ n1_ n2_ n3_; clear ho hb hg hat; obtain ⟨Ao31, co31, eo31⟩ := Kd.R_slice HO202.out; subst eo31; obtain ⟨_, _, hraw29, _, _, hcc29, _⟩ := Kd.H_raw HH27.out HP0.out HP1.out; obtain ⟨_, hfr29⟩ := Kd.H_at HH27.out HP0.out HP1.out; have hx29_0 := hcc29 0 _ rfl; have hf29_0 := hfr29 0; (try simp only [Nat.add_zero] at hx29_0 hf29_0); (try rw [show ((Kd.slice 3 (Kd.int .i64))).sz = 1 from rfl, Nat.mul_one] at hx29_0); (try rw [show ((Kd.slice 3 (Kd.int .i64))).sz = 1 from rfl, Nat.mul_one] at hf29_0); have HP29 := Kd.S_seg0 HH27.out HP0.out HP1.out (seg := [.slice Ao31 (el ++ [(k : Int)]).length co31]) (j := 0) (show 1 ≤ 1 from by decide) (x' := el ++ [(k : Int)]) (Kd.M_row HO202.out) (fun _ hk => hk); (try simp only [show ((Kd.slice 3 (Kd.int .i64))).sz = 1 from rfl, Nat.mul_one, Nat.add_zero] at HP29); clear hcc29 hfr29) | ((with_reducible refine gate_store (t := 30) (p := 45) rfl ?_); refine store_event (t := 30) (p := 45) (v := ?vo_w30) (w1 := (w28.setCell ⟨go27, (gi : Int).toNat, none⟩ (.slice Ao31 (el ++ [(k : Int)]).length co31))) ?hg ?ho ?hn ?hr ?_; (case ho => rfl); (case hg => rfl); (case hn => rfl); (case hr => first | (go_simp; done) | (go_simp; rfl)); intro w30 hw; have hg : w28.grownBy w30 (some go27) := (by rw [hw]; exact HP29.2); have hp_ : Kd.S (Kd.slice 3 (Kd.int .i64)) 30 w30 w.heap.size (fun j => j ≠ w.heap.size) (.slice (some ⟨go27, 0, none⟩) ys.length c4) (ys.set (gi : Int).toNat (el ++ [(k : Int)])) := (by rw [hw]; exact HP29.1); clear HP29; have n0_ := Aside0.mk ((by rw [hw]; exact below_set HB.out GB27.out : Below w.heap.size w w30)); have n1_ := Aside0.mk (hp_); have n2_ := Aside0.mk (MapG_kept HM.out hg (fun e_ => Kd.S_away hp_ (fun _ h_ => h_) (by rw [show (Value.slice (some ⟨go27, 0, none⟩) ys.length c4).ownBlock = some go27 from rfl]; exact e_))); clear HB; clear HO202; clear HH27; clear HM; have HB := n0_; have HO := n1_; have HM := n2_; clear n0_ n1_ n2_; clear hg hw hp_ hraw29))
        go_roundg (l0.length - (k + 1))
        case measure => have := HN.out; omega
        case rel => exact ⟨k + 1, (by first | rfl | (simp; done) | (simp [*]; done)), ⟨by have := HN.out; omega⟩, ⟨by rw [HNX3.out]; exact (by have h_ := HM.out; rw [HGI.out] at h_; exact h_)⟩, ⟨by rw [HNX3.out, ← HEL.out]; exact HO.out⟩, ⟨(by repeat (first | (with_reducible first | exact HB.out | apply below_alloc | apply pw_below_drewN | apply below_drew1) | exact HB.out))⟩⟩
      | some g =>
        have HNX2 : Aside0 (gAfter l0 (k + 1) = (xs.set g.toNat (xs.getD g.toNat [] ++ [(k : Int)]), f)) := ⟨by rw [HNX.out]; unfold gput; simp only [hfr]⟩
        obtain ⟨A3, c3, e3⟩ := Kd.S_slice HO.out
        subst e3
        have hlx : xs.length ≤ k := HOK.out.1
        have hg2 := HOK.out.2.1 _ _ hfr
        have HP0 : Aside0 (0 ≤ g) := ⟨hg2.1⟩
        have HP1 : Aside0 (g < (xs.length : Int)) := ⟨hg2.2⟩
        clear hg2
        obtain ⟨go27, co27, eo27, gb27, gl27, cl27, HG27⟩ := Kd.S_form HO.out (by have h0_ := HP0.out; have h1_ := HP1.out; omega)
        injection eo27 with ea27 en27 ec27
        subst ea27
        subst ec27
        clear en27
        have GB27 := Aside0.mk gb27
        have GG27 := Aside0.mk HG27
        clear gb27 gl27 HG27
        obtain ⟨oki27, ce27, hcl27, hM27, hcc27, _, _, hH27⟩ := Kd.S_elem HO.out [] (g : Int) HP0.out HP1.out
        obtain ⟨el, hel⟩ : ∃ el, el = xs.getD (g : Int).toNat [] := ⟨_, rfl⟩
        rw [← hel] at hM27
        obtain ⟨ve27, rfl, ge27⟩ := hM27
        have hv27 := hcc27 0 _ rfl
        rw [Nat.add_zero, show ((Kd.slice 3 (Kd.int .i64))).sz = 1 from rfl, Nat.mul_one] at hv27
        obtain ⟨A199, c199, e199⟩ := Kd.R_slice ge27
        subst e199
        have UU27 := Aside0.mk (show Kd.R (Kd.int .i64) 3 _ w.heap.size oki27 (.slice A199 el.length c199) el from ge27)
        have HEL := Aside0.mk hel
        clear hel
        have HH27 := Aside0.mk hH27
        have HC27 := Aside0.mk (Kd.S_reads' HO.out).2.1
        clear hH27 ge27 hcc27 hcl27 HO
        have HLE : Aside0 (el.length ≤ k) := ⟨by rw [HEL.out]; exact HOK.out.2.2 _ (by have h_ := HP0.out; have h2_ := HP1.out; rw [List.getD_eq_getElem?_getD, List.getElem?_eq_getElem (by omega)]; simp)⟩
        have hp0 := eq_true HP0.out
        have hp1 := eq_true HP1.out
        go_wp2_with (first | (at_lookup; refine wp_lookG _ rfl _ _ rfl _ _ f r HKY.out g true (by rw [hfr]; rfl) (by rw [hfr]; rfl) rfl (MapG_alloc HM.out _) rfl ?_; have n0_ := Aside0.mk (MapG_alloc HM.out (.cells #[.int .i64 r.length, .string ⟨(ktext r).toArray⟩] 48)); have n1_ := Aside0.mk (below_alloc HB.out (.cells #[.int .i64 r.length, .string ⟨(ktext r).toArray⟩] 48)); have n2_ := Aside0.mk (Kd.R_alloc UU27.out (.cells #[.int .i64 r.length, .string ⟨(ktext r).toArray⟩] 48)); have n3_ := Aside0.mk (Kd.H_alloc HH27.out (.cells #[.int .i64 r.length, .string ⟨(ktext r).toArray⟩] 48)); have n4_ := (pw_cell_below (below_alloc (Below.refl _ _) (.cells #[.int .i64 r.length, .string ⟨(ktext r).toArray⟩] 48)) hv27); clear HM HB UU27 HH27 hv27; obtain ⟨w5, hw5⟩ : ∃ w5, w5 = w2.alloc (.cells #[.int .i64 r.length, .string ⟨(ktext r).toArray⟩] 48) := ⟨_, rfl⟩; rw [← hw5] at n0_ n1_ n2_ n3_ n4_ ⊢; have HM := n0_; have HB := n1_; have UU27 := n2_; have HH27 := n3_; have hv27 := n4_; clear n0_ n1_ n2_ n3_ n4_ hw5) | ((with_reducible refine gate_builtin (b := .append) (xs := #[.tmp 41, .tmp 43]) rfl ?_); at_builtin; refine Kd.R_append (Kd.int .i64) (w0 := w) w.heap.size rfl (.tmp 41) (.tmp 43) 30 3 (.int .i64 0) 8 rfl Tryd.underlying30 info3 rfl (by decide) (by omega) (.slice A199 el.length c199) el (k : Int) [.int .i64 k] (fun k_ => oki27 k_ ∨ ((fun j => j ≠ w.heap.size)) k_ ∧ w5.heap.size ≤ k_) (fun _ => False) rfl rfl ?aP (fun _ hk => hk.elim) ?aF ?aO ?aB ?aS ?aL ?_; (case aP => exact rfl); (case aB => exact (by repeat (first | (with_reducible first | exact HB.out | apply below_alloc | apply pw_below_drewN | apply below_drew1) | exact HB.out))); (case aF => exact (fun k_ hk => .inr ⟨by have h_ := MapG_lt HM.out; show k_ ≠ w.heap.size; omega, hk⟩)); (case aO => exact (by (with_reducible repeat (first | apply Kd.R_alloc | apply Kd.R_drewN | apply Kd.R_drew)); exact Kd.R_mono UU27.out (fun _ hk => .inl hk))); (case aS => exact (below_size (by repeat (first | (with_reducible first | exact HB.out | apply below_alloc | apply pw_below_drewN | apply below_drew1) | exact HB.out)))); (case aL => have := HLE.out; omega); intro v201 w28 ho hb hg hat; have n0_ := Aside0.mk (hb); have n1_ := Aside0.mk (Kd.H_grown (Kd.H_widen (by repeat (first | exact HH27.out | refine Kd.H_alloc ?_ _ | refine Kd.H_drewN ?_ _ | refine Kd.H_drew ?_))) hg (fun k_ e_ => .inl (UU27.out.1 k_ e_))); have n2_ := Aside0.mk (ho); have n3_ := Aside0.mk (MapG_kept HM.out hg (fun e_ => HH27.out.1 _ (UU27.out.1 _ e_.symm) rfl)); clear HB; clear HH27; clear UU27; clear HM; clear hv27; have HB := n0_; have HH27 := n1_; have HO202 := n2_; have HM := n3_; clear n0_ n1_ n2_ n3_; clear ho hb hg hat; obtain ⟨Ao31, co31, eo31⟩ := Kd.R_slice HO202.out; subst eo31; obtain ⟨_, _, hraw29, _, _, hcc29, _⟩ := Kd.H_raw HH27.out HP0.out HP1.out; obtain ⟨_, hfr29⟩ := Kd.H_at HH27.out HP0.out HP1.out; have hx29_0 := hcc29 0 _ rfl; have hf29_0 := hfr29 0; (try simp only [Nat.add_zero] at hx29_0 hf29_0); (try rw [show ((Kd.slice 3 (Kd.int .i64))).sz = 1 from rfl, Nat.mul_one] at hx29_0); (try rw [show ((Kd.slice 3 (Kd.int .i64))).sz = 1 from rfl, Nat.mul_one] at hf29_0); have HP29 := Kd.S_seg0 HH27.out HP0.out HP1.out (seg := [.slice Ao31 (el ++ [(k : Int)]).length co31]) (j := 0) (show 1 ≤ 1 from by decide) (x' := el ++ [(k : Int)]) (Kd.M_row HO202.out) (fun _ hk => hk); (try simp only [show ((Kd.slice 3 (Kd.int .i64))).sz = 1 from rfl, Nat.mul_one, Nat.add_zero] at HP29); clear hcc29 hfr29) | ((with_reducible refine gate_store (t := 30) (p := 45) rfl ?_); refine store_event (t := 30) (p := 45) (v := ?vo_w30) (w1 := (w28.setCell ⟨go27, (g : Int).toNat, none⟩ (.slice Ao31 (el ++ [(k : Int)]).length co31))) ?hg ?ho ?hn ?hr ?_; (case ho => rfl); (case hg => rfl); (case hn => rfl); (case hr => first | (go_simp; done) | (go_simp; rfl)); intro w30 hw; have hg : w28.grownBy w30 (some go27) := (by rw [hw]; exact HP29.2); have hp_ : Kd.S (Kd.slice 3 (Kd.int .i64)) 30 w30 w.heap.size (fun j => j ≠ w.heap.size) (.slice (some ⟨go27, 0, none⟩) xs.length c3) (xs.set (g : Int).toNat (el ++ [(k : Int)])) := (by rw [hw]; exact HP29.1); clear HP29; have n0_ := Aside0.mk ((by rw [hw]; exact below_set HB.out GB27.out : Below w.heap.size w w30)); have n1_ := Aside0.mk (hp_); have n2_ := Aside0.mk (MapG_kept HM.out hg (fun e_ => Kd.S_away hp_ (fun _ h_ => h_) (by rw [show (Value.slice (some ⟨go27, 0, none⟩) xs.length c3).ownBlock = some go27 from rfl]; exact e_))); clear HB; clear HO202; clear HH27; clear HM; have HB := n0_; have HO := n1_; have HM := n2_; clear n0_ n1_ n2_; clear hg hw hp_ hraw29))
        go_roundg (l0.length - (k + 1))
        case measure => have := HN.out; omega
        case rel => exact ⟨k + 1, (by first | rfl | (simp; done) | (simp [*]; done)), ⟨by have := HN.out; omega⟩, ⟨by rw [HNX2.out]; exact (MapG_mono HM.out (Nat.le_succ _))⟩, ⟨by rw [HNX2.out, ← HEL.out]; exact HO.out⟩, ⟨(by repeat (first | (with_reducible first | exact HB.out | apply below_alloc | apply pw_below_drewN | apply below_drew1) | exact HB.out))⟩⟩
    · have hkk : k = l0.length := by omega
      have hkl : ¬ ((k : Int) < (l0.length : Int)) := by omega
      have hkb : decide ((k : Int) < (l0.length : Int)) = false := decide_eq_false hkl
      clear hkl
      go_wp2
      go_ret
      exact ⟨u3, rfl, by rw [← HRES.out, ← hkk]; exact Kd.S_mono HO.out (fun _ _ => trivial), HB.out⟩
end Go.Proofs.YtnllgjloimoebaaDoor.X

/- slices.Clone of a row: nil for nil, else new cells of the call's own. -/
set_option linter.unusedVariables false
set_option linter.unusedSimpArgs false
namespace Go.Proofs.YtnllgjloimoebaaDoor.X
open Go.RowKit Go.Proofs.YtnllgjloimoebaaDoorW.PrintWords Go.Proofs.YtnllgjloimoebaaDoorW.PrintLast Go.Proofs.YtnllgjloimoebaaDoorW.PrintMore

set_option maxHeartbeats 1000000 in
set_option maxRecDepth 100000 in
theorem slices_Clone_nil (c0 : Nat) (l0 : List S44) (w : World) (hr0 : Kd.C k44 w none l0.length l0) :
    Calls Tryd.prog 33 #[.slice none l0.length c0] w fun e w' => ∃ v, e = .returned v ∧ Kd.R k44 44 w' w.heap.size (fun _ => True) v l0 ∧ Below w.heap.size w w' := by
  have h0 : l0 = [] := by
    obtain ⟨h1, h2, h3⟩ := hr0
    cases l0 with
    | nil => rfl
    | cons x l =>
      obtain ⟨ad, e, _⟩ := h3 (by simp)
      cases e
  subst h0
  clear hr0
  have q33 : ∀ (w : World) (a : Option Addr) (n c n' c' : Nat), (binOp .eql 33 (.slice a n c) (.slice none n' c')).run Tryd.prog w = .ok (.bool a.isNone) w := fun w a n c n' c' => Lib.run_eql_slice_nil w _ _ a n c n' c' Tryd.underlying33
  go_enter Tryd.func33, Tryd.ntmps33
  go_wp2
  go_ret
  exact ⟨_, rfl, Kd.R_nil _ _ _ _ _, Below.refl _ _⟩

set_option maxHeartbeats 4000000 in
set_option maxRecDepth 100000 in
theorem slices_Clone_cells (ad : Addr) (c0 : Nat) (l0 : List S44) (w : World) (hr0 : Kd.C k44 w (some ad) l0.length l0) (hlen : l0.length ≤ 1099511627776) :
    Calls Tryd.prog 33 #[.slice (some ad) l0.length c0] w fun e w' => ∃ v, e = .returned v ∧ Kd.R k44 44 w' w.heap.size (fun _ => True) v l0 ∧ Below w.heap.size w w' := by
  have HR0 := Aside0.mk hr0
  clear hr0
  have HB := Aside0.mk (Below.refl w.heap.size w)
  have q33 : ∀ (w : World) (a : Option Addr) (n c n' c' : Nat), (binOp .eql 33 (.slice a n c) (.slice none n' c')).run Tryd.prog w = .ok (.bool a.isNone) w := fun w a n c n' c' => Lib.run_eql_slice_nil w _ _ a n c n' c' Tryd.underlying33
  go_enter Tryd.func33, Tryd.ntmps33
  go_wp2_with (first | ((with_reducible refine gate_dst (N := 5) rfl ?_); refine Kd.R_lit k44 _ 44 ?hg (N := 5) ?hd (xs := ([] : List (S44))) (inner := []) (ok := fun _ => True) (okp := fun _ => True) ?hr ?hp (fun _ hk => hk) trivial (Below.refl _ _) (Nat.le_refl _) (by simp) ?_; (case hd => rfl); (case hg => rfl); (case hr => first | (go_simp; done) | (go_simp; rfl)); (case hp => exact (Reps.none _ _)); intro v1 w1 ho hb hg_ hnew_; clear hg_ hnew_; have HO := Aside0.mk ho; have HB1 := Aside0.mk hb; clear ho hb) | ((with_reducible refine gate_builtin (b := .append) (xs := #[.tmp 5, .tmp 6]) rfl ?_); at_builtin; refine Kd.R_append_rows k44 (w0 := w) w.heap.size rfl (.tmp 5) (.tmp 6) 33 44 (.agg #[(.int .i64 0), (.int .i64 0), (.string ⟨#[]⟩)]) 32 rfl Tryd.underlying33 info44 rfl (by decide) (by omega) v1 ([] : List S44) l0 _ _ _ (fun _ => True) (fun _ => False) rfl rfl ?aO ?aR (fun _ _ h => h) (fun _ h => h.elim) ?aF ?aB ?aS ?aL ?_; (case aR => exact Kd.C_below HR0.out HB1.out); (case aB => exact HB1.out); (case aF => exact (fun _ _ => trivial)); (case aO => exact HO.out); (case aS => exact (below_size HB1.out)); (case aL => simp; omega); intro v2 w2 ho hb hg hat; have HO2 := Aside0.mk ho; have HB2 := Aside0.mk hb; clear ho hb hg hat))
  go_ret
  exact ⟨_, rfl, HO2.out, HB2.out⟩

theorem slices_Clone.calls (A0 : Option Addr) (c0 : Nat) (l0 : List S44) (w : World) (hr0 : Kd.C k44 w A0 l0.length l0) (hlen : l0.length ≤ 1099511627776) :
    Calls Tryd.prog 33 #[.slice A0 l0.length c0] w fun e w' => ∃ v, e = .returned v ∧ Kd.R k44 44 w' w.heap.size (fun _ => True) v l0 ∧ Below w.heap.size w w' := by
  cases A0 with
  | none => exact slices_Clone_nil c0 l0 w hr0
  | some ad => exact slices_Clone_cells ad c0 l0 w hr0 hlen
end Go.Proofs.YtnllgjloimoebaaDoor.X

/- grouper.Distinct: each row once. -/
set_option linter.unusedVariables false
set_option linter.unusedSimpArgs false
namespace Go.Proofs.YtnllgjloimoebaaDoor.X
open Go.RowKit Go.Maps Go.Proofs.YtnllgjloimoebaaDoorW.PrintWords Go.Proofs.YtnllgjloimoebaaDoorW.PrintLast Go.Proofs.YtnllgjloimoebaaDoorW.PrintMore

/-- one more row: told, if its key is new -/
def dput (s : List (List S44) × (Nat × List UInt8 → Option Int)) (r : List S44) (i : Int) : List (List S44) × (Nat × List UInt8 → Option Int) :=
  match s.2 (keyT r) with
  | some _ => s
  | none => (s.1 ++ [r], putG s.2 (keyT r) i)
def dAfter (l : List (List S44)) : Nat → List (List S44) × (Nat × List UInt8 → Option Int)
  | 0 => ([], fun _ => none)
  | k + 1 => dput (dAfter l k) (l.getD k []) k
def distinctP (l : List (List S44)) : List (List S44) := (dAfter l l.length).1
def grouper_Distinct.f (l : List (List S44)) : Option (List (List S44)) := if l.all keyable && decide (l.length ≤ 1099511627776) then some (distinctP l) else none
theorem dAfter_len (l : List (List S44)) : ∀ k, (dAfter l k).1.length ≤ k
  | 0 => by simp [dAfter]
  | k + 1 => by
    have h := dAfter_len l k
    show (dput (dAfter l k) (l.getD k []) k).1.length ≤ k + 1
    unfold dput
    split
    · omega
    · simp; omega

theorem eqA48 (d : Nat) (w : World) (x0 y0 : Int) (x1 y1 : ByteArray) :
    (Op.equalIn (d + 2) 48 (.agg #[.int .i64 x0, .string x1]) (.agg #[.int .i64 y0, .string y1])).run Tryd.prog w = .ok (x0 == y0 && x1.toList == y1.toList) w := by
  refine eqA_of Tryd.underlying48 (by kernel_rfl) ?_
  refine eqf_cons (by rfl) (by go_simp; rfl) (by go_simp; rfl) (by go_simp) ?_
  exact eqf_last (by rfl) (by go_simp; rfl) (by go_simp; rfl) (by go_simp)
section
attribute [local go_sem high] eqA48
theorem eqK48 (w : World) (x0 y0 : Int) (x1 y1 : ByteArray) (h : ¬ (x0 = y0 ∧ x1.data.toList = y1.data.toList)) :
    (binOp .eql 48 (.agg #[.int .i64 x0, .string x1]) (.agg #[.int .i64 y0, .string y1])).run Tryd.prog w = .ok (.bool false) w := by
  have h2 : (x0 == y0 && x1.toList == y1.toList) = false := by
    rw [Bool.eq_false_iff]
    intro e
    rw [ByteArray.toList_eq, ByteArray.toList_eq] at e
    simp at e
    exact h ⟨e.1, congrArg Array.toList e.2⟩
  go_simp
end

set_option maxHeartbeats 4000000 in
set_option maxRecDepth 100000 in
theorem grouper_Distinct.calls (A0 : Option Addr) (c0 : Nat) (l0 : List (List (S44))) (r : List (List (S44))) (w : World) (hr0 : Kd.C (Kd.slice 44 k44) w A0 l0.length l0) (hc0 : l0.length ≤ c0) (h : grouper_Distinct.f l0 = some r) (htab : Tab w) :
    Calls Tryd.prog 16 #[.slice A0 l0.length c0] w fun e w' => ∃ v0_ : Value, e = .returned (v0_) ∧ Kd.S (Kd.slice 44 k44) 33 w' w.heap.size (fun _ => True) v0_ r ∧ Below w.heap.size w w' := by
  have HR0 := Aside0.mk hr0
  have HC0 := Aside0.mk hc0
  have HT := Aside0.mk htab
  clear hr0 hc0 htab
  unfold grouper_Distinct.f at h
  split at h
  case isFalse => cases h
  rename_i hall
  rw [Bool.and_eq_true, decide_eq_true_eq, List.all_eq_true] at hall
  have HALL := Aside0.mk hall
  clear hall
  have h := Option.some.inj h
  unfold distinctP at h
  have HRES := Aside0.mk h
  clear h
  have hmm := @run_makeMap Tryd.prog
  go_enter Tryd.func16, Tryd.ntmps16
  go_wp2
  obtain ⟨w1, hw1⟩ : ∃ w1, w1 = (w.alloc (Obj.cells #[Value.int IntKind.i64 (-1), Value.string ⟨#[]⟩] 48)).alloc (Obj.map #[] 0) := ⟨_, rfl⟩
  have HM0 : Aside0 (MapG w1 (w.heap.size + 1) 0 (dAfter l0 0).2) := ⟨by rw [hw1]; have h_ := MapG_made (w.alloc (Obj.cells #[Value.int IntKind.i64 (-1), Value.string ⟨#[]⟩] 48)); simpa [dAfter] using h_⟩
  have HB0 : Aside0 (Below w.heap.size w w1) := ⟨by rw [hw1]; exact below_alloc (below_alloc (Below.refl _ _) _) _⟩
  have HL0 : Aside0 (w1.heap[w.heap.size]? = some (.cells #[.int .i64 (-1), .string ⟨#[]⟩] 48 (0, 0))) := ⟨by rw [hw1]; exact blk_alloc (blk_new _ _) _⟩
  rw [← hw1]
  clear hw1
  go_loopg [3, 15] l0.length (fun n v3 v15 wr => ∃ (k : Nat) (a : Int) (sb : ByteArray), v15 = .int .i64 k ∧ Aside0 (k + n = l0.length) ∧ Aside0 (MapG wr (w.heap.size + 1) k (dAfter l0 k).2) ∧ Aside0 (Kd.S (Kd.slice 44 k44) 33 wr w.heap.size (fun j => j ≠ w.heap.size ∧ j ≠ w.heap.size + 1) v3 (dAfter l0 k).1) ∧ Aside0 (wr.heap[w.heap.size]? = some (.cells #[.int .i64 a, .string sb] 48 (0, 0))) ∧ Aside0 (∀ r, keyable r = true → ((dAfter l0 k).2 (keyT r)) = none → ¬ ((r.length : Int) = a ∧ ktext r = sb.data.toList)) ∧ Aside0 (Below w.heap.size w wr))
  case atStart => exact ⟨0, -1, ⟨#[]⟩, rfl, ⟨Nat.zero_add _⟩, HM0, ⟨Kd.S_nil _ _ _ _ _⟩, HL0, ⟨fun r _ _ h => by omega⟩, HB0⟩
  case round =>
    clear HM0 HB0 HL0
    obtain ⟨k, a, sb, rfl, HN, HM, HO, HL, HA, HB⟩ := hrel
    have hn := HN.out
    by_cases hlt : k < l0.length
    · obtain ⟨ad, A1, c1, e, hx0, hl0, hi0⟩ := at_L4 HR0.out k (by omega) (by omega)
      cases e
      obtain ⟨r, hr⟩ : ∃ r, r = l0.getD k [] := ⟨_, rfl⟩
      have hh : (rd_L4 l0 (k : Int)) = l0.getD k [] := by unfold rd_L4; rw [Int.toNat_natCast]
      rw [hh, ← hr] at hx0 hl0 hi0
      have hmem : r ∈ l0 := by rw [hr, List.getD_eq_getElem?_getD, List.getElem?_eq_getElem hlt]; simp
      have HKY : Aside0 (keyable r = true) := ⟨HALL.out.1 r hmem⟩
      have HR := Aside0.mk hr
      clear hr hh hmem
      rw [Int.toNat_natCast] at hx0
      replace hx0 := (HB.out.cell (World.block_lt_of_cell? w _ hx0)).trans hx0
      have HI := Aside0.mk hi0
      have HCC := Aside0.mk hl0
      clear hi0 hl0
      have hkl : (k : Int) < (l0.length : Int) := by omega
      have hl2 : (l0.length : Int) ≤ 1099511627776 := by have := HALL.out.2; omega
      have hrl : r.length ≤ 1099511627776 := (keyable_len HKY.out).2
      clear hn
      go_wp2_with (go_at_call 29; refine (keyOf_calls A1 c1 r _ (Kd.C_below HI.out HB.out) HCC.out (by have := HKY.out; unfold keyable at this; rw [Bool.and_eq_true] at this; exact this.1) (keyable_len HKY.out).2 (tab_of HT.out HB.out)).mono ?_)
      rintro e w2 ⟨rfl, hb⟩
      have n0_ := Aside0.mk (Kd.S_below HO.out hb)
      have n1_ := Aside0.mk (MapG_below HM.out hb (MapG_lt HM.out))
      have n2_ := Aside0.mk (below_step HB.out hb)
      have n3_ := Aside0.mk (blk_below HL.out hb)
      clear HO HM HB HL hx0 hb
      have HO := n0_
      have HM := n1_
      have HB := n2_
      have HL := n3_
      clear n0_ n1_ n2_ n3_
      obtain ⟨f, hf0⟩ : ∃ f, f = (dAfter l0 k).2 := ⟨_, rfl⟩
      obtain ⟨xs, hxs⟩ : ∃ xs, xs = (dAfter l0 k).1 := ⟨_, rfl⟩
      have hok := dAfter_len l0 k
      rw [← hf0] at HM HA
      rw [← hxs] at HO hok
      have HOK := Aside0.mk hok
      have HNX : Aside0 (dAfter l0 (k + 1) = dput (xs, f) r k) := ⟨by rw [hf0, hxs, HR.out]; rfl⟩
      clear hok hf0 hxs
      have HSZ : Aside0 (w.heap.size + 1 < w2.heap.size) := ⟨MapG_lt HM.out⟩
      obtain ⟨g, hg⟩ : ∃ g, g = w2.heap.size := ⟨_, rfl⟩
      obtain ⟨w5, hw5⟩ : ∃ w5, w5 = w2.alloc (.cells #[.int .i64 r.length, .string ⟨(ktext r).toArray⟩] 48) := ⟨_, rfl⟩
      have HBX : Aside0 (w5.heap[g]? = some (.cells #[.int .i64 r.length, .string ⟨(ktext r).toArray⟩] 48 (0, 0))) := ⟨by rw [hw5, hg]; exact blk_new _ _⟩
      have n0_ := Aside0.mk (Kd.S_alloc HO.out (.cells #[.int .i64 r.length, .string ⟨(ktext r).toArray⟩] 48))
      have n1_ := Aside0.mk (MapG_alloc HM.out (.cells #[.int .i64 r.length, .string ⟨(ktext r).toArray⟩] 48))
      have n2_ := Aside0.mk (below_alloc HB.out (.cells #[.int .i64 r.length, .string ⟨(ktext r).toArray⟩] 48))
      have n3_ := Aside0.mk (blk_alloc HL.out (.cells #[.int .i64 r.length, .string ⟨(ktext r).toArray⟩] 48))
      have HSZ5 : Aside0 (w.heap.size + 1 < w5.heap.size) := ⟨by rw [hw5]; have := HSZ.out; simp; omega⟩
      have HGN : Aside0 (g ≠ w.heap.size) := ⟨by have := HSZ.out; omega⟩
      rw [← hw5] at n0_ n1_ n2_ n3_
      clear HO HM HB HL
      have HO := n0_
      have HM := n1_
      have HB := n2_
      have HL := n3_
      clear n0_ n1_ n2_ n3_
      have HG := Aside0.mk hg
      have HW5 := Aside0.mk hw5
      clear hg hw5
      have hk0 : w5.cell? ⟨g, 0, none⟩ = some (.int .i64 r.length) := (blk_cell HBX.out 0).trans rfl
      have hk1 : w5.cell? ⟨g, 1, none⟩ = some (.string ⟨(ktext r).toArray⟩) := (blk_cell HBX.out 1).trans rfl
      have hb0 : w5.cell? ⟨w.heap.size, 0, none⟩ = some (.int .i64 a) := (blk_cell HL.out 0).trans rfl
      have hb1 : w5.cell? ⟨w.heap.size, 1, none⟩ = some (.string sb) := (blk_cell HL.out 1).trans rfl
      have hf0 : w5.frozen? ⟨w.heap.size, 0, none⟩ = false := Lib.frozen_of_heap HL.out 0
      have hf1 : w5.frozen? ⟨w.heap.size, 1, none⟩ = false := Lib.frozen_of_heap HL.out 1
      cases hfr : f (keyT r) with
      | none =>
        have HNX2 : Aside0 (dAfter l0 (k + 1) = (xs ++ [r], putG f (keyT r) k)) := ⟨by rw [HNX.out]; unfold dput; simp only [hfr]⟩
        have heq : ∀ w : World, (binOp .eql 48 (.agg #[.int .i64 r.length, .string ⟨(ktext r).toArray⟩]) (.agg #[.int .i64 a, .string sb])).run Tryd.prog w = .ok (.bool false) w := fun w => eqK48 w _ _ _ _ (HA.out r HKY.out hfr)
        obtain ⟨A3, c3, e3⟩ := Kd.S_slice HO.out
        subst e3
        have hlx : xs.length ≤ k := HOK.out
        go_wp2_with (first | (at_lookup; rw [← HW5.out, ← HG.out]; refine wp_lookG _ rfl _ _ rfl _ _ f r HKY.out 0 false (by rw [hfr]; rfl) (by rw [hfr]; rfl) rfl HM.out rfl ?_) | ((with_reducible refine gate_store (t := 48) (p := 4) rfl ?_); refine store_event (t := 48) (p := 4) (v := ?vo_w30) (w1 := ((w5.setCell ⟨w.heap.size, 0, none⟩ (.int .i64 r.length)).setCell ⟨w.heap.size, 1, none⟩ (.string ⟨(ktext r).toArray⟩))) ?hg ?ho ?hn ?hr ?_; (case ho => rfl); (case hg => rfl); (case hn => rfl); (case hr => first | (go_simp; done) | (go_simp; rfl)); intro w6 hw; have n0_ := Aside0.mk (show Kd.S (Kd.slice 44 k44) 33 w6 w.heap.size (fun j => j ≠ w.heap.size ∧ j ≠ w.heap.size + 1) _ _ from (by rw [hw]; exact Kd.S_far (Kd.S_far HO.out (fun j hj => hj.1) _) (fun j hj => hj.1) _)); have n1_ := Aside0.mk (show MapG w6 (w.heap.size + 1) k f from (by rw [hw]; exact MapG_setCell (MapG_setCell HM.out (by show w.heap.size + 1 ≠ w.heap.size; omega) _) (by show w.heap.size + 1 ≠ w.heap.size; omega) _)); have n2_ := Aside0.mk (show Below w.heap.size w w6 from (by rw [hw]; exact below_set (below_set HB.out (Nat.le_refl _)) (Nat.le_refl _))); have n3_ := Aside0.mk (show w6.heap[w.heap.size]? = some (.cells #[.int .i64 r.length, .string ⟨(ktext r).toArray⟩] 48 (0, 0)) from (by rw [hw]; exact blk_set (blk_set HL.out 0 (.int .i64 r.length)) 1 (.string ⟨(ktext r).toArray⟩))); have n4_ := Aside0.mk (show w6.heap[g]? = some (.cells #[.int .i64 r.length, .string ⟨(ktext r).toArray⟩] 48 (0, 0)) from (by rw [hw, Below.heap_setCell _ _ _ g HGN.out, Below.heap_setCell _ _ _ g HGN.out]; exact HBX.out)); clear HO HM HB HL HBX hk0 hk1 hb0 hb1 hf0 hf1 hw; have HO := n0_; have HM := n1_; have HB := n2_; have HL := n3_; have HBX := n4_; clear n0_ n1_ n2_ n3_ n4_; have hk0 : w6.cell? ⟨g, 0, none⟩ = some (.int .i64 r.length) := (blk_cell HBX.out 0).trans rfl; have hk1 : w6.cell? ⟨g, 1, none⟩ = some (.string ⟨(ktext r).toArray⟩) := (blk_cell HBX.out 1).trans rfl) | (at_mapUpdate; refine wp_putG _ rfl _ _ _ rfl _ k f r HKY.out (k : Int) (i64ok_of (by omega) (by omega)) (by unfold maxLen; omega) rfl HM.out rfl rfl ?_; intro w3 hm3 hg3; have n0_ := Aside0.mk (Kd.S_grown HO.out hg3 (fun j hj e => hj.2 (Option.some.inj e))); have n1_ := Aside0.mk hm3; have n2_ := Aside0.mk (pw_below_grown HB.out (some (w.heap.size + 1)) (below_size HB.out) hg3 (fun j hj => by cases hj; omega)); have n3_ := Aside0.mk ((hg3.block w.heap.size (blk_lt HL.out) (by simp)).trans HL.out); clear HO HM HB HL HBX hk0 hk1 hm3 hg3; have HO := n0_; have HM := n1_; have HB := n2_; have HL := n3_; clear n0_ n1_ n2_ n3_) | (go_at_call 33; refine (slices_Clone.calls A1 c1 r _ (Kd.C_below HI.out HB.out) hrl).mono ?_; rintro e w7 ⟨vc, rfl, hoc, hb⟩; have n0_ := Aside0.mk (Kd.S_elder' HO.out (Kd.R_base hoc) hb); have n1_ := Aside0.mk (MapG_below HM.out hb (MapG_lt HM.out)); have n2_ := Aside0.mk (below_step HB.out hb); have n3_ := Aside0.mk (blk_below HL.out hb); have n4_ := Aside0.mk (Kd.R_lower (base' := w.heap.size) (Kd.R_mono (ok' := fun k_ => k_ ≠ w.heap.size ∧ k_ ≠ w.heap.size + 1 ∧ some k_ ≠ (.slice A3 xs.length c3 : Value).ownBlock) (Kd.R_bound hoc) (fun k_ hk_ => by have h1_ := hk_.2.1; have h2_ := MapG_lt HM.out; exact ⟨by omega, by omega, fun e_ => by have h3_ := Kd.S_lt HO.out k_ e_.symm; omega⟩)) (below_size HB.out)); clear HO HM HB HL hoc hb; have HO := n0_; have HM := n1_; have HB := n2_; have HL := n3_; have HOC := n4_; clear n0_ n1_ n2_ n3_ n4_; obtain ⟨Ac, cc, ec⟩ := Kd.R_slice HOC.out; subst ec) | ((with_reducible refine gate_builtin (b := .append) (xs := #[.tmp 38, .tmp 41]) rfl ?_); at_builtin; refine Kd.S_append (Kd.slice 44 k44) (w0 := w) w.heap.size rfl (.tmp 38) (.tmp 41) 22 33 (.slice none 0 0) 24 rfl Tryd.underlying22 info33 rfl (by decide) (by omega) (.slice A3 xs.length c3) xs r [.slice Ac r.length cc] (fun j => j ≠ w.heap.size ∧ j ≠ w.heap.size + 1) (fun k_ => some k_ = (.slice Ac r.length cc : Value).ownBlock) rfl rfl ?aP (fun k_ hk_ => ⟨⟨(HOC.out.1 k_ hk_.symm).1, (HOC.out.1 k_ hk_.symm).2.1⟩, (HOC.out.1 k_ hk_.symm).2.2⟩) ?aF ?aO ?aB ?aS ?aL ?_; (case aP => exact Kd.M_row (Kd.R_tight rfl HOC.out)); (case aB => exact HB.out); (case aF => exact (fun k_ hk_ => by have h_ := MapG_lt HM.out; exact ⟨by omega, by omega⟩)); (case aO => exact HO.out); (case aS => exact (below_size HB.out)); (case aL => omega); intro v201 w28 ho hb hg hat; have n0_ := Aside0.mk hb; have n1_ := Aside0.mk ho; have n2_ := Aside0.mk (MapG_kept HM.out hg (Kd.S_away HO.out (fun _ h_ => h_.1.2))); have n3_ := Aside0.mk ((hg.block w.heap.size (blk_lt HL.out) (Kd.S_away HO.out (fun _ h_ => h_.1.1))).trans HL.out); clear HB HO HM HL HOC ho hb hg hat; have HB := n0_; have HO := n1_; have HM := n2_; have HL := n3_; clear n0_ n1_ n2_ n3_))
        go_roundg (l0.length - (k + 1))
        case measure => have := HN.out; omega
        case rel => exact ⟨k + 1, _, _, (by first | rfl | (simp; done) | (simp [*]; done)), ⟨by have := HN.out; omega⟩, ⟨by rw [HNX2.out]; exact HM.out⟩, ⟨by rw [HNX2.out]; exact HO.out⟩, HL, ⟨by
          rw [HNX2.out]
          intro r' _ h_ h2_
          apply absurd h_
          show ¬ (putG f (keyT r) k (keyT r') = none)
          unfold putG
          rw [if_pos (by unfold keyT; exact Prod.ext (by have := h2_.1; show r'.length = r.length; omega) h2_.2)]
          simp⟩, ⟨(by repeat (first | (with_reducible first | exact HB.out | apply below_alloc | apply pw_below_drewN | apply below_drew1) | exact HB.out))⟩⟩
      | some gx =>
        have HNX2 : Aside0 (dAfter l0 (k + 1) = (xs, f)) := ⟨by rw [HNX.out]; unfold dput; simp only [hfr]⟩
        obtain ⟨A3, c3, e3⟩ := Kd.S_slice HO.out
        subst e3
        have hlx : xs.length ≤ k := HOK.out
        go_wp2_with (first | (at_lookup; rw [← HW5.out, ← HG.out]; refine wp_lookG _ rfl _ _ rfl _ _ f r HKY.out gx true (by rw [hfr]; rfl) (by rw [hfr]; rfl) rfl HM.out rfl ?_))
        go_roundg (l0.length - (k + 1))
        case measure => have := HN.out; omega
        case rel => exact ⟨k + 1, _, _, (by first | rfl | (simp; done) | (simp [*]; done)), ⟨by have := HN.out; omega⟩, ⟨by rw [HNX2.out]; exact MapG_mono HM.out (Nat.le_succ _)⟩, ⟨by rw [HNX2.out]; exact HO.out⟩, HL, ⟨by rw [HNX2.out]; exact HA.out⟩, ⟨(by repeat (first | (with_reducible first | exact HB.out | apply below_alloc | apply pw_below_drewN | apply below_drew1) | exact HB.out))⟩⟩
    · have hkk : k = l0.length := by omega
      have hkl : ¬ ((k : Int) < (l0.length : Int)) := by omega
      have hkb : decide ((k : Int) < (l0.length : Int)) = false := decide_eq_false hkl
      clear hkl
      go_wp2
      go_ret
      exact ⟨u3, rfl, by rw [← HRES.out, ← hkk]; exact Kd.S_mono HO.out (fun _ _ => trivial), HB.out⟩
end Go.Proofs.YtnllgjloimoebaaDoor.X

/- Words of this session's own for the printed texts: a call through a function value that is a named function. -/
namespace Go.Proofs.YtnllgjloimoebaaDoor.X
open Go.RowKit Go.Proofs.YtnllgjloimoebaaDoorW.PrintWords Go.Proofs.YtnllgjloimoebaaDoorW.PrintLast
section
variable {P : Program} {ops : Array Oper} {Q : Exit → Act → World → Prop}
theorem goesVL_ {rest : List Oper} {oi : Oper} {a : Act} {w : World} (N : Option Tmp) (hd : oi.dst = N) (hg : oi.guard = none) {f : FuncId} {fn : Func} {x : Operand} {xs : Array Operand} {ts : Array TypeId} (hf : P.funcs[f]? = some fn) (hname : (fn.name == "runtime.NumGoroutine") = false) (hb : fn.body.isSome = true) (args : Array Value)
    (hop : oi.op = .call { callee := .value x, args := xs, argTypes := ts }) (hargs : xs.map a.eval = args)
    (h : Calls P f args w fun e w' => ∃ v, e = .returned v ∧ wpList P ops Q rest (a.put N v) w') (hx : a.eval x = .func (.func f) #[] #[] := by rfl) : wpList P ops Q (oi :: rest) a w := by
  refine wpList_plain hg fun K hK => ?_
  have he := enters_ hf hname hb args w
  have hrun : (execOp a.eval oi).run P w = .ok (.enter f args) w := by
    unfold execOp
    simp [hop, resolve, Deferred.ofValue, invoke, hargs, hx, he]
  unfold Oper.wp
  rw [hrun, Oper.upon_enter]
  refine h.mono fun e w'' hh => ?_
  obtain ⟨v, rfl, hk⟩ := hh
  subst hd
  exact hK _ _ hk
end
end Go.Proofs.YtnllgjloimoebaaDoor.X

/- 'Below' with one fact more: the tape's place has not gone back. The printed texts of value.Order, slices.CompareFunc and value.Orders, told anew over this word. -/
namespace Go.Proofs.YtnllgjloimoebaaDoor.X.D
open Go.RowKit Go.Proofs.YtnllgjloimoebaaDoorW.PrintWords Go.Proofs.YtnllgjloimoebaaDoorW.PrintLast Go.Proofs.YtnllgjloimoebaaDoorW.PrintMore

structure Below (B : Nat) (w w' : World) : Prop where
  b : Go.RowKit.Below B w w'
  dr : w.drawn ≤ w'.drawn
theorem Below.refl (B : Nat) (w : World) : Below B w w := ⟨Go.RowKit.Below.refl B w, Nat.le_refl _⟩
theorem Below.trans {B : Nat} {a b c : World} (h : Below B a b) (k : Below B b c) : Below B a c := ⟨h.b.trans k.b, Nat.le_trans h.dr k.dr⟩
theorem Below.cell {B : Nat} {w w' : World} (h : Below B w w') {p : Addr} (hp : p.block < B) : w'.cell? p = w.cell? p := h.b.cell hp
theorem Below.alloc {B : Nat} {a w : World} (h : Below B a w) (hB : B ≤ w.heap.size) (o : Obj) : Below B a (w.alloc o) := ⟨h.b.alloc hB o, h.dr⟩
theorem below_alloc {w W : World} (h : Below w.heap.size w W) (o : Obj) : Below w.heap.size w (W.alloc o) := ⟨Go.Proofs.YtnllgjloimoebaaDoorW.PrintWords.below_alloc h.b o, h.dr⟩
theorem pw_below_drewN {B : Nat} {w W : World} (h : Below B w W) (n : Nat) : Below B w (W.drewN n) := ⟨Go.Proofs.YtnllgjloimoebaaDoorW.PrintWords.pw_below_drewN h.b n, Nat.le_trans h.dr (Nat.le_add_right _ _)⟩
theorem below_drew1 {base : Nat} {w W : World} (h : Below base w W) : Below base w W.drew := ⟨Go.Proofs.YtnllgjloimoebaaDoorW.PrintWords.below_drew1 h.b, Nat.le_trans h.dr (Nat.le_add_right _ _)⟩
theorem below_step {w W w2 : World} (h : Below w.heap.size w W) (k : Below W.heap.size W w2) : Below w.heap.size w w2 := ⟨Go.Proofs.YtnllgjloimoebaaDoorW.PrintWords.below_step h.b k.b, Nat.le_trans h.dr k.dr⟩
theorem below_set {w W : World} {g j : Nat} {v : Value} (h : Below w.heap.size w W) (hg : w.heap.size ≤ g) : Below w.heap.size w (W.setCell ⟨g, j, none⟩ v) := ⟨Go.Proofs.YtnllgjloimoebaaDoorW.PrintWords.below_set h.b hg, h.dr⟩
theorem below_size {w W : World} (h : Below w.heap.size w W) : w.heap.size ≤ W.heap.size := h.b.size
theorem blk_below {w w1 : World} {g : Nat} {o : Obj} (h : w.heap[g]? = some o) (hb : Below w.heap.size w w1) : w1.heap[g]? = some o := Go.Proofs.YtnllgjloimoebaaDoorW.PrintWords.blk_below h hb.b
section
variable {P : Program} {ops : Array Oper} {rest : List Oper} {o : Oper} {a : Act} {Q : Exit → Act → World → Prop}
theorem box_event {W : World} (hgd : o.guard = none) {N : Tmp} (_hd : o.dst = some N) {cs : Array Value} {t : TypeId}
    (hrun : (execOp a.eval o).run P W = .ok (.value (.pointer (some ⟨W.heap.size, 0, none⟩))) (W.alloc (.cells cs t (0, 0))))
    (h : ∀ g, g = W.heap.size → ∀ w1, w1.heap[g]? = some (.cells cs t (0, 0)) → Below W.heap.size W w1 → wpList P ops Q rest (a.put o.dst (.pointer (some ⟨g, 0, none⟩))) w1) : wpList P ops Q (o :: rest) a W :=
  Kd.event_run hgd hrun (h _ rfl _ (blk_new W _) (below_alloc (Below.refl _ _) _))
theorem Kd.R_lit_step {α : Type} {Kc : Act → World → Prop} (d : Kd α) {w0 W : World} (base e : Nat) (hw : Region.wanted o (yielded ops a.tmps) = true) {N : Tmp} (_hd : o.dst = some N) {xs : List α} {inner : List Value} {ok okp : Nat → Prop}
    (hrun : (execOp a.eval o).run P W = .ok (.value (.slice (some ⟨W.heap.size, 0, none⟩) xs.length xs.length)) (W.alloc (.cells inner.toArray e)))
    (hrep : Reps (d.M W base okp) d.sz xs inner) (hok : ∀ k, okp k → ok k) (hfresh : ok W.heap.size) (HB : Below base w0 W) (hbase : base ≤ W.heap.size) (hm : xs.length ≤ 9223372036854775807)
    (h : ∀ v1 w1, d.R e w1 base ok v1 xs → Below base w0 w1 → W.grownBy w1 none → (∃ b, v1.ownBlock = some b ∧ W.heap.size ≤ b) → Kc (a.put o.dst v1) w1) : if Region.wanted o (yielded ops a.tmps) = true then Oper.wp P o a W Kc Q else Kc (a.put o.dst undef) W := by
  refine event_step hw hrun (h _ _ ⟨fun k hk => ?_, inner, ?_, ?_⟩ (HB.alloc hbase _) (World.grownBy_alloc W _ none) ⟨W.heap.size, by simp [Value.ownBlock], Nat.le_refl _⟩)
  · have : W.heap.size = k := by simpa [Value.ownBlock] using hk
    subst this
    exact hfresh
  · have h2 := World.ownsRow_lit (base := base) (e := e) (size := d.sz) W inner.toArray xs.length hbase (by simpa [maxLen] using hm) (by simpa using hrep.1)
    simpa using h2
  · refine hrep.imp_ (fun p c hp => d.M_mono (fun k hk => ⟨hok k hk.1, fun he => ?_⟩) (Kd.M_below (d.M_bound hp) (Go.Proofs.YtnllgjloimoebaaDoorW.PrintWords.below_alloc (Go.RowKit.Below.refl _ _) _)))
    have h3 : k = W.heap.size := by simpa [Value.ownBlock] using he
    have := hk.2.2.1
    omega
end
/-- What the sort asks: new blocks and draws. -/
theorem Below.grows {w w' : World} (h : Below w.heap.size w w') : ∃ q os, w' = Go.Sort.grow (w.drewN q) os := by
  obtain ⟨hb, hd⟩ := h
  refine ⟨w'.drawn - w.drawn, w'.heap.extract w.heap.size w'.heap.size, ?_⟩
  obtain ⟨h1, h2, h3, h4, h5⟩ := hb
  obtain ⟨heap, tape, drawn, o, output⟩ := w
  obtain ⟨heap', tape', drawn', o', output'⟩ := w'
  simp only at h1 h2 h3 h4 h5 hd
  subst h1; subst h2; subst h3
  simp only [Go.Sort.grow, World.drewN, World.mk.injEq, true_and, and_true]
  refine ⟨?_, by omega⟩
  apply Array.ext_getElem?
  intro i
  by_cases hi : i < heap.size
  · rw [Array.getElem?_append_left hi, h5 i hi]
  · rw [Array.getElem?_append_right (by omega), Array.getElem?_extract]
    simp only [Nat.min_self]
    by_cases hj : i < heap'.size
    · rw [if_pos (by omega)]; congr 1; omega
    · rw [if_neg (by omega), Array.getElem?_eq_none (by omega)]
end Go.Proofs.YtnllgjloimoebaaDoor.X.D

/- Contracts of Go's library at this dump (by the kit's lay-plain): slices.SortFunc at [][]int, []int, [][2]int. -/
namespace Go.Proofs
open Go.Shelf
def Tryd.laysSlF06_f42_ren : Go.Shelf.Ren := ⟨fun | 6 => 42 | 15 => 53 | 14 => 60 | 28 => 74 | 29 => 75 | 20 => 79 | 21 => 80 | 22 => 81 | 23 => 82 | 24 => 83 | 25 => 84 | 26 => 85 | 27 => 86 | 46 => 105 | 47 => 92 | 48 => 93 | 49 => 106 | 50 => 107 | 57 => 117 | n => n, fun | 22 => 34 | 24 => 40 | 25 => 65 | 3 => 3 | 39 => 80 | 0 => 0 | 53 => 99 | 55 => 101 | 4 => 4 | 46 => 93 | 45 => 92 | 50 => 50 | 5 => 5 | 9 => 9 | 66 => 114 | 70 => 118 | 76 => 131 | 77 => 132 | n => n, fun | n => n⟩
theorem Tryd.laysSlF06_f42 : Go.Proofs.SlLaysF0.n6 Tryd.prog Tryd.laysSlF06_f42_ren := {
  mixed := by kernel_rfl
  f6 := ⟨Tryd.f42.name, by decide, Tryd.func42.trans (congrArg some (by kernel_rfl))⟩
  f14 := ⟨Tryd.f60.name, by decide, Tryd.func60.trans (congrArg some (by kernel_rfl))⟩
  f15 := Tryd.func53.trans (congrArg some (by kernel_rfl))
  f20 := ⟨Tryd.f79.name, by decide, Tryd.func79.trans (congrArg some (by kernel_rfl))⟩
  f21 := ⟨Tryd.f80.name, by decide, Tryd.func80.trans (congrArg some (by kernel_rfl))⟩
  f22 := ⟨Tryd.f81.name, by decide, Tryd.func81.trans (congrArg some (by kernel_rfl))⟩
  f23 := ⟨Tryd.f82.name, by decide, Tryd.func82.trans (congrArg some (by kernel_rfl))⟩
  f24 := ⟨Tryd.f83.name, by decide, Tryd.func83.trans (congrArg some (by kernel_rfl))⟩
  f25 := ⟨Tryd.f84.name, by decide, Tryd.func84.trans (congrArg some (by kernel_rfl))⟩
  f26 := ⟨Tryd.f85.name, by decide, Tryd.func85.trans (congrArg some (by kernel_rfl))⟩
  f27 := ⟨Tryd.f86.name, by decide, Tryd.func86.trans (congrArg some (by kernel_rfl))⟩
  f28 := Tryd.func74.trans (congrArg some (by kernel_rfl))
  f29 := Tryd.func75.trans (congrArg some (by kernel_rfl))
  f46 := ⟨Tryd.f105.name, by decide, Tryd.func105.trans (congrArg some (by kernel_rfl))⟩
  f47 := Tryd.func92.trans (congrArg some (by kernel_rfl))
  f48 := Tryd.func93.trans (congrArg some (by kernel_rfl))
  f49 := ⟨Tryd.f106.name, by decide, Tryd.func106.trans (congrArg some (by kernel_rfl))⟩
  f50 := ⟨Tryd.f107.name, by decide, Tryd.func107.trans (congrArg some (by kernel_rfl))⟩
  f57 := ⟨Tryd.f117.name, by decide, Tryd.func117.trans (congrArg some (by kernel_rfl))⟩
  t0 := Tryd.underlying0
  a0 := Tryd.isAgg0
  z0 := Tryd.sizeOf0
  v0 := Tryd.zeroValue0
  t3 := Tryd.underlying3
  a3 := Tryd.isAgg3
  z3 := Tryd.sizeOf3
  v3 := Tryd.zeroValue3
  t4 := Tryd.underlying4
  a4 := Tryd.isAgg4
  z4 := Tryd.sizeOf4
  v4 := Tryd.zeroValue4
  t5 := Tryd.underlying5
  a5 := Tryd.isAgg5
  z5 := Tryd.sizeOf5
  v5 := Tryd.zeroValue5
  t9 := Tryd.underlying9
  a9 := Tryd.isAgg9
  z9 := Tryd.sizeOf9
  v9 := Tryd.zeroValue9
  t22 := Tryd.underlying34
  a22 := Tryd.isAgg34
  z22 := Tryd.sizeOf34
  v22 := Tryd.zeroValue34
  t25 := Tryd.underlying65
  a25 := Tryd.isAgg65
  z25 := Tryd.sizeOf65
  v25 := Tryd.zeroValue65
  t39 := Tryd.underlying80
  a39 := Tryd.isAgg80
  z39 := Tryd.sizeOf80
  v39 := Tryd.zeroValue80
  t45 := Tryd.underlying92
  a45 := Tryd.isAgg92
  z45 := Tryd.sizeOf92
  v45 := Tryd.zeroValue92
  t46 := Tryd.underlying93
  a46 := Tryd.isAgg93
  z46 := Tryd.sizeOf93
  v46 := Tryd.zeroValue93
  t50 := Tryd.underlying50
  a50 := Tryd.isAgg50
  z50 := Tryd.sizeOf50
  v50 := Tryd.zeroValue50
  t53 := Tryd.underlying99
  a53 := Tryd.isAgg99
  z53 := Tryd.sizeOf99
  v53 := Tryd.zeroValue99
  t55 := Tryd.underlying101
  a55 := Tryd.isAgg101
  z55 := Tryd.sizeOf101
  v55 := Tryd.zeroValue101
  t66 := Tryd.underlying114
  a66 := Tryd.isAgg114
  z66 := Tryd.sizeOf114
  v66 := Tryd.zeroValue114
  t70 := Tryd.underlying118
  a70 := Tryd.isAgg118
  z70 := Tryd.sizeOf118
  v70 := Tryd.zeroValue118
  t76 := Tryd.underlying131
  a76 := Tryd.isAgg131
  z76 := Tryd.sizeOf131
  v76 := Tryd.zeroValue131
  t77 := Tryd.underlying132
  a77 := Tryd.isAgg132
  z77 := Tryd.sizeOf132
  v77 := Tryd.zeroValue132 }
open Go.RowKit Go.Lib Go.Sort in
/-- **slices.SortFunc, IN THE DOCUMENTATION's OWN TERMS: A PERMUTATION OF WHAT THE ROW HELD, SORTED BY 'cmp(a, b) < 0'.** Which of two equals comes first is left open ("The sort is not guaranteed to be stable"). (LAID AT THE INSTANCE 'slices.SortFunc[[][2]int,[2]int]': no walk: one application.) -/
theorem Tryd.slices_SortFunc {α : Type} [Inhabited α] (k : Nat) (aE : ∀ w, (isAgg 40).run Tryd.prog w = .ok true w) (zE : ∀ w, (Go.sizeOf 40).run Tryd.prog w = .ok k w) (enc : α → List Value) (hk : ∀ x, (enc x).length = k) (h1 : ∀ x, ∀ v ∈ enc x, v.oneCell' = true) (cf : α → α → Int) (hO : SWO (ltOf cf)) (g : Nat) (cb : Array Value) (blk off cap : Nat) (d : Array α) (w : World) (eg : ∀ args w, (callFunc g args).run Tryd.prog w = .ok (.enter g args) w) (hcmp : CmpLays Tryd.prog g cb enc k cf blk off d.size w) (hH : HoldsK enc k w blk off d) (hblk : blk < w.heap.size) (hsz : d.size < 4611686018427387904) :
    Calls Tryd.prog 42 #[.slice (some ⟨blk, off, none⟩) d.size cap, .func (.func g) #[] cb] w fun e w' =>
      e = .returned (.tuple #[]) ∧ ∃ d' n os, PermIn 0 d.size d d' ∧ SortedIn (ltOf cf) 0 d.size d' ∧ w' = sortWorldK enc k w blk off n d' os := AnyQ.slices_SortFunc Tryd.laysSlF06_f42 k aE zE enc hk h1 cf hO g cb blk off cap d w eg hcmp hH hblk hsz
def Tryd.laysSlF6_f31_ren : Go.Shelf.Ren := ⟨fun | 6 => 31 | 15 => 53 | 14 => 52 | 28 => 74 | 29 => 75 | 20 => 66 | 21 => 67 | 22 => 68 | 23 => 69 | 24 => 70 | 25 => 71 | 26 => 72 | 27 => 73 | 46 => 91 | 47 => 92 | 48 => 93 | 49 => 94 | 50 => 95 | 57 => 113 | n => n, fun | 22 => 25 | 24 => 30 | 25 => 52 | 3 => 3 | 39 => 80 | 0 => 0 | 53 => 99 | 55 => 101 | 4 => 4 | 46 => 93 | 45 => 92 | 50 => 50 | 5 => 5 | 9 => 9 | 66 => 114 | 70 => 118 | 76 => 131 | 77 => 132 | n => n, fun | n => n⟩
theorem Tryd.laysSlF6_f31 : Go.Proofs.SlLaysF.n6 Tryd.prog Tryd.laysSlF6_f31_ren := {
  mixed := by kernel_rfl
  f6 := ⟨Tryd.f31.name, by decide, Tryd.func31.trans (congrArg some (by kernel_rfl))⟩
  f14 := ⟨Tryd.f52.name, by decide, Tryd.func52.trans (congrArg some (by kernel_rfl))⟩
  f15 := Tryd.func53.trans (congrArg some (by kernel_rfl))
  f20 := ⟨Tryd.f66.name, by decide, Tryd.func66.trans (congrArg some (by kernel_rfl))⟩
  f21 := ⟨Tryd.f67.name, by decide, Tryd.func67.trans (congrArg some (by kernel_rfl))⟩
  f22 := ⟨Tryd.f68.name, by decide, Tryd.func68.trans (congrArg some (by kernel_rfl))⟩
  f23 := ⟨Tryd.f69.name, by decide, Tryd.func69.trans (congrArg some (by kernel_rfl))⟩
  f24 := ⟨Tryd.f70.name, by decide, Tryd.func70.trans (congrArg some (by kernel_rfl))⟩
  f25 := ⟨Tryd.f71.name, by decide, Tryd.func71.trans (congrArg some (by kernel_rfl))⟩
  f26 := ⟨Tryd.f72.name, by decide, Tryd.func72.trans (congrArg some (by kernel_rfl))⟩
  f27 := ⟨Tryd.f73.name, by decide, Tryd.func73.trans (congrArg some (by kernel_rfl))⟩
  f28 := Tryd.func74.trans (congrArg some (by kernel_rfl))
  f29 := Tryd.func75.trans (congrArg some (by kernel_rfl))
  f46 := ⟨Tryd.f91.name, by decide, Tryd.func91.trans (congrArg some (by kernel_rfl))⟩
  f47 := Tryd.func92.trans (congrArg some (by kernel_rfl))
  f48 := Tryd.func93.trans (congrArg some (by kernel_rfl))
  f49 := ⟨Tryd.f94.name, by decide, Tryd.func94.trans (congrArg some (by kernel_rfl))⟩
  f50 := ⟨Tryd.f95.name, by decide, Tryd.func95.trans (congrArg some (by kernel_rfl))⟩
  f57 := ⟨Tryd.f113.name, by decide, Tryd.func113.trans (congrArg some (by kernel_rfl))⟩
  t0 := Tryd.underlying0
  a0 := Tryd.isAgg0
  z0 := Tryd.sizeOf0
  v0 := Tryd.zeroValue0
  t3 := Tryd.underlying3
  a3 := Tryd.isAgg3
  z3 := Tryd.sizeOf3
  v3 := Tryd.zeroValue3
  t4 := Tryd.underlying4
  a4 := Tryd.isAgg4
  z4 := Tryd.sizeOf4
  v4 := Tryd.zeroValue4
  t5 := Tryd.underlying5
  a5 := Tryd.isAgg5
  z5 := Tryd.sizeOf5
  v5 := Tryd.zeroValue5
  t9 := Tryd.underlying9
  a9 := Tryd.isAgg9
  z9 := Tryd.sizeOf9
  v9 := Tryd.zeroValue9
  t22 := Tryd.underlying25
  a22 := Tryd.isAgg25
  z22 := Tryd.sizeOf25
  v22 := Tryd.zeroValue25
  a24 := Tryd.isAgg30
  z24 := Tryd.sizeOf30
  t25 := Tryd.underlying52
  a25 := Tryd.isAgg52
  z25 := Tryd.sizeOf52
  v25 := Tryd.zeroValue52
  t39 := Tryd.underlying80
  a39 := Tryd.isAgg80
  z39 := Tryd.sizeOf80
  v39 := Tryd.zeroValue80
  t45 := Tryd.underlying92
  a45 := Tryd.isAgg92
  z45 := Tryd.sizeOf92
  v45 := Tryd.zeroValue92
  t46 := Tryd.underlying93
  a46 := Tryd.isAgg93
  z46 := Tryd.sizeOf93
  v46 := Tryd.zeroValue93
  t50 := Tryd.underlying50
  a50 := Tryd.isAgg50
  z50 := Tryd.sizeOf50
  v50 := Tryd.zeroValue50
  t53 := Tryd.underlying99
  a53 := Tryd.isAgg99
  z53 := Tryd.sizeOf99
  v53 := Tryd.zeroValue99
  t55 := Tryd.underlying101
  a55 := Tryd.isAgg101
  z55 := Tryd.sizeOf101
  v55 := Tryd.zeroValue101
  t66 := Tryd.underlying114
  a66 := Tryd.isAgg114
  z66 := Tryd.sizeOf114
  v66 := Tryd.zeroValue114
  t70 := Tryd.underlying118
  a70 := Tryd.isAgg118
  z70 := Tryd.sizeOf118
  v70 := Tryd.zeroValue118
  t76 := Tryd.underlying131
  a76 := Tryd.isAgg131
  z76 := Tryd.sizeOf131
  v76 := Tryd.zeroValue131
  t77 := Tryd.underlying132
  a77 := Tryd.isAgg132
  z77 := Tryd.sizeOf132
  v77 := Tryd.zeroValue132 }
def Tryd.laysSlF6_f58_ren : Go.Shelf.Ren := ⟨fun | 6 => 58 | 15 => 53 | 14 => 78 | 28 => 74 | 29 => 75 | 20 => 97 | 21 => 98 | 22 => 99 | 23 => 100 | 24 => 101 | 25 => 102 | 26 => 103 | 27 => 104 | 46 => 114 | 47 => 92 | 48 => 93 | 49 => 115 | 50 => 116 | 57 => 123 | n => n, fun | 22 => 30 | 24 => 3 | 25 => 64 | 3 => 3 | 39 => 80 | 0 => 0 | 53 => 99 | 55 => 101 | 4 => 4 | 46 => 93 | 45 => 92 | 50 => 50 | 5 => 5 | 9 => 9 | 66 => 114 | 70 => 118 | 76 => 131 | 77 => 132 | n => n, fun | n => n⟩
theorem Tryd.laysSlF6_f58 : Go.Proofs.SlLaysF.n6 Tryd.prog Tryd.laysSlF6_f58_ren := {
  mixed := by kernel_rfl
  f6 := ⟨Tryd.f58.name, by decide, Tryd.func58.trans (congrArg some (by kernel_rfl))⟩
  f14 := ⟨Tryd.f78.name, by decide, Tryd.func78.trans (congrArg some (by kernel_rfl))⟩
  f15 := Tryd.func53.trans (congrArg some (by kernel_rfl))
  f20 := ⟨Tryd.f97.name, by decide, Tryd.func97.trans (congrArg some (by kernel_rfl))⟩
  f21 := ⟨Tryd.f98.name, by decide, Tryd.func98.trans (congrArg some (by kernel_rfl))⟩
  f22 := ⟨Tryd.f99.name, by decide, Tryd.func99.trans (congrArg some (by kernel_rfl))⟩
  f23 := ⟨Tryd.f100.name, by decide, Tryd.func100.trans (congrArg some (by kernel_rfl))⟩
  f24 := ⟨Tryd.f101.name, by decide, Tryd.func101.trans (congrArg some (by kernel_rfl))⟩
  f25 := ⟨Tryd.f102.name, by decide, Tryd.func102.trans (congrArg some (by kernel_rfl))⟩
  f26 := ⟨Tryd.f103.name, by decide, Tryd.func103.trans (congrArg some (by kernel_rfl))⟩
  f27 := ⟨Tryd.f104.name, by decide, Tryd.func104.trans (congrArg some (by kernel_rfl))⟩
  f28 := Tryd.func74.trans (congrArg some (by kernel_rfl))
  f29 := Tryd.func75.trans (congrArg some (by kernel_rfl))
  f46 := ⟨Tryd.f114.name, by decide, Tryd.func114.trans (congrArg some (by kernel_rfl))⟩
  f47 := Tryd.func92.trans (congrArg some (by kernel_rfl))
  f48 := Tryd.func93.trans (congrArg some (by kernel_rfl))
  f49 := ⟨Tryd.f115.name, by decide, Tryd.func115.trans (congrArg some (by kernel_rfl))⟩
  f50 := ⟨Tryd.f116.name, by decide, Tryd.func116.trans (congrArg some (by kernel_rfl))⟩
  f57 := ⟨Tryd.f123.name, by decide, Tryd.func123.trans (congrArg some (by kernel_rfl))⟩
  t0 := Tryd.underlying0
  a0 := Tryd.isAgg0
  z0 := Tryd.sizeOf0
  v0 := Tryd.zeroValue0
  t3 := Tryd.underlying3
  a3 := Tryd.isAgg3
  z3 := Tryd.sizeOf3
  v3 := Tryd.zeroValue3
  t4 := Tryd.underlying4
  a4 := Tryd.isAgg4
  z4 := Tryd.sizeOf4
  v4 := Tryd.zeroValue4
  t5 := Tryd.underlying5
  a5 := Tryd.isAgg5
  z5 := Tryd.sizeOf5
  v5 := Tryd.zeroValue5
  t9 := Tryd.underlying9
  a9 := Tryd.isAgg9
  z9 := Tryd.sizeOf9
  v9 := Tryd.zeroValue9
  t22 := Tryd.underlying30
  a22 := Tryd.isAgg30
  z22 := Tryd.sizeOf30
  v22 := Tryd.zeroValue30
  a24 := Tryd.isAgg3
  z24 := Tryd.sizeOf3
  t25 := Tryd.underlying64
  a25 := Tryd.isAgg64
  z25 := Tryd.sizeOf64
  v25 := Tryd.zeroValue64
  t39 := Tryd.underlying80
  a39 := Tryd.isAgg80
  z39 := Tryd.sizeOf80
  v39 := Tryd.zeroValue80
  t45 := Tryd.underlying92
  a45 := Tryd.isAgg92
  z45 := Tryd.sizeOf92
  v45 := Tryd.zeroValue92
  t46 := Tryd.underlying93
  a46 := Tryd.isAgg93
  z46 := Tryd.sizeOf93
  v46 := Tryd.zeroValue93
  t50 := Tryd.underlying50
  a50 := Tryd.isAgg50
  z50 := Tryd.sizeOf50
  v50 := Tryd.zeroValue50
  t53 := Tryd.underlying99
  a53 := Tryd.isAgg99
  z53 := Tryd.sizeOf99
  v53 := Tryd.zeroValue99
  t55 := Tryd.underlying101
  a55 := Tryd.isAgg101
  z55 := Tryd.sizeOf101
  v55 := Tryd.zeroValue101
  t66 := Tryd.underlying114
  a66 := Tryd.isAgg114
  z66 := Tryd.sizeOf114
  v66 := Tryd.zeroValue114
  t70 := Tryd.underlying118
  a70 := Tryd.isAgg118
  z70 := Tryd.sizeOf118
  v70 := Tryd.zeroValue118
  t76 := Tryd.underlying131
  a76 := Tryd.isAgg131
  z76 := Tryd.sizeOf131
  v76 := Tryd.zeroValue131
  t77 := Tryd.underlying132
  a77 := Tryd.isAgg132
  z77 := Tryd.sizeOf132
  v77 := Tryd.zeroValue132 }
open Go.RowKit Go.Lib Go.Sort in
/-- **slices.SortFunc, IN THE DOCUMENTATION's OWN TERMS: A PERMUTATION OF WHAT THE ROW HELD, SORTED BY 'cmp(a, b) < 0'.** Which of two equals comes first is left open ("The sort is not guaranteed to be stable"). (LAID AT THE INSTANCE 'slices.SortFunc[[][]int,[]int]': no walk: one application.) -/
theorem Tryd.slices_SortFunc_f31 {α : Type} [Inhabited α] (enc : α → Value) (h1 : OneCell enc) (cf : α → α → Int) (hO : SWO (ltOf cf)) (g : Nat) (cb : Array Value) (blk off cap : Nat) (d : Array α) (w : World) (eg : ∀ args w, (callFunc g args).run Tryd.prog w = .ok (.enter g args) w) (hcmp : CmpLays1 Tryd.prog g cb enc cf blk off d.size w) (hH : Holds enc w blk off d) (hblk : blk < w.heap.size) (hsz : d.size < 4611686018427387904) :
    Calls Tryd.prog 31 #[.slice (some ⟨blk, off, none⟩) d.size cap, .func (.func g) #[] cb] w fun e w' =>
      e = .returned (.tuple #[]) ∧ ∃ d' n os, PermIn 0 d.size d d' ∧ SortedIn (ltOf cf) 0 d.size d' ∧ w' = sortWorld enc w blk off n d' os := Any.slices_SortFunc Tryd.laysSlF6_f31 enc h1 cf hO g cb blk off cap d w eg hcmp hH hblk hsz
open Go.RowKit Go.Lib Go.Sort in
/-- **slices.SortFunc, IN THE DOCUMENTATION's OWN TERMS: A PERMUTATION OF WHAT THE ROW HELD, SORTED BY 'cmp(a, b) < 0'.** Which of two equals comes first is left open ("The sort is not guaranteed to be stable"). (LAID AT THE INSTANCE 'slices.SortFunc[[]int,int]': no walk: one application.) -/
theorem Tryd.slices_SortFunc_f58 {α : Type} [Inhabited α] (enc : α → Value) (h1 : OneCell enc) (cf : α → α → Int) (hO : SWO (ltOf cf)) (g : Nat) (cb : Array Value) (blk off cap : Nat) (d : Array α) (w : World) (eg : ∀ args w, (callFunc g args).run Tryd.prog w = .ok (.enter g args) w) (hcmp : CmpLays1 Tryd.prog g cb enc cf blk off d.size w) (hH : Holds enc w blk off d) (hblk : blk < w.heap.size) (hsz : d.size < 4611686018427387904) :
    Calls Tryd.prog 58 #[.slice (some ⟨blk, off, none⟩) d.size cap, .func (.func g) #[] cb] w fun e w' =>
      e = .returned (.tuple #[]) ∧ ∃ d' n os, PermIn 0 d.size d d' ∧ SortedIn (ltOf cf) 0 d.size d' ∧ w' = sortWorld enc w blk off n d' os := Any.slices_SortFunc Tryd.laysSlF6_f58 enc h1 cf hO g cb blk off cap d w eg hcmp hH hblk hsz
def Tryd.laysSlF06_f31_ren : Go.Shelf.Ren := ⟨fun | 6 => 31 | 15 => 53 | 14 => 52 | 28 => 74 | 29 => 75 | 20 => 66 | 21 => 67 | 22 => 68 | 23 => 69 | 24 => 70 | 25 => 71 | 26 => 72 | 27 => 73 | 46 => 91 | 47 => 92 | 48 => 93 | 49 => 94 | 50 => 95 | 57 => 113 | n => n, fun | 22 => 25 | 24 => 30 | 25 => 52 | 3 => 3 | 39 => 80 | 0 => 0 | 53 => 99 | 55 => 101 | 4 => 4 | 46 => 93 | 45 => 92 | 50 => 50 | 5 => 5 | 9 => 9 | 66 => 114 | 70 => 118 | 76 => 131 | 77 => 132 | n => n, fun | n => n⟩
theorem Tryd.laysSlF06_f31 : Go.Proofs.SlLaysF0.n6 Tryd.prog Tryd.laysSlF06_f31_ren := {
  mixed := by kernel_rfl
  f6 := ⟨Tryd.f31.name, by decide, Tryd.func31.trans (congrArg some (by kernel_rfl))⟩
  f14 := ⟨Tryd.f52.name, by decide, Tryd.func52.trans (congrArg some (by kernel_rfl))⟩
  f15 := Tryd.func53.trans (congrArg some (by kernel_rfl))
  f20 := ⟨Tryd.f66.name, by decide, Tryd.func66.trans (congrArg some (by kernel_rfl))⟩
  f21 := ⟨Tryd.f67.name, by decide, Tryd.func67.trans (congrArg some (by kernel_rfl))⟩
  f22 := ⟨Tryd.f68.name, by decide, Tryd.func68.trans (congrArg some (by kernel_rfl))⟩
  f23 := ⟨Tryd.f69.name, by decide, Tryd.func69.trans (congrArg some (by kernel_rfl))⟩
  f24 := ⟨Tryd.f70.name, by decide, Tryd.func70.trans (congrArg some (by kernel_rfl))⟩
  f25 := ⟨Tryd.f71.name, by decide, Tryd.func71.trans (congrArg some (by kernel_rfl))⟩
  f26 := ⟨Tryd.f72.name, by decide, Tryd.func72.trans (congrArg some (by kernel_rfl))⟩
  f27 := ⟨Tryd.f73.name, by decide, Tryd.func73.trans (congrArg some (by kernel_rfl))⟩
  f28 := Tryd.func74.trans (congrArg some (by kernel_rfl))
  f29 := Tryd.func75.trans (congrArg some (by kernel_rfl))
  f46 := ⟨Tryd.f91.name, by decide, Tryd.func91.trans (congrArg some (by kernel_rfl))⟩
  f47 := Tryd.func92.trans (congrArg some (by kernel_rfl))
  f48 := Tryd.func93.trans (congrArg some (by kernel_rfl))
  f49 := ⟨Tryd.f94.name, by decide, Tryd.func94.trans (congrArg some (by kernel_rfl))⟩
  f50 := ⟨Tryd.f95.name, by decide, Tryd.func95.trans (congrArg some (by kernel_rfl))⟩
  f57 := ⟨Tryd.f113.name, by decide, Tryd.func113.trans (congrArg some (by kernel_rfl))⟩
  t0 := Tryd.underlying0
  a0 := Tryd.isAgg0
  z0 := Tryd.sizeOf0
  v0 := Tryd.zeroValue0
  t3 := Tryd.underlying3
  a3 := Tryd.isAgg3
  z3 := Tryd.sizeOf3
  v3 := Tryd.zeroValue3
  t4 := Tryd.underlying4
  a4 := Tryd.isAgg4
  z4 := Tryd.sizeOf4
  v4 := Tryd.zeroValue4
  t5 := Tryd.underlying5
  a5 := Tryd.isAgg5
  z5 := Tryd.sizeOf5
  v5 := Tryd.zeroValue5
  t9 := Tryd.underlying9
  a9 := Tryd.isAgg9
  z9 := Tryd.sizeOf9
  v9 := Tryd.zeroValue9
  t22 := Tryd.underlying25
  a22 := Tryd.isAgg25
  z22 := Tryd.sizeOf25
  v22 := Tryd.zeroValue25
  t25 := Tryd.underlying52
  a25 := Tryd.isAgg52
  z25 := Tryd.sizeOf52
  v25 := Tryd.zeroValue52
  t39 := Tryd.underlying80
  a39 := Tryd.isAgg80
  z39 := Tryd.sizeOf80
  v39 := Tryd.zeroValue80
  t45 := Tryd.underlying92
  a45 := Tryd.isAgg92
  z45 := Tryd.sizeOf92
  v45 := Tryd.zeroValue92
  t46 := Tryd.underlying93
  a46 := Tryd.isAgg93
  z46 := Tryd.sizeOf93
  v46 := Tryd.zeroValue93
  t50 := Tryd.underlying50
  a50 := Tryd.isAgg50
  z50 := Tryd.sizeOf50
  v50 := Tryd.zeroValue50
  t53 := Tryd.underlying99
  a53 := Tryd.isAgg99
  z53 := Tryd.sizeOf99
  v53 := Tryd.zeroValue99
  t55 := Tryd.underlying101
  a55 := Tryd.isAgg101
  z55 := Tryd.sizeOf101
  v55 := Tryd.zeroValue101
  t66 := Tryd.underlying114
  a66 := Tryd.isAgg114
  z66 := Tryd.sizeOf114
  v66 := Tryd.zeroValue114
  t70 := Tryd.underlying118
  a70 := Tryd.isAgg118
  z70 := Tryd.sizeOf118
  v70 := Tryd.zeroValue118
  t76 := Tryd.underlying131
  a76 := Tryd.isAgg131
  z76 := Tryd.sizeOf131
  v76 := Tryd.zeroValue131
  t77 := Tryd.underlying132
  a77 := Tryd.isAgg132
  z77 := Tryd.sizeOf132
  v77 := Tryd.zeroValue132 }
open Go.RowKit Go.Lib Go.Sort in
/-- **slices.SortFunc AT NO ELEMENT, A nil SLICE TOO: nothing turns.** (LAID AT THE INSTANCE 'slices.SortFunc[[][]int,[]int]': no walk: one application.) -/
theorem Tryd.slices_SortFunc_none_f31 {α : Type} [Inhabited α] (p : Option Addr) (cap : Nat) (fv : Value) (w : World) :
    Calls Tryd.prog 31 #[.slice p 0 cap, fv] w fun e w' => e = .returned (.tuple #[]) ∧ w' = w := AnyF.slices_SortFunc_none Tryd.laysSlF06_f31 p cap fv w
open Go.RowKit Go.Lib Go.Sort in
/-- **slices.SortFunc AT NO ELEMENT, A nil SLICE TOO: nothing turns.** (LAID AT THE INSTANCE 'slices.SortFunc[[][2]int,[2]int]': no walk: one application.) -/
theorem Tryd.slices_SortFunc_none_f42 {α : Type} [Inhabited α] (p : Option Addr) (cap : Nat) (fv : Value) (w : World) :
    Calls Tryd.prog 42 #[.slice p 0 cap, fv] w fun e w' => e = .returned (.tuple #[]) ∧ w' = w := AnyF.slices_SortFunc_none Tryd.laysSlF06_f42 p cap fv w
def Tryd.laysSlF06_f58_ren : Go.Shelf.Ren := ⟨fun | 6 => 58 | 15 => 53 | 14 => 78 | 28 => 74 | 29 => 75 | 20 => 97 | 21 => 98 | 22 => 99 | 23 => 100 | 24 => 101 | 25 => 102 | 26 => 103 | 27 => 104 | 46 => 114 | 47 => 92 | 48 => 93 | 49 => 115 | 50 => 116 | 57 => 123 | n => n, fun | 22 => 30 | 24 => 3 | 25 => 64 | 3 => 3 | 39 => 80 | 0 => 0 | 53 => 99 | 55 => 101 | 4 => 4 | 46 => 93 | 45 => 92 | 50 => 50 | 5 => 5 | 9 => 9 | 66 => 114 | 70 => 118 | 76 => 131 | 77 => 132 | n => n, fun | n => n⟩
theorem Tryd.laysSlF06_f58 : Go.Proofs.SlLaysF0.n6 Tryd.prog Tryd.laysSlF06_f58_ren := {
  mixed := by kernel_rfl
  f6 := ⟨Tryd.f58.name, by decide, Tryd.func58.trans (congrArg some (by kernel_rfl))⟩
  f14 := ⟨Tryd.f78.name, by decide, Tryd.func78.trans (congrArg some (by kernel_rfl))⟩
  f15 := Tryd.func53.trans (congrArg some (by kernel_rfl))
  f20 := ⟨Tryd.f97.name, by decide, Tryd.func97.trans (congrArg some (by kernel_rfl))⟩
  f21 := ⟨Tryd.f98.name, by decide, Tryd.func98.trans (congrArg some (by kernel_rfl))⟩
  f22 := ⟨Tryd.f99.name, by decide, Tryd.func99.trans (congrArg some (by kernel_rfl))⟩
  f23 := ⟨Tryd.f100.name, by decide, Tryd.func100.trans (congrArg some (by kernel_rfl))⟩
  f24 := ⟨Tryd.f101.name, by decide, Tryd.func101.trans (congrArg some (by kernel_rfl))⟩
  f25 := ⟨Tryd.f102.name, by decide, Tryd.func102.trans (congrArg some (by kernel_rfl))⟩
  f26 := ⟨Tryd.f103.name, by decide, Tryd.func103.trans (congrArg some (by kernel_rfl))⟩
  f27 := ⟨Tryd.f104.name, by decide, Tryd.func104.trans (congrArg some (by kernel_rfl))⟩
  f28 := Tryd.func74.trans (congrArg some (by kernel_rfl))
  f29 := Tryd.func75.trans (congrArg some (by kernel_rfl))
  f46 := ⟨Tryd.f114.name, by decide, Tryd.func114.trans (congrArg some (by kernel_rfl))⟩
  f47 := Tryd.func92.trans (congrArg some (by kernel_rfl))
  f48 := Tryd.func93.trans (congrArg some (by kernel_rfl))
  f49 := ⟨Tryd.f115.name, by decide, Tryd.func115.trans (congrArg some (by kernel_rfl))⟩
  f50 := ⟨Tryd.f116.name, by decide, Tryd.func116.trans (congrArg some (by kernel_rfl))⟩
  f57 := ⟨Tryd.f123.name, by decide, Tryd.func123.trans (congrArg some (by kernel_rfl))⟩
  t0 := Tryd.underlying0
  a0 := Tryd.isAgg0
  z0 := Tryd.sizeOf0
  v0 := Tryd.zeroValue0
  t3 := Tryd.underlying3
  a3 := Tryd.isAgg3
  z3 := Tryd.sizeOf3
  v3 := Tryd.zeroValue3
  t4 := Tryd.underlying4
  a4 := Tryd.isAgg4
  z4 := Tryd.sizeOf4
  v4 := Tryd.zeroValue4
  t5 := Tryd.underlying5
  a5 := Tryd.isAgg5
  z5 := Tryd.sizeOf5
  v5 := Tryd.zeroValue5
  t9 := Tryd.underlying9
  a9 := Tryd.isAgg9
  z9 := Tryd.sizeOf9
  v9 := Tryd.zeroValue9
  t22 := Tryd.underlying30
  a22 := Tryd.isAgg30
  z22 := Tryd.sizeOf30
  v22 := Tryd.zeroValue30
  t25 := Tryd.underlying64
  a25 := Tryd.isAgg64
  z25 := Tryd.sizeOf64
  v25 := Tryd.zeroValue64
  t39 := Tryd.underlying80
  a39 := Tryd.isAgg80
  z39 := Tryd.sizeOf80
  v39 := Tryd.zeroValue80
  t45 := Tryd.underlying92
  a45 := Tryd.isAgg92
  z45 := Tryd.sizeOf92
  v45 := Tryd.zeroValue92
  t46 := Tryd.underlying93
  a46 := Tryd.isAgg93
  z46 := Tryd.sizeOf93
  v46 := Tryd.zeroValue93
  t50 := Tryd.underlying50
  a50 := Tryd.isAgg50
  z50 := Tryd.sizeOf50
  v50 := Tryd.zeroValue50
  t53 := Tryd.underlying99
  a53 := Tryd.isAgg99
  z53 := Tryd.sizeOf99
  v53 := Tryd.zeroValue99
  t55 := Tryd.underlying101
  a55 := Tryd.isAgg101
  z55 := Tryd.sizeOf101
  v55 := Tryd.zeroValue101
  t66 := Tryd.underlying114
  a66 := Tryd.isAgg114
  z66 := Tryd.sizeOf114
  v66 := Tryd.zeroValue114
  t70 := Tryd.underlying118
  a70 := Tryd.isAgg118
  z70 := Tryd.sizeOf118
  v70 := Tryd.zeroValue118
  t76 := Tryd.underlying131
  a76 := Tryd.isAgg131
  z76 := Tryd.sizeOf131
  v76 := Tryd.zeroValue131
  t77 := Tryd.underlying132
  a77 := Tryd.isAgg132
  z77 := Tryd.sizeOf132
  v77 := Tryd.zeroValue132 }
open Go.RowKit Go.Lib Go.Sort in
/-- **slices.SortFunc AT NO ELEMENT, A nil SLICE TOO: nothing turns.** (LAID AT THE INSTANCE 'slices.SortFunc[[]int,int]': no walk: one application.) -/
theorem Tryd.slices_SortFunc_none_f58 {α : Type} [Inhabited α] (p : Option Addr) (cap : Nat) (fv : Value) (w : World) :
    Calls Tryd.prog 58 #[.slice p 0 cap, fv] w fun e w' => e = .returned (.tuple #[]) ∧ w' = w := AnyF.slices_SortFunc_none Tryd.laysSlF06_f58 p cap fv w
open Go.RowKit Go.Lib Go.Sort in
/-- **slices.SortFunc AT ONE CELL, UNDER A 'cmp' THAT PARTS WHATEVER TWO THAT ARE NOT ONE: THE ROW HOLDS core's 'mergeSort'.** (LAID AT THE INSTANCE 'slices.SortFunc[[][]int,[]int]': no walk: one application.) -/
theorem Tryd.slices_SortFunc_total_f31 {α : Type} [Inhabited α] (enc : α → Value) (h1 : OneCell enc) (cf : α → α → Int) (hO : SWO (ltOf cf)) (g : Nat) (cb : Array Value) (blk off cap : Nat) (d : Array α) (w : World) (eg : ∀ args w, (callFunc g args).run Tryd.prog w = .ok (.enter g args) w) (hcmp : CmpLays1 Tryd.prog g cb enc cf blk off d.size w) (hH : Holds enc w blk off d) (hblk : blk < w.heap.size) (hsz : d.size < 4611686018427387904) (hT : ∀ x y, (ltOf cf) x y = false → (ltOf cf) y x = false → x = y) :
    Calls Tryd.prog 31 #[.slice (some ⟨blk, off, none⟩) d.size cap, .func (.func g) #[] cb] w fun e w' =>
      e = .returned (.tuple #[]) ∧ ∃ n os, w' = sortWorld enc w blk off n (d.toList.mergeSort fun x y => !(ltOf cf) y x).toArray os := Any.slices_SortFunc_total Tryd.laysSlF6_f31 enc h1 cf hO g cb blk off cap d w eg hcmp hH hblk hsz hT
open Go.RowKit Go.Lib Go.Sort in
/-- **slices.SortFunc AT ONE CELL, UNDER A 'cmp' THAT PARTS WHATEVER TWO THAT ARE NOT ONE: THE ROW HOLDS core's 'mergeSort'.** (LAID AT THE INSTANCE 'slices.SortFunc[[]int,int]': no walk: one application.) -/
theorem Tryd.slices_SortFunc_total_f58 {α : Type} [Inhabited α] (enc : α → Value) (h1 : OneCell enc) (cf : α → α → Int) (hO : SWO (ltOf cf)) (g : Nat) (cb : Array Value) (blk off cap : Nat) (d : Array α) (w : World) (eg : ∀ args w, (callFunc g args).run Tryd.prog w = .ok (.enter g args) w) (hcmp : CmpLays1 Tryd.prog g cb enc cf blk off d.size w) (hH : Holds enc w blk off d) (hblk : blk < w.heap.size) (hsz : d.size < 4611686018427387904) (hT : ∀ x y, (ltOf cf) x y = false → (ltOf cf) y x = false → x = y) :
    Calls Tryd.prog 58 #[.slice (some ⟨blk, off, none⟩) d.size cap, .func (.func g) #[] cb] w fun e w' =>
      e = .returned (.tuple #[]) ∧ ∃ n os, w' = sortWorld enc w blk off n (d.toList.mergeSort fun x y => !(ltOf cf) y x).toArray os := Any.slices_SortFunc_total Tryd.laysSlF6_f58 enc h1 cf hO g cb blk off cap d w eg hcmp hH hblk hsz hT
open Go.RowKit Go.Lib Go.Sort in
/-- .. at structs. (LAID AT THE INSTANCE 'slices.SortFunc[[][2]int,[2]int]': no walk: one application.) -/
theorem Tryd.slices_SortFunc_total {α : Type} [Inhabited α] (k : Nat) (aE : ∀ w, (isAgg 40).run Tryd.prog w = .ok true w) (zE : ∀ w, (Go.sizeOf 40).run Tryd.prog w = .ok k w) (enc : α → List Value) (hk : ∀ x, (enc x).length = k) (h1 : ∀ x, ∀ v ∈ enc x, v.oneCell' = true) (cf : α → α → Int) (hO : SWO (ltOf cf)) (g : Nat) (cb : Array Value) (blk off cap : Nat) (d : Array α) (w : World) (eg : ∀ args w, (callFunc g args).run Tryd.prog w = .ok (.enter g args) w) (hcmp : CmpLays Tryd.prog g cb enc k cf blk off d.size w) (hH : HoldsK enc k w blk off d) (hblk : blk < w.heap.size) (hsz : d.size < 4611686018427387904) (hT : ∀ x y, (ltOf cf) x y = false → (ltOf cf) y x = false → x = y) :
    Calls Tryd.prog 42 #[.slice (some ⟨blk, off, none⟩) d.size cap, .func (.func g) #[] cb] w fun e w' =>
      e = .returned (.tuple #[]) ∧ ∃ n os, w' = sortWorldK enc k w blk off n (d.toList.mergeSort fun x y => !(ltOf cf) y x).toArray os := AnyQ.slices_SortFunc_total Tryd.laysSlF06_f42 k aE zE enc hk h1 cf hO g cb blk off cap d w eg hcmp hH hblk hsz hT
end Go.Proofs

/- A row of the call's own whose elements are one cell each, laid before slices.SortFunc: what the sort asks of the row, and the row behind it, its elements permuted. -/
set_option linter.unusedVariables false
set_option linter.unusedSimpArgs false
namespace Go.Proofs.YtnllgjloimoebaaDoor.X
open Go.RowKit Go.Sort Go.Lib Go.Proofs.YtnllgjloimoebaaDoorW.PrintWords

section
variable {α : Type} [Inhabited α] {enc : α → Value} {w : World} {blk off m : Nat} {dk : Array α} {os : Array Obj}
theorem sw_size : (sortWorld enc w blk off m dk os).heap.size = w.heap.size + os.size := by
  unfold sortWorld Go.Sort.grow
  show (_ ++ os).size = _
  rw [Array.size_append, size_putRow]
  rfl
theorem sw_at (k : Nat) (hk : k < w.heap.size) : (sortWorld enc w blk off m dk os).heap[k]? = (w.heap.modify blk (onCells (putCells enc off dk)))[k]? := by
  show (_ ++ os)[k]? = _
  rw [Array.getElem?_append_left (by rw [size_putRow]; exact hk)]
  rfl
theorem sw_other (k : Nat) (hk : k < w.heap.size) (hne : k ≠ blk) : (sortWorld enc w blk off m dk os).heap[k]? = w.heap[k]? := by
  rw [sw_at k hk, Array.getElem?_modify, if_neg (fun h => hne h.symm)]
theorem sw_blk {c : Array Value} {e : TypeId} {fr : Nat × Nat} (hb : w.heap[blk]? = some (.cells c e fr)) : (sortWorld enc w blk off m dk os).heap[blk]? = some (.cells (putCells enc off dk c) e fr) := by
  rw [sw_at blk (Array.getElem?_eq_some_iff.1 hb).1, Array.getElem?_modify, if_pos rfl, hb]
  rfl
theorem sw_below {w0 : World} (h : Below w0.heap.size w0 w) (hblk : w0.heap.size ≤ blk) : Below w0.heap.size w0 (sortWorld enc w blk off m dk os) :=
  ⟨h.os, h.tape, h.output, by have := h.size; rw [sw_size]; omega, fun k hk => (sw_other k (by have := h.size; omega) (by omega)).trans (h.block k hk)⟩
end

theorem putCells_at {α : Type} [Inhabited α] (enc : α → Value) (d : Array α) (c : Array Value) (hd : d.size ≤ c.size) (j : Nat) (hj : j < d.size) : (putCells enc 0 d c)[j]? = some (enc d[j]!) := by
  unfold putCells
  rw [Array.getElem?_mapIdx, Array.getElem?_eq_getElem (by omega)]
  simp [hj]
theorem putCells_size {α : Type} [Inhabited α] (enc : α → Value) (d : Array α) (c : Array Value) : (putCells enc 0 d c).size = c.size := by simp [putCells]
theorem putCells_take {α : Type} [Inhabited α] (enc : α → Value) (d : Array α) (c : Array Value) (hd : d.size ≤ c.size) : (putCells enc 0 d c).toList.take d.size = d.toList.map enc := by
  apply List.ext_getElem?
  intro j
  rw [List.getElem?_take]
  split
  · rename_i hj
    rw [Array.getElem?_toList, putCells_at enc d c hd j hj, List.getElem?_map, Array.getElem?_toList, Array.getElem?_eq_getElem hj, getElem!_pos d j hj]
    rfl
  · rename_i hj
    rw [List.getElem?_eq_none (by simpa using hj)]

theorem sort_row {α : Type} {d : Kd α} (hsz : d.sz = 1) {e base g n cap m : Nat} {w : World} {ok : Nat → Prop} {xs : List α} (z : α) (h : Kd.S d e w base ok (.slice (some ⟨g, 0, none⟩) n cap) xs) (hl : xs.length = m + 1) :
    ∃ inn : Fin (m + 1) → Value, OneCell inn ∧ Holds inn w g 0 (List.finRange (m + 1)).toArray ∧ g < w.heap.size ∧ base ≤ g ∧ n = m + 1 ∧ (∀ i : Fin (m + 1), d.M w base (fun k => ok k ∧ k ≠ g) (xs.getD i.val z) [inn i]) ∧
      ∀ (q : Nat) (σ : List (Fin (m + 1))) (os : Array Obj), σ.Perm (List.finRange (m + 1)) → Kd.S d e (sortWorld inn w g 0 q σ.toArray os) base ok (.slice (some ⟨g, 0, none⟩) n cap) (σ.map fun i => xs.getD i.val z) := by
  have hn := (Kd.S_reads' h).1
  obtain ⟨f, h0, inner, ho, hr⟩ := h
  have hsz' : (Kd.tag f d).sz = 1 := hsz
  rw [hsz'] at hr ho
  obtain ⟨hin, ho⟩ := ho
  rw [List.length_zipIdx, Nat.mul_one] at hin
  rcases ho with ⟨hv, _⟩ | ⟨g', cap', cur, hv, hb, hheap, hnc, hcm, hcs, htk⟩
  · cases hv
  injection hv with ha _ hcap
  injection ha with ha
  injection ha with ha _
  subst ha
  subst hcap
  rw [List.length_zipIdx, Nat.mul_one] at htk
  rw [Nat.mul_one] at hcs
  rw [List.length_zipIdx] at hnc
  have hgo : (Value.slice (some ⟨g, 0, none⟩) n cap).ownBlock = some g := rfl
  have hglt : g < w.heap.size := (Array.getElem?_eq_some_iff.1 hheap).1
  have hcell : ∀ j, j < m + 1 → cur[j]? = some (inner.getD j (.slice none 0 0)) := by
    intro j hj
    rw [List.getD_eq_getElem?_getD, ← htk, List.getElem?_take, if_pos (by omega), Array.getElem?_toList, Array.getElem?_eq_getElem (by omega)]
    rfl
  have hseg : ∀ i : Fin (m + 1), (inner.drop (i.val * 1)).take 1 = [inner.getD i.val (.slice none 0 0)] := by
    intro i
    have hi : i.val < inner.length := by have := i.2; omega
    rw [Nat.mul_one, List.getD_eq_getElem?_getD, List.getElem?_eq_getElem hi, List.drop_eq_getElem_cons hi]
    rfl
  have hM : ∀ i : Fin (m + 1), d.M w base (fun k => (ok k ∧ k ≠ g) ∧ f k = i.val) (xs.getD i.val z) [inner.getD i.val (.slice none 0 0)] := by
    intro i
    have hi : i.val < xs.length := by have := i.2; omega
    have h1 := hr.2 i.val (xs.getD i.val z, i.val) (by rw [List.getD_eq_getElem?_getD, List.getElem?_eq_getElem hi]; exact Kd.zip_at (List.getElem?_eq_getElem hi))
    rw [hseg i] at h1
    exact d.M_mono (fun k hk => ⟨⟨hk.1.1, fun e => hk.1.2 (by rw [e]; rfl)⟩, hk.2⟩) h1
  refine ⟨fun i => inner.getD i.val (.slice none 0 0), ?_, ?_, hglt, hb, by omega, fun i => d.M_mono (fun k hk => hk.1) (hM i), ?_⟩
  · intro i
    have := d.K_one (d.K_of_M (hM i)) _ (List.mem_singleton.2 rfl)
    exact this
  · intro j hj
    have hj' : j < m + 1 := by simpa using hj
    refine ⟨?_, Lib.frozen_of_heap hheap _⟩
    rw [Lib.cell_of_heap hheap, Nat.zero_add, hcell j hj']
    congr 2
    rw [getElem!_pos _ j hj]
    simp
  · intro q σ os hσ
    have hlen : σ.length = m + 1 := by rw [hσ.length_eq, List.length_finRange]
    have hnd : σ.Nodup := hσ.nodup_iff.2 (List.nodup_finRange _)
    refine ⟨fun k => if hk : f k < m + 1 then σ.idxOf ⟨f k, hk⟩ else 0, h0, σ.map fun i => inner.getD i.val (.slice none 0 0), ?_, ?_, ?_⟩
    · show World.ownsRow _ base e d.sz _ _ _
      rw [hsz]
      refine ⟨by rw [List.length_map, List.length_zipIdx, List.length_map, Nat.mul_one], .inr ⟨g, cap, _, by rw [List.length_zipIdx, List.length_map, hlen]; congr 1; omega, hb, sw_blk hheap, by rw [List.length_zipIdx, List.length_map, hlen]; omega, hcm, by rw [putCells_size, hcs, Nat.mul_one], ?_⟩⟩
      rw [List.length_zipIdx, List.length_map, Nat.mul_one]
      have := putCells_take (fun i : Fin (m + 1) => inner.getD i.val (.slice none 0 0)) σ.toArray cur (by simp; omega)
      simpa using this
    · show _ = _ * d.sz
      rw [hsz, List.length_map, List.length_zipIdx, List.length_map, Nat.mul_one]
    · intro j p hj
      rw [List.getElem?_zipIdx, List.getElem?_map, Option.map_map] at hj
      obtain ⟨i, hi, rfl⟩ := Option.map_eq_some_iff.1 hj
      have hjl := (List.getElem?_eq_some_iff.1 hi).1
      have hs : ((σ.map fun i => inner.getD i.val (.slice none 0 0)).drop (j * (Kd.tag f d).sz)).take (Kd.tag f d).sz = [inner.getD i.val (.slice none 0 0)] := by
        rw [hsz', Nat.mul_one, List.drop_eq_getElem_cons (by simpa using hjl)]
        simp [(List.getElem?_eq_some_iff.1 hi).2]
      have hidx : σ.idxOf i = j := by
        have h3 := (List.getElem?_eq_some_iff.1 hi).2
        rw [← h3]
        exact hnd.idxOf_getElem j hjl
      show d.M _ base _ (xs.getD i.val z) _
      have h4 := d.M_move (w1 := sortWorld (fun i : Fin (m + 1) => inner.getD i.val (.slice none 0 0)) w g 0 q σ.toArray os) (ok := fun k => (((ok k ∧ k ≠ g) ∧ f k = i.val) ∧ k < w.heap.size)) (fun k hk => sw_other k hk.2 hk.1.1.2) (d.M_mono (fun k hk => ⟨hk.1, hk.2.2.1⟩) (d.M_bound (hM i)))
      change d.M _ base _ (xs.getD i.val z) (((σ.map fun i => inner.getD i.val (.slice none 0 0)).drop (j * (Kd.tag f d).sz)).take (Kd.tag f d).sz)
      rw [hs]
      refine d.M_mono (fun k hk => ⟨⟨hk.1.1.1, fun e => hk.1.1.2 (by rw [hgo] at e; injection e)⟩, ?_⟩) h4
      show (if hk : f k < m + 1 then σ.idxOf ⟨f k, hk⟩ else 0) = 0 + j
      have h5 : f k < m + 1 := by rw [hk.1.2]; exact i.2
      rw [dif_pos h5, Nat.zero_add, ← hidx]
      congr 1
      exact Fin.ext hk.1.2
end Go.Proofs.YtnllgjloimoebaaDoor.X

-- By xprint.py (this session's own program over the kit's print): not trusted: Lean checks it.
namespace Go.Proofs.YtnllgjloimoebaaDoor.X
open Go.RowKit Go.Proofs.YtnllgjloimoebaaDoorW.PrintWords Go.Proofs.YtnllgjloimoebaaDoorW.PrintLast Go.Proofs.YtnllgjloimoebaaDoorW.PrintMore
attribute [local go_sem] max2_int min2_int max_two min_two max_three min_three max_four min_four   -- for this text's walks alone
set_option linter.unusedVariables false
set_option linter.unusedSimpArgs false

/-! ### cmp_Or_int: function 44 -/
def cmp_Or_int.l0 : Nat → Int → List Int → Int → Int → Option (Int)
 | 0, _, _, _, _ => none
 | k + 1, x3, x6, x7, x8 => if x8 < x7 then (if 0 ≤ x8 then (if x8 < (x6.length : Int) then (if (rd x6 x8) = x3 then (cmp_Or_int.l0 k x3 x6 x7 (wrap64 (x8 + 1))) else (some (rd x6 x8))) else (none)) else (none)) else (some x3)
def cmp_Or_int.f (k : Nat) (l0 : List Int) : Option (Int) := cmp_Or_int.l0 k 0 l0 (l0.length : Int) 0
set_option maxHeartbeats 8000000 in
set_option maxRecDepth 100000 in
theorem cmp_Or_int.calls (k : Nat) (A0 : Option Addr) (c0 : Nat) (l0 : List Int) (r : Int) (w : World) (hr0 : Kd.C (Kd.int .i64) w A0 l0.length l0) (hc0 : l0.length ≤ c0) (h : cmp_Or_int.f k l0 = some r) :
  Calls Tryd.prog 44 #[.slice A0 l0.length c0] w fun e w' => e = .returned (.int .i64 r) ∧ Drawn0 w w' := by
 have HR0 := Aside0.mk hr0
 have HC0 := Aside0.mk hc0
 clear hr0 hc0
 have H : (cmp_Or_int.l0 k 0 l0 (l0.length : Int) 0) = some r := h
 clear h
 have H' := Aside0.mk H
 clear H
 go_enter Tryd.func44, Tryd.ntmps44
 go_wp2
 go_loopg [8] k (fun kq v8 w' => ∃ (x8_1 : Int), v8 = .int .i64 x8_1 ∧ Aside0 (cmp_Or_int.l0 kq 0 l0 (l0.length : Int) x8_1 = some r) ∧ Aside0 (kq ≤ k) ∧ Drawn0 w w')
 case atStart => exact ⟨(0), (by first | rfl | (simp; done) | (simp [*]; done)), H', ⟨Nat.le_refl _⟩, by repeat (first | exact Drawn0.refl _ | apply Drawn0.step)⟩
 case round =>
  clear H'
  obtain ⟨x8_1, rfl, HA, HK1, ⟨m1, rfl⟩⟩ := hrel
  cases gk with
  | zero => exact absurd HA.out (by simp [cmp_Or_int.l0])
  | succ k1 =>
   have H := HA.out
   clear HA
   simp only [cmp_Or_int.l0] at H
   by_cases c2 : x8_1 < (l0.length : Int)
   ·
    rw [if_pos c2] at H
    have c2b0 : decide (x8_1 < (l0.length : Int)) = true := decide_eq_true c2
    clear c2
    by_cases c3 : 0 ≤ x8_1
    ·
     rw [if_pos c3] at H
     have c3b0 : decide (0 ≤ x8_1) = true := decide_eq_true c3
     clear c3
     by_cases c4 : x8_1 < (l0.length : Int)
     ·
      rw [if_pos c4] at H
      have c4b0 : decide (x8_1 < (l0.length : Int)) = true := decide_eq_true c4
      clear c4
      by_cases c5 : (rd l0 x8_1) = 0
      ·
       rw [if_pos c5] at H
       have c5b0 : ((rd l0 x8_1) == 0) = true := beq_iff_eq.mpr c5
       have c5b1 : ((rd l0 x8_1) != 0) = false := bne_eq_false_iff_eq.mpr c5
       clear c5
       have H' := Aside0.mk H
       clear H
       have p323 : 0 ≤ (x8_1 : Int) := of_decide_eq_true (by first | (with_reducible assumption) | assumption)
       have q323 : x8_1 < (l0.length : Int) := of_decide_eq_true (by first | (with_reducible assumption) | assumption)
       obtain ⟨ad323, e323, hx323_0⟩ := Kd.at_int HR0.out x8_1 p323 q323
       cases e323
       replace p323 := eq_true p323
       replace q323 := eq_true q323
       go_wp2
       go_roundg k1
       case measure => have := HK1.out; omega
       case rel => exact ⟨(wrap64 (x8_1 + 1)), (by first | rfl | (simp; done) | (simp [*]; done)), H', ⟨by have := HK1.out; omega⟩, by repeat (first | exact Drawn0.refl _ | apply Drawn0.step)⟩
      ·
       rw [if_neg c5] at H
       have c5b0 : ((rd l0 x8_1) == 0) = false := beq_eq_false_iff_ne.mpr c5
       have c5b1 : ((rd l0 x8_1) != 0) = true := bne_iff_ne.mpr c5
       obtain rfl := Option.some.inj H
       have p323 : 0 ≤ (x8_1 : Int) := of_decide_eq_true (by first | (with_reducible assumption) | assumption)
       have q323 : x8_1 < (l0.length : Int) := of_decide_eq_true (by first | (with_reducible assumption) | assumption)
       obtain ⟨ad323, e323, hx323_0⟩ := Kd.at_int HR0.out x8_1 p323 q323
       cases e323
       replace p323 := eq_true p323
       replace q323 := eq_true q323
       go_wp2
       go_ret
       exact ⟨by first | rfl | (simp; done) | (simp [*]; done), by repeat (first | exact Drawn0.refl _ | apply Drawn0.step)⟩
     ·
      rw [if_neg c4] at H
      exact absurd H (by simp)
    ·
     rw [if_neg c3] at H
     exact absurd H (by simp)
   ·
    rw [if_neg c2] at H
    have c2b0 : decide (x8_1 < (l0.length : Int)) = false := decide_eq_false c2
    clear c2
    obtain rfl := Option.some.inj H
    go_wp2
    go_ret
    exact ⟨by first | rfl | (simp; done) | (simp [*]; done), by repeat (first | exact Drawn0.refl _ | apply Drawn0.step)⟩

end Go.Proofs.YtnllgjloimoebaaDoor.X

-- By xprint.py (this session's own program over the kit's print): not trusted: Lean checks it.
namespace Go.Proofs.YtnllgjloimoebaaDoor.X
open Go.RowKit Go.Proofs.YtnllgjloimoebaaDoorW.PrintWords Go.Proofs.YtnllgjloimoebaaDoorW.PrintLast Go.Proofs.YtnllgjloimoebaaDoorW.PrintMore
attribute [local go_sem] max2_int min2_int max_two min_two max_three min_three max_four min_four   -- for this text's walks alone
set_option linter.unusedVariables false
set_option linter.unusedSimpArgs false

/-! ### cmp_isNaN_int: function 61 -/
def cmp_isNaN_int.f (a0 : Int) : Option (Bool) := some (a0 != a0)
set_option maxHeartbeats 8000000 in
set_option maxRecDepth 100000 in
theorem cmp_isNaN_int.calls (a0 : Int) (r : Bool) (w : World) (h : cmp_isNaN_int.f a0 = some r) :
  Calls Tryd.prog 61 #[.int .i64 a0] w fun e w' => e = .returned (.bool r) ∧ Drawn0 w w' := by
 have H : (some (a0 != a0)) = some r := h
 clear h
 obtain rfl := Option.some.inj H
 go_enter Tryd.func61, Tryd.ntmps61
 go_wp2
 go_ret
 exact ⟨by first | rfl | (simp; done) | (simp [*]; done), by repeat (first | exact Drawn0.refl _ | apply Drawn0.step)⟩

end Go.Proofs.YtnllgjloimoebaaDoor.X

-- By xprint.py (this session's own program over the kit's print): not trusted: Lean checks it.
namespace Go.Proofs.YtnllgjloimoebaaDoor.X
open Go.RowKit Go.Proofs.YtnllgjloimoebaaDoorW.PrintWords Go.Proofs.YtnllgjloimoebaaDoorW.PrintLast Go.Proofs.YtnllgjloimoebaaDoorW.PrintMore
attribute [local go_sem] max2_int min2_int max_two min_two max_three min_three max_four min_four   -- for this text's walks alone
set_option linter.unusedVariables false
set_option linter.unusedSimpArgs false

/-! ### cmp_Compare_int: function 45 -/
def cmp_Compare_int.f (a0 : Int) (a1 : Int) : Option (Int) := (cmp_isNaN_int.f a0).bind fun t324 => ((cmp_isNaN_int.f a1).bind fun t325 => (if t324 = true then (if t325 = true then (some 0) else (some (-1))) else (if t325 = true then (some 1) else (if a0 < a1 then (some (-1)) else (if a0 > a1 then (some 1) else (some 0))))))
set_option maxHeartbeats 8000000 in
set_option maxRecDepth 100000 in
theorem cmp_Compare_int.calls (a0 : Int) (a1 : Int) (r : Int) (w : World) (h : cmp_Compare_int.f a0 a1 = some r) :
  Calls Tryd.prog 45 #[.int .i64 a0, .int .i64 a1] w fun e w' => e = .returned (.int .i64 r) ∧ Drawn0 w w' := by
 have H : ((cmp_isNaN_int.f a0).bind fun t324 => ((cmp_isNaN_int.f a1).bind fun t325 => (if t324 = true then (if t325 = true then (some 0) else (some (-1))) else (if t325 = true then (some 1) else (if a0 < a1 then (some (-1)) else (if a0 > a1 then (some 1) else (some 0))))))) = some r := h
 clear h
 replace H := Option.bind_eq_some_iff.mp H
 obtain ⟨t324, A30, H⟩ := H
 replace H : ((cmp_isNaN_int.f a1).bind fun t325 => (if t324 = true then (if t325 = true then (some 0) else (some (-1))) else (if t325 = true then (some 1) else (if a0 < a1 then (some (-1)) else (if a0 > a1 then (some 1) else (some 0)))))) = some r := H
 have A3 := Aside0.mk A30
 clear A30
 replace H := Option.bind_eq_some_iff.mp H
 obtain ⟨t325, A40, H⟩ := H
 replace H : (if t324 = true then (if t325 = true then (some 0) else (some (-1))) else (if t325 = true then (some 1) else (if a0 < a1 then (some (-1)) else (if a0 > a1 then (some 1) else (some 0))))) = some r := H
 have A4 := Aside0.mk A40
 clear A40
 by_cases c5 : t324 = true
 ·
  subst c5
  have H1 : (if t325 = true then (some 0) else (some (-1))) = some r := by rw [if_pos rfl] at H; exact H
  clear H
  have H := H1
  clear H1
  by_cases c6 : t325 = true
  ·
   subst c6
   have H1 : (some 0) = some r := by rw [if_pos rfl] at H; exact H
   clear H
   have H := H1
   clear H1
   obtain rfl := Option.some.inj H
   go_enter Tryd.func45, Tryd.ntmps45
   go_wp2_with (first | ((with_reducible refine gate_callee (f := 61) rfl ?_); refine goesL_ (some 8) rfl rfl Tryd.func61 (by kernel_rfl) rfl #[.int .i64 a0] rfl (by (try simp only [List.map_toArray, List.map_cons, List.map_nil]); first | done | rfl | (simp only [List.length_drop, List.length_take]; rfl)) ?_; (with_reducible refine (cmp_isNaN_int.calls a0 true _ A3.out).mono ?_); rintro e w' ⟨rfl, ⟨nd, rfl⟩⟩; refine ⟨_, rfl, ?_⟩) | ((with_reducible refine gate_callee (f := 61) rfl ?_); refine goesL_ (some 10) rfl rfl Tryd.func61 (by kernel_rfl) rfl #[.int .i64 a1] rfl (by (try simp only [List.map_toArray, List.map_cons, List.map_nil]); first | done | rfl | (simp only [List.length_drop, List.length_take]; rfl)) ?_; (with_reducible refine (cmp_isNaN_int.calls a1 true _ A4.out).mono ?_); rintro e w' ⟨rfl, ⟨nd, rfl⟩⟩; refine ⟨_, rfl, ?_⟩))
   go_ret
   exact ⟨by first | rfl | (simp; done) | (simp [*]; done), by repeat (first | exact Drawn0.refl _ | apply Drawn0.step)⟩
  ·
   replace c6 := Bool.eq_false_iff.mpr c6
   subst c6
   have H1 : (some (-1)) = some r := by rw [if_neg (show ¬ (false = true) by decide)] at H; exact H
   clear H
   have H := H1
   clear H1
   obtain rfl := Option.some.inj H
   go_enter Tryd.func45, Tryd.ntmps45
   go_wp2_with (first | ((with_reducible refine gate_callee (f := 61) rfl ?_); refine goesL_ (some 8) rfl rfl Tryd.func61 (by kernel_rfl) rfl #[.int .i64 a0] rfl (by (try simp only [List.map_toArray, List.map_cons, List.map_nil]); first | done | rfl | (simp only [List.length_drop, List.length_take]; rfl)) ?_; (with_reducible refine (cmp_isNaN_int.calls a0 true _ A3.out).mono ?_); rintro e w' ⟨rfl, ⟨nd, rfl⟩⟩; refine ⟨_, rfl, ?_⟩) | ((with_reducible refine gate_callee (f := 61) rfl ?_); refine goesL_ (some 10) rfl rfl Tryd.func61 (by kernel_rfl) rfl #[.int .i64 a1] rfl (by (try simp only [List.map_toArray, List.map_cons, List.map_nil]); first | done | rfl | (simp only [List.length_drop, List.length_take]; rfl)) ?_; (with_reducible refine (cmp_isNaN_int.calls a1 false _ A4.out).mono ?_); rintro e w' ⟨rfl, ⟨nd, rfl⟩⟩; refine ⟨_, rfl, ?_⟩))
   go_ret
   exact ⟨by first | rfl | (simp; done) | (simp [*]; done), by repeat (first | exact Drawn0.refl _ | apply Drawn0.step)⟩
 ·
  replace c5 := Bool.eq_false_iff.mpr c5
  subst c5
  have H1 : (if t325 = true then (some 1) else (if a0 < a1 then (some (-1)) else (if a0 > a1 then (some 1) else (some 0)))) = some r := by rw [if_neg (show ¬ (false = true) by decide)] at H; exact H
  clear H
  have H := H1
  clear H1
  by_cases c7 : t325 = true
  ·
   subst c7
   have H1 : (some 1) = some r := by rw [if_pos rfl] at H; exact H
   clear H
   have H := H1
   clear H1
   obtain rfl := Option.some.inj H
   go_enter Tryd.func45, Tryd.ntmps45
   go_wp2_with (first | ((with_reducible refine gate_callee (f := 61) rfl ?_); refine goesL_ (some 8) rfl rfl Tryd.func61 (by kernel_rfl) rfl #[.int .i64 a0] rfl (by (try simp only [List.map_toArray, List.map_cons, List.map_nil]); first | done | rfl | (simp only [List.length_drop, List.length_take]; rfl)) ?_; (with_reducible refine (cmp_isNaN_int.calls a0 false _ A3.out).mono ?_); rintro e w' ⟨rfl, ⟨nd, rfl⟩⟩; refine ⟨_, rfl, ?_⟩) | ((with_reducible refine gate_callee (f := 61) rfl ?_); refine goesL_ (some 10) rfl rfl Tryd.func61 (by kernel_rfl) rfl #[.int .i64 a1] rfl (by (try simp only [List.map_toArray, List.map_cons, List.map_nil]); first | done | rfl | (simp only [List.length_drop, List.length_take]; rfl)) ?_; (with_reducible refine (cmp_isNaN_int.calls a1 true _ A4.out).mono ?_); rintro e w' ⟨rfl, ⟨nd, rfl⟩⟩; refine ⟨_, rfl, ?_⟩))
   go_ret
   exact ⟨by first | rfl | (simp; done) | (simp [*]; done), by repeat (first | exact Drawn0.refl _ | apply Drawn0.step)⟩
  ·
   replace c7 := Bool.eq_false_iff.mpr c7
   subst c7
   have H1 : (if a0 < a1 then (some (-1)) else (if a0 > a1 then (some 1) else (some 0))) = some r := by rw [if_neg (show ¬ (false = true) by decide)] at H; exact H
   clear H
   have H := H1
   clear H1
   by_cases c8 : a0 < a1
   ·
    rw [if_pos c8] at H
    have c8b0 : decide (a0 < a1) = true := decide_eq_true c8
    clear c8
    obtain rfl := Option.some.inj H
    go_enter Tryd.func45, Tryd.ntmps45
    go_wp2_with (first | ((with_reducible refine gate_callee (f := 61) rfl ?_); refine goesL_ (some 8) rfl rfl Tryd.func61 (by kernel_rfl) rfl #[.int .i64 a0] rfl (by (try simp only [List.map_toArray, List.map_cons, List.map_nil]); first | done | rfl | (simp only [List.length_drop, List.length_take]; rfl)) ?_; (with_reducible refine (cmp_isNaN_int.calls a0 false _ A3.out).mono ?_); rintro e w' ⟨rfl, ⟨nd, rfl⟩⟩; refine ⟨_, rfl, ?_⟩) | ((with_reducible refine gate_callee (f := 61) rfl ?_); refine goesL_ (some 10) rfl rfl Tryd.func61 (by kernel_rfl) rfl #[.int .i64 a1] rfl (by (try simp only [List.map_toArray, List.map_cons, List.map_nil]); first | done | rfl | (simp only [List.length_drop, List.length_take]; rfl)) ?_; (with_reducible refine (cmp_isNaN_int.calls a1 false _ A4.out).mono ?_); rintro e w' ⟨rfl, ⟨nd, rfl⟩⟩; refine ⟨_, rfl, ?_⟩))
    go_ret
    exact ⟨by first | rfl | (simp; done) | (simp [*]; done), by repeat (first | exact Drawn0.refl _ | apply Drawn0.step)⟩
   ·
    rw [if_neg c8] at H
    have c8b0 : decide (a0 < a1) = false := decide_eq_false c8
    clear c8
    by_cases c9 : a0 > a1
    ·
     rw [if_pos c9] at H
     have c9b0 : decide (a1 < a0) = true := decide_eq_true c9
     clear c9
     obtain rfl := Option.some.inj H
     go_enter Tryd.func45, Tryd.ntmps45
     go_wp2_with (first | ((with_reducible refine gate_callee (f := 61) rfl ?_); refine goesL_ (some 8) rfl rfl Tryd.func61 (by kernel_rfl) rfl #[.int .i64 a0] rfl (by (try simp only [List.map_toArray, List.map_cons, List.map_nil]); first | done | rfl | (simp only [List.length_drop, List.length_take]; rfl)) ?_; (with_reducible refine (cmp_isNaN_int.calls a0 false _ A3.out).mono ?_); rintro e w' ⟨rfl, ⟨nd, rfl⟩⟩; refine ⟨_, rfl, ?_⟩) | ((with_reducible refine gate_callee (f := 61) rfl ?_); refine goesL_ (some 10) rfl rfl Tryd.func61 (by kernel_rfl) rfl #[.int .i64 a1] rfl (by (try simp only [List.map_toArray, List.map_cons, List.map_nil]); first | done | rfl | (simp only [List.length_drop, List.length_take]; rfl)) ?_; (with_reducible refine (cmp_isNaN_int.calls a1 false _ A4.out).mono ?_); rintro e w' ⟨rfl, ⟨nd, rfl⟩⟩; refine ⟨_, rfl, ?_⟩))
     go_ret
     exact ⟨by first | rfl | (simp; done) | (simp [*]; done), by repeat (first | exact Drawn0.refl _ | apply Drawn0.step)⟩
    ·
     rw [if_neg c9] at H
     have c9b0 : decide (a1 < a0) = false := decide_eq_false c9
     clear c9
     obtain rfl := Option.some.inj H
     go_enter Tryd.func45, Tryd.ntmps45
     go_wp2_with (first | ((with_reducible refine gate_callee (f := 61) rfl ?_); refine goesL_ (some 8) rfl rfl Tryd.func61 (by kernel_rfl) rfl #[.int .i64 a0] rfl (by (try simp only [List.map_toArray, List.map_cons, List.map_nil]); first | done | rfl | (simp only [List.length_drop, List.length_take]; rfl)) ?_; (with_reducible refine (cmp_isNaN_int.calls a0 false _ A3.out).mono ?_); rintro e w' ⟨rfl, ⟨nd, rfl⟩⟩; refine ⟨_, rfl, ?_⟩) | ((with_reducible refine gate_callee (f := 61) rfl ?_); refine goesL_ (some 10) rfl rfl Tryd.func61 (by kernel_rfl) rfl #[.int .i64 a1] rfl (by (try simp only [List.map_toArray, List.map_cons, List.map_nil]); first | done | rfl | (simp only [List.length_drop, List.length_take]; rfl)) ?_; (with_reducible refine (cmp_isNaN_int.calls a1 false _ A4.out).mono ?_); rintro e w' ⟨rfl, ⟨nd, rfl⟩⟩; refine ⟨_, rfl, ?_⟩))
     go_ret
     exact ⟨by first | rfl | (simp; done) | (simp [*]; done), by repeat (first | exact Drawn0.refl _ | apply Drawn0.step)⟩

end Go.Proofs.YtnllgjloimoebaaDoor.X

/- strings.Compare, in the form that the printed texts ask for. -/
namespace Go.Proofs.YtnllgjloimoebaaDoor.X
open Go.RowKit Go.Proofs.YtnllgjloimoebaaDoorW.PrintWords

def strings_Compare.f (a0 : ByteArray) (a1 : ByteArray) : Option Int := some (Lib.compareBytes a0.data.toList a1.data.toList)
theorem strings_Compare.calls (a0 : ByteArray) (a1 : ByteArray) (r : Int) (w : World) (h : strings_Compare.f a0 a1 = some r) :
    Calls Tryd.prog 54 #[.string a0, .string a1] w fun e w' => e = .returned (.int .i64 r) ∧ Drawn0 w w' := by
  cases h
  refine (Tryd.strings_Compare a0 a1 w).mono ?_
  rintro e w' ⟨rfl, rfl⟩
  exact ⟨rfl, Drawn0.refl _⟩
end Go.Proofs.YtnllgjloimoebaaDoor.X

-- By xprint.py (this session's own program over the kit's print): not trusted: Lean checks it.
namespace Go.Proofs.YtnllgjloimoebaaDoor.X
open Go.RowKit Go.Proofs.YtnllgjloimoebaaDoorW.PrintWords Go.Proofs.YtnllgjloimoebaaDoorW.PrintLast Go.Proofs.YtnllgjloimoebaaDoorW.PrintMore
attribute [local go_sem] max2_int min2_int max_two min_two max_three min_three max_four min_four   -- for this text's walks alone
set_option linter.unusedVariables false
set_option linter.unusedSimpArgs false

/-! ### value_Order: function 35 -/
def value_Order.f (k : Nat) (a0_0 : Int) (a0_1 : Int) (a0_2 : ByteArray) (a1_0 : Int) (a1_1 : Int) (a1_2 : ByteArray) : Option (Int) := (cmp_Compare_int.f a0_0 a1_0).bind fun t328 => ((cmp_Compare_int.f a0_1 a1_1).bind fun t329 => ((strings_Compare.f a0_2 a1_2).bind fun t330 => ((cmp_Or_int.f k (([t328, t329, t330] : List Int))).bind fun t334 => (some t334))))
def value_Order.T1 : Bool × List (List Nat × List Nat) := (true, [([], []), ([0], [0]), ([], []), ([2], [2]), ([1, 3], [1, 3]), ([], []), ([5], [5]), ([], []), ([7], [7]), ([6, 8, 4], [6, 8]), ([], []), ([10], [10]), ([], []), ([12], [12]), ([11, 13, 9], [11, 13]), ([4, 9, 14], [4, 9, 14]), ([15, 14], [15]), ([16, 16, 0, 1, 2, 3, 4, 5, 6, 7, 8, 9, 10, 11, 12, 13, 14, 15, 16], [16])])
def value_Order.B1 : List Nat := [0, 1, 0, 4, 15, 0, 32, 0, 128, 511, 0, 1024, 0, 4096, 16383, 32767, 65535, 131071]
theorem value_Order.tab1 : rtab .any (opsOf Tryd.f35 1) = value_Order.T1 := by kernel_rfl
theorem value_Order.bits1 : waitsOk value_Order.T1.2 value_Order.B1 = true := by kernel_rfl
end Go.Proofs.YtnllgjloimoebaaDoor.X
