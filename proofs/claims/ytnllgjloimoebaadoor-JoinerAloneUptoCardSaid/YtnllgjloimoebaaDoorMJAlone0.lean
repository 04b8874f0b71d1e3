/- The unmatched numbers are as the reference says; of two lists' own pairs they are exactly the indices that match nothing; for arguments of bulk at most 1048576. Part 1 of 5. -/
import Derived.Test.YtnllgjloimoebaaDoorProg
import Derived.Below
import Derived.Deep.Draws
import Derived.Deep.AppendLies
import Derived.Maps.AppendAt
import Derived.OwnWalk
import Derived.Laws.BytesArg
import Derived.Laws.MakeOwn
import Derived.Laws.OwnMore
import Derived.Deep.OwnRows
import Derived.Tactics
import Derived.Lib.ConvBytes
import Derived.Laws.Slices
import Derived.WalkKit
import Derived.KernelRfl
import Derived.RowKit3
import Derived.Deep.LoopGhost
import Derived.Deep.QuietTactic
import Derived.BigQuiet
import Derived.WideLaws
import Derived.Deep.DeepCutAuto
import Derived.Deep.CutBlock
import Derived.Deep.RegionHeld3
import Derived.Laws.Rows
import Derived.Lib.AppendStr
import Derived.ArgAppend
import Derived.Laws.IdiomCopy
import Derived.OrdersHeld
import Derived.Laws.BitsLemmas
import Derived.RowKit
import Derived.Test.YtnllgjloimoebaaDoorWWords
import Derived.Test.YtnllgjloimoebaaDoorWLast
import Derived.Test.YtnllgjloimoebaaDoorWTab
import Derived.Test.YtnllgjloimoebaaDoorWFour
import Derived.Test.YtnllgjloimoebaaDoorWQPut
import Derived.Test.YtnllgjloimoebaaDoorWApart
import Derived.Test.YtnllgjloimoebaaDoorWArr
import Derived.Test.YtnllgjloimoebaaDoorWZeros
import Derived.Test.YtnllgjloimoebaaDoorWFoot
import Derived.Test.YtnllgjloimoebaaDoorWKept
import Derived.Test.YtnllgjloimoebaaDoorWShare
import Derived.Test.YtnllgjloimoebaaDoorWN
import Derived.Test.YtnllgjloimoebaaDoorWFootNe
import Derived.Test.YtnllgjloimoebaaDoorWAt
import Derived.Test.YtnllgjloimoebaaDoorWEqStruct
import Derived.Test.YtnllgjloimoebaaDoorWRepsOne
import Derived.Test.YtnllgjloimoebaaDoorWGuard
import Derived.Test.YtnllgjloimoebaaDoorWNEv
import Derived.Test.YtnllgjloimoebaaDoorWMore
import Derived.Shelf.Strings.Builder1
import Derived.Shelf.Small.Bits
import Derived.Shelf.Small.Strs
import Derived.Shelf.Small.Wraps
import Derived.Shelf.Strings.BuilderF
import Derived.Shelf.Strings.BuilderK
import Derived.Shelf.Strconv.Itoa0
import Derived.Shelf.Strconv.Itoa1
import Derived.Shelf.LaysM
import Derived.Shelf.Strconv.Itoa2
import Derived.Shelf.Strconv.Itoa3
import Derived.Ground.Names2Prog
import Derived.Shelf.Slices.SearchI
import Derived.Ground.SlsfProg
import Derived.Shelf.SlSortCmp.Insertion
import Derived.Shelf.SlSortCmp.InsertionK
import Derived.Shelf.SlSortCmp.SiftDownK
import Derived.Shelf.SlSortCmp.HeapSortK
import Derived.Shelf.SlSortCmp.MedianK
import Derived.Shelf.SlSortCmp.PivotK
import Derived.Shelf.SlSortCmp.ReverseRangeK
import Derived.Shelf.SlSortCmp.PartialInsertionK
import Derived.Shelf.SlSortCmp.PartitionEqualK
import Derived.Shelf.SlSortCmp.PartitionK
import Derived.Shelf.SlSortCmp.PdqK
import Derived.Shelf.SlSortCmp.WholeK
import Derived.Shelf.SlSortCmp.SiftDown1
import Derived.Shelf.SlSortCmp.HeapSort1
import Derived.Shelf.SlSortCmp.Insertion1
import Derived.Shelf.SlSortCmp.Median1
import Derived.Shelf.SlSortCmp.Pivot1
import Derived.Shelf.SlSortCmp.ReverseRange1
import Derived.Shelf.SlSortCmp.PartialInsertion1
import Derived.Shelf.SlSortCmp.PartitionEqual1
import Derived.Shelf.SlSortCmp.Partition1
import Derived.Shelf.SlSortCmp.Pdq1
import Derived.Shelf.SlSortCmp.Whole1
import Derived.Shelf.SlSortCmp.NoneTotal
import Derived.Test.YtnllgjloimoebaaDoorChecked
import Derived.Lib.LaidTab
import Derived.WalkSmall
import Derived.Maps.OwnSet
import Derived.Maps.OwnOps
import Derived.DeepKeys4
import Derived.Test.YtnllgjloimoebaaDoorRows
import Derived.Deep.Strs
import Derived.OpenShut
import Derived.Deep.DeepHandedRow
import Derived.Deep.DeepLaidRun
import Derived.LaidSub
import Derived.Maps.OwnRows
import Derived.Maps.GroupsBeside
import Derived.StringKeys
import Derived.Lib.Builder
import Derived.Lib.UnsafeStr
import Derived.Lib.Walk
import Derived.Laws.Externs
import Derived.Sort.Grow

-- By xprint.py (this session's own program over the kit's print): not trusted: Lean checks it.
namespace Go.Proofs.YtnllgjloimoebaaDoor.X
open Go.RowKit Go.Proofs.YtnllgjloimoebaaDoorW.PrintWords Go.Proofs.YtnllgjloimoebaaDoorW.PrintLast Go.Proofs.YtnllgjloimoebaaDoorW.PrintMore
attribute [local go_sem] max2_int min2_int max_two min_two max_three min_three max_four min_four   -- for this text's walks alone
set_option linter.unusedVariables false
set_option linter.unusedSimpArgs false



def errW : Option Int → Value
 | none => .nilIface
 | some c => .iface 0 (.int .i64 c)
theorem errW_none : errW none = .nilIface := rfl
theorem errW_some (c : Int) : errW (some c) = .iface 0 (.int .i64 c) := rfl

theorem info3 : (Tryd.prog.info? 3).map (fun i => (i.zero, i.size, i.bytes)) = some (some (.int .i64 0), 1, 8) := by kernel_rfl
theorem info30 : (Tryd.prog.info? 30).map (fun i => (i.zero, i.size, i.bytes)) = some (some (.slice none 0 0), 1, 24) := by kernel_rfl
theorem info33 : (Tryd.prog.info? 33).map (fun i => (i.zero, i.size, i.bytes)) = some (some (.slice none 0 0), 1, 24) := by kernel_rfl
theorem info40 : (Tryd.prog.info? 40).map (fun i => (i.zero, i.size, i.bytes)) = some (some (.agg #[(.int .i64 0), (.int .i64 0)]), 2, 16) := by kernel_rfl
theorem info44 : (Tryd.prog.info? 44).map (fun i => (i.zero, i.size, i.bytes)) = some (some (.agg #[(.int .i64 0), (.int .i64 0), (.string ⟨#[]⟩)]), 3, 32) := by kernel_rfl
-- the values' own types
def rd_L1 (xs : List (List Int)) (i : Int) : (List Int) := xs.getD i.toNat ([] : List Int)
theorem at_L1 {w : World} {A : Option Addr} {n : Nat} {xs : List (List Int)} (h : Kd.C (Kd.slice 3 (Kd.int .i64)) w A n xs) (i : Int) (h0 : 0 ≤ i) (h1 : i < n) : ∃ ad A0 c0, A = some ad ∧ w.cell? (ad.add i.toNat) = some (.slice A0 (rd_L1 xs i).length c0) ∧ (rd_L1 xs i).length ≤ c0 ∧ (Kd.int .i64).C w A0 (rd_L1 xs i).length (rd_L1 xs i) := by
 obtain ⟨ad, c, e, _, hK, hc0⟩ := Kd.C_get h ([] : List Int) i h0 h1
 have hc : ∀ j u, c[j]? = some u → w.cell? (ad.add (i.toNat * 1 + j)) = some u := hc0
 obtain ⟨A0, c0, rfl, l0, g0⟩ := hK
 exact ⟨ad, A0, c0, e, by have hq := hc 0 _ rfl; rwa [Nat.mul_one, Nat.add_zero] at hq, l0, g0⟩

/-! #### struct type 44 -/
structure S44 where
 f0 : Int
 f1 : Int
 f2 : ByteArray
def z44 : S44 := ⟨(0 : Int), (0 : Int), (⟨#[]⟩ : ByteArray)⟩
def k44 : Kd S44 := Kd.iso (Kd.pair (Kd.int .i64) (Kd.pair (Kd.int .i64) Kd.string)) (fun x : S44 => (x.f0, x.f1, x.f2))
theorem k44_open {w : World} {x : S44} {cs : List Value} (h : k44.K w x cs) : cs = [.int .i64 x.f0, .int .i64 x.f1, .string x.f2] := by
 obtain ⟨_, _, rfl, rfl, ⟨_, _, rfl, rfl, rfl⟩⟩ := h
 exact rfl
theorem k44_openM {w : World} {base : Nat} {ok : Nat → Prop} {x : S44} {cs : List Value} (h : k44.M w base ok x cs) : cs = [.int .i64 x.f0, .int .i64 x.f1, .string x.f2] := by
 obtain ⟨_, _, rfl, rfl, ⟨_, _, rfl, rfl, rfl⟩⟩ := h
 exact rfl
theorem k44_mk (w : World) (x : S44)  : k44.K w x [.int .i64 x.f0, .int .i64 x.f1, .string x.f2] := ⟨[.int .i64 x.f0], [.int .i64 x.f1, .string x.f2], rfl, rfl, ⟨[.int .i64 x.f1], [.string x.f2], rfl, rfl, rfl⟩⟩
theorem k44_mkM (w : World) (base : Nat) (ok : Nat → Prop) (x : S44)  : k44.M w base ok x [.int .i64 x.f0, .int .i64 x.f1, .string x.f2] := ⟨[.int .i64 x.f0], [.int .i64 x.f1, .string x.f2], rfl, rfl, ⟨[.int .i64 x.f1], [.string x.f2], rfl, rfl, rfl⟩⟩
theorem k44_mkF (W : World) (ok : Nat → Prop) (x : S44) : Kd.FK k44 W ok x [.int .i64 x.f0, .int .i64 x.f1, .string x.f2] := fun W2 _ => k44_mk W2 x
def rd_T44 (xs : List S44) (i : Int) : S44 := xs.getD i.toNat z44
theorem at_T44 {w : World} {A : Option Addr} {n : Nat} {xs : List S44} (h : Kd.C k44 w A n xs) (i : Int) (h0 : 0 ≤ i) (h1 : i < n) : ∃ ad , A = some ad ∧ w.cell? (ad.add (i.toNat * 3)) = some (.int .i64 (rd_T44 xs i).f0) ∧ w.cell? ⟨(ad.add (i.toNat * 3)).block, (ad.add (i.toNat * 3)).off + 1, none⟩ = some (.int .i64 (rd_T44 xs i).f1) ∧ w.cell? ⟨(ad.add (i.toNat * 3)).block, (ad.add (i.toNat * 3)).off + 2, none⟩ = some (.string (rd_T44 xs i).f2) := by
 obtain ⟨ad, c, e, _, hK, hc0⟩ := Kd.C_get h z44 i h0 h1
 have hc : ∀ j u, c[j]? = some u → w.cell? (ad.add (i.toNat * 3 + j)) = some u := hc0
 obtain rfl := k44_open hK
 exact ⟨ad, e, hc 0 _ rfl, by rw [← add_field _ _ 1 (by omega)]; exact hc 1 _ rfl, by rw [← add_field _ _ 2 (by omega)]; exact hc 2 _ rfl⟩

def rd_L4 (xs : List (List S44)) (i : Int) : (List S44) := xs.getD i.toNat ([] : List S44)
theorem at_L4 {w : World} {A : Option Addr} {n : Nat} {xs : List (List S44)} (h : Kd.C (Kd.slice 44 k44) w A n xs) (i : Int) (h0 : 0 ≤ i) (h1 : i < n) : ∃ ad A0 c0, A = some ad ∧ w.cell? (ad.add i.toNat) = some (.slice A0 (rd_L4 xs i).length c0) ∧ (rd_L4 xs i).length ≤ c0 ∧ k44.C w A0 (rd_L4 xs i).length (rd_L4 xs i) := by
 obtain ⟨ad, c, e, _, hK, hc0⟩ := Kd.C_get h ([] : List S44) i h0 h1
 have hc : ∀ j u, c[j]? = some u → w.cell? (ad.add (i.toNat * 1 + j)) = some u := hc0
 obtain ⟨A0, c0, rfl, l0, g0⟩ := hK
 exact ⟨ad, A0, c0, e, by have hq := hc 0 _ rfl; rwa [Nat.mul_one, Nat.add_zero] at hq, l0, g0⟩

/-! #### struct type 40 -/
structure S40 where
 f0 : Int
 f1 : Int
def z40 : S40 := ⟨(0 : Int), (0 : Int)⟩
def k40 : Kd S40 := Kd.iso (Kd.pair (Kd.int .i64) (Kd.int .i64)) (fun x : S40 => (x.f0, x.f1))
theorem k40_open {w : World} {x : S40} {cs : List Value} (h : k40.K w x cs) : cs = [.int .i64 x.f0, .int .i64 x.f1] := by
 obtain ⟨_, _, rfl, rfl, rfl⟩ := h
 exact rfl
theorem k40_openM {w : World} {base : Nat} {ok : Nat → Prop} {x : S40} {cs : List Value} (h : k40.M w base ok x cs) : cs = [.int .i64 x.f0, .int .i64 x.f1] := by
 obtain ⟨_, _, rfl, rfl, rfl⟩ := h
 exact rfl
theorem k40_mk (w : World) (x : S40)  : k40.K w x [.int .i64 x.f0, .int .i64 x.f1] := ⟨[.int .i64 x.f0], [.int .i64 x.f1], rfl, rfl, rfl⟩
theorem k40_mkM (w : World) (base : Nat) (ok : Nat → Prop) (x : S40)  : k40.M w base ok x [.int .i64 x.f0, .int .i64 x.f1] := ⟨[.int .i64 x.f0], [.int .i64 x.f1], rfl, rfl, rfl⟩
theorem k40_mkF (W : World) (ok : Nat → Prop) (x : S40) : Kd.FK k40 W ok x [.int .i64 x.f0, .int .i64 x.f1] := fun W2 _ => k40_mk W2 x
def rd_T40 (xs : List S40) (i : Int) : S40 := xs.getD i.toNat z40
theorem at_T40 {w : World} {A : Option Addr} {n : Nat} {xs : List S40} (h : Kd.C k40 w A n xs) (i : Int) (h0 : 0 ≤ i) (h1 : i < n) : ∃ ad , A = some ad ∧ w.cell? (ad.add (i.toNat * 2)) = some (.int .i64 (rd_T40 xs i).f0) ∧ w.cell? ⟨(ad.add (i.toNat * 2)).block, (ad.add (i.toNat * 2)).off + 1, none⟩ = some (.int .i64 (rd_T40 xs i).f1) := by
 obtain ⟨ad, c, e, _, hK, hc0⟩ := Kd.C_get h z40 i h0 h1
 have hc : ∀ j u, c[j]? = some u → w.cell? (ad.add (i.toNat * 2 + j)) = some u := hc0
 obtain rfl := k40_open hK
 exact ⟨ad, e, hc 0 _ rfl, by rw [← add_field _ _ 1 (by omega)]; exact hc 1 _ rfl⟩

end Go.Proofs.YtnllgjloimoebaaDoor.X

/- Contracts of Go's library at this dump (by the kit's lay-plain): strings.Compare, strings.Builder.String, strconv.Itoa. -/
namespace Go.Proofs
open Go.Shelf
def Tryd.lays169_ren : Go.Shelf.Ren := ⟨fun | 169 => 49 | n => n, fun | 70 => 68 | 9 => 9 | 0 => 0 | 72 => 71 | 37 => 69 | 127 => 90 | 3 => 3 | 5 => 5 | n => n, fun | n => n⟩
theorem Tryd.lays169 : Go.Proofs.Lays.n169 Tryd.prog Tryd.lays169_ren := {
  mixed := by kernel_rfl
  f169 := Tryd.func49.trans (congrArg some (by kernel_rfl))
  t0 := Tryd.underlying0
  a0 := Tryd.isAgg0
  z0 := Tryd.sizeOf0
  v0 := Tryd.zeroValue0
  t3 := Tryd.underlying3
  a3 := Tryd.isAgg3
  z3 := Tryd.sizeOf3
  v3 := Tryd.zeroValue3
  t9 := Tryd.underlying9
  a9 := Tryd.isAgg9
  z9 := Tryd.sizeOf9
  v9 := Tryd.zeroValue9
  t37 := Tryd.underlying69
  a37 := Tryd.isAgg69
  z37 := Tryd.sizeOf69
  v37 := Tryd.zeroValue69
  t70 := Tryd.underlying68
  a70 := Tryd.isAgg68
  z70 := Tryd.sizeOf68
  v70 := Tryd.zeroValue68
  t72 := Tryd.underlying71
  a72 := Tryd.isAgg71
  z72 := Tryd.sizeOf71
  v72 := Tryd.zeroValue71
  t127 := Tryd.underlying90
  a127 := Tryd.isAgg90
  z127 := Tryd.sizeOf90
  v127 := Tryd.zeroValue90 }
theorem Tryd.Builder_Extra_169 : Builder.Extra Tryd.prog Tryd.lays169_ren := {
  sizeBuilder := by kernel_rfl
  liesBuilder := by kernel_rfl
  t5 := Tryd.underlying5
  a5 := Tryd.isAgg5
  z5 := Tryd.sizeOf5
  v5 := Tryd.zeroValue5
  infoByte := by kernel_rfl
  cellsByte := by kernel_rfl
  sizeByte := by kernel_rfl
  neB5 := by decide }
open Go.RowKit in
/-- (*strings.Builder).String: "String returns the accumulated string.": WHATEVER THE BUILDER HOLDS. (LAID: no walk: one application.) -/
theorem Tryd.Builder_String_any (B b : Nat) (l : List UInt8) (w : World) (h : Lib.IsBuilder 71 5 B b (Lib.byteCells l) w) (hBw : B ≤ w.heap.size) :
    Calls Tryd.prog 49 #[.pointer (some ⟨b, 0, none⟩)] w fun e w' => e = .returned (.string ⟨l.toArray⟩) ∧ Below B w w' := Any.Builder_String_any Tryd.lays169 Tryd.Builder_Extra_169 B b l w h hBw
def Tryd.lays106_ren : Go.Shelf.Ren := ⟨fun | 106 => 54 | 213 => 76 | 265 => 96 | n => n, fun | 9 => 9 | 3 => 3 | n => n, fun | n => n⟩
theorem Tryd.lays106 : Go.Proofs.Lays.n106 Tryd.prog Tryd.lays106_ren := {
  mixed := by kernel_rfl
  f106 := Tryd.func54.trans (congrArg some (by kernel_rfl))
  f213 := Tryd.func76.trans (congrArg some (by kernel_rfl))
  f265 := Tryd.func96.trans (congrArg some (by kernel_rfl))
  t3 := Tryd.underlying3
  a3 := Tryd.isAgg3
  z3 := Tryd.sizeOf3
  v3 := Tryd.zeroValue3
  t9 := Tryd.underlying9
  a9 := Tryd.isAgg9
  z9 := Tryd.sizeOf9
  v9 := Tryd.zeroValue9 }
open Go.RowKit in
/-- strings.Compare: "Compare returns an integer comparing two strings lexicographically. The result will be 0 if a == b, -1 if a < b, and +1 if a > b.": IT RETURNS 'Lib.compareBytes a b'; the world is as it was. (LAID: no walk: one application.) -/
theorem Tryd.strings_Compare (a b : ByteArray) (w : World) :
    Calls Tryd.prog 54 #[.string a, .string b] w fun e w' => e = .returned (.int .i64 (Lib.compareBytes a.data.toList b.data.toList)) ∧ w' = w := Any.strings_Compare Tryd.lays106 a b w
def Tryd.laysM171_ren : Go.Shelf.Ren := ⟨fun | 171 => 48 | 243 => 64 | 246 => 90 | 283 => 109 | 284 => 110 | 285 => 111 | 286 => 112 | 129 => 75 | 317 => 119 | 318 => 120 | 319 => 121 | 320 => 122 | 337 => 124 | 338 => 125 | n => n, fun | 3 => 3 | 9 => 9 | 2 => 2 | 4 => 4 | 171 => 127 | 0 => 0 | 53 => 101 | 37 => 69 | 5 => 5 | 173 => 129 | 212 => 139 | 51 => 99 | 20 => 20 | 213 => 140 | 46 => 80 | 232 => 142 | 233 => 143 | n => n, fun | 17 => 1 | 18 => 2 | 19 => 3 | n => n⟩
theorem Tryd.laysM171 : Go.Proofs.LaysM.n171 Tryd.prog Tryd.laysM171_ren := {
  mixed := by kernel_rfl
  f129 := Tryd.func75.trans (congrArg some (by kernel_rfl))
  f171 := Tryd.func48.trans (congrArg some (by kernel_rfl))
  f243 := Tryd.func64.trans (congrArg some (by kernel_rfl))
  f246 := Tryd.func90.trans (congrArg some (by kernel_rfl))
  f283 := Tryd.func109.trans (congrArg some (by kernel_rfl))
  f284 := Tryd.func110.trans (congrArg some (by kernel_rfl))
  f285 := Tryd.func111.trans (congrArg some (by kernel_rfl))
  f286 := Tryd.func112.trans (congrArg some (by kernel_rfl))
  f317 := Tryd.func119.trans (congrArg some (by kernel_rfl))
  f318 := Tryd.func120.trans (congrArg some (by kernel_rfl))
  f319 := Tryd.func121.trans (congrArg some (by kernel_rfl))
  f320 := Tryd.func122.trans (congrArg some (by kernel_rfl))
  f337 := Tryd.func124.trans (congrArg some (by kernel_rfl))
  f338 := Tryd.func125.trans (congrArg some (by kernel_rfl))
  t0 := Tryd.underlying0
  a0 := Tryd.isAgg0
  z0 := Tryd.sizeOf0
  v0 := Tryd.zeroValue0
  t2 := Tryd.underlying2
  a2 := Tryd.isAgg2
  z2 := Tryd.sizeOf2
  v2 := Tryd.zeroValue2
  t3 := Tryd.underlying3
  a3 := Tryd.isAgg3
  z3 := Tryd.sizeOf3
  v3 := Tryd.zeroValue3
  t4 := Tryd.underlying4
  a4 := Tryd.isAgg4
  z4 := Tryd.sizeOf4
  v4 := Tryd.zeroValue4
  t5 := Tryd.underlying5
  a5 := Tryd.isAgg5
  z5 := Tryd.sizeOf5
  v5 := Tryd.zeroValue5
  t9 := Tryd.underlying9
  a9 := Tryd.isAgg9
  z9 := Tryd.sizeOf9
  v9 := Tryd.zeroValue9
  t20 := Tryd.underlying20
  a20 := Tryd.isAgg20
  z20 := Tryd.sizeOf20
  v20 := Tryd.zeroValue20
  t37 := Tryd.underlying69
  a37 := Tryd.isAgg69
  z37 := Tryd.sizeOf69
  v37 := Tryd.zeroValue69
  t46 := Tryd.underlying80
  a46 := Tryd.isAgg80
  z46 := Tryd.sizeOf80
  v46 := Tryd.zeroValue80
  t51 := Tryd.underlying99
  a51 := Tryd.isAgg99
  z51 := Tryd.sizeOf99
  v51 := Tryd.zeroValue99
  t53 := Tryd.underlying101
  a53 := Tryd.isAgg101
  z53 := Tryd.sizeOf101
  v53 := Tryd.zeroValue101
  t171 := Tryd.underlying127
  a171 := Tryd.isAgg127
  z171 := Tryd.sizeOf127
  v171 := Tryd.zeroValue127
  t173 := Tryd.underlying129
  a173 := Tryd.isAgg129
  z173 := Tryd.sizeOf129
  v173 := Tryd.zeroValue129
  t212 := Tryd.underlying139
  a212 := Tryd.isAgg139
  z212 := Tryd.sizeOf139
  v212 := Tryd.zeroValue139
  t213 := Tryd.underlying140
  a213 := Tryd.isAgg140
  z213 := Tryd.sizeOf140
  t232 := Tryd.underlying142
  a232 := Tryd.isAgg142
  z232 := Tryd.sizeOf142
  v232 := Tryd.zeroValue142
  t233 := Tryd.underlying143
  a233 := Tryd.isAgg143
  z233 := Tryd.sizeOf143
  v233 := Tryd.zeroValue143
  g17 := by kernel_rfl
  g18 := by kernel_rfl
  g19 := by kernel_rfl
  i0 := by kernel_rfl
  i2 := by kernel_rfl
  i3 := by kernel_rfl
  i4 := by kernel_rfl
  i5 := by kernel_rfl
  i9 := by kernel_rfl
  i20 := by kernel_rfl
  i37 := by kernel_rfl
  i46 := by kernel_rfl
  i51 := by kernel_rfl
  i53 := by kernel_rfl
  i171 := by kernel_rfl
  i173 := by kernel_rfl
  i212 := by kernel_rfl
  i232 := by kernel_rfl
  i233 := by kernel_rfl
  m17 := by kernel_rfl
  m18 := by kernel_rfl
  m19 := by kernel_rfl }
open Go.RowKit Go.Sort Go.Lib in
/-- strconv.Itoa: "Itoa is equivalent to FormatInt(int64(i), 10).": i's DECIMAL NUMERAL ('Lib.itoa': a '-' where i is negative, then the digits), FOR EVERY int. The world behind the call: the world before it, new blocks behind the heap (the library's 'var a [24]byte'), draws. (LAID: no walk: one application.) -/
theorem Tryd.strconv_Itoa (n : Int) (h0 : -9223372036854775808 ≤ n) (h1 : n ≤ 9223372036854775807) (w : World) (htab : Lib.TabIs Tryd.prog w "internal/strconv.uint64pow10" .u64 Lib.pow10Tab) :
    Calls Tryd.prog 48 #[.int .i64 n] w fun e w' => e = .returned (.string ⟨(Lib.itoa n).toArray⟩) ∧ ∃ k os, w' = grow (w.drewN k) os := Any.strconv_Itoa Tryd.laysM171 n h0 h1 w htab
end Go.Proofs

/- The table that strconv.Itoa reads, carried over new memory; what is asked of rows of values (their numbers are int64s, their texts are short), and the texts of keys. -/
namespace Go.Proofs.YtnllgjloimoebaaDoor.X
open Go.RowKit Go.Proofs.YtnllgjloimoebaaDoorW.PrintWords

abbrev Tab (w : World) : Prop := Lib.TabIs Tryd.prog w "internal/strconv.uint64pow10" .u64 Lib.pow10Tab

theorem tab_global : Tryd.prog.globalNamed "internal/strconv.uint64pow10" = some 1 := by kernel_rfl
theorem tab_lt {w : World} (h : Tab w) : 1 < w.heap.size := by
  unfold Tab Lib.TabIs World.var? at h
  rw [tab_global] at h
  simp only [Option.bind_some] at h
  rcases Nat.lt_or_ge 1 w.heap.size with h1 | h1
  · exact h1
  · rw [Array.getElem?_eq_none h1] at h
    simp at h
theorem tab_below {w W : World} {B : Nat} (h : Tab w) (hB : 1 < B) (hb : Below B w W) : Tab W := var?_below hb tab_global hB h
theorem tab_of {w W : World} (h : Tab w) (hb : Below w.heap.size w W) : Tab W := tab_below h (tab_lt h) hb

/-! ### Rows of values -/
def i64ok (n : Int) : Bool := decide (-9223372036854775808 ≤ n) && decide (n ≤ 9223372036854775807)
/-- how much a row's text may take -/
def rowSize (r : List S44) : Nat := (r.map fun x => x.f2.size + 100).sum
def rowOK (r : List S44) : Bool := r.all (fun x => i64ok x.f0 && i64ok x.f1) && decide (rowSize r ≤ 1099511627776)
def rowsOK (l : List (List S44)) : Bool := l.all rowOK && decide (l.length ≤ 1099511627776)

/-- the text of a value within a key -/
def vtext (x : S44) : List UInt8 := Lib.itoa x.f0 ++ [32] ++ Lib.itoa x.f1 ++ [32] ++ Lib.itoa (x.f2.size : Int) ++ [32] ++ x.f2.data.toList
def ktext (r : List S44) : List UInt8 := r.flatMap vtext

theorem decDigits_len (n : Nat) : ∀ u, u < 10 ^ (n + 1) → (Lib.decDigits u).length ≤ n + 1 := by
  induction n with
  | zero => intro u h; unfold Lib.decDigits; rw [dif_pos (by simpa using h)]; simp
  | succ n ih =>
    intro u h
    unfold Lib.decDigits
    split
    · simp
    · have := ih (u / 10) (by rw [Nat.pow_succ] at h; omega)
      simp; omega
theorem itoa_len (n : Int) (h : i64ok n = true) : (Lib.itoa n).length ≤ 20 := by
  unfold i64ok at h
  simp only [Bool.and_eq_true, decide_eq_true_eq] at h
  unfold Lib.itoa
  split
  · have := decDigits_len 18 n.natAbs (by omega)
    simp; omega
  · have := decDigits_len 18 n.toNat (by omega)
    omega
theorem i64ok_of {n : Int} (h0 : -9223372036854775808 ≤ n) (h1 : n ≤ 9223372036854775807) : i64ok n = true := by
  unfold i64ok
  rw [Bool.and_eq_true, decide_eq_true_eq, decide_eq_true_eq]
  exact ⟨h0, h1⟩
theorem vtext_len (x : S44) (h0 : i64ok x.f0 = true) (h1 : i64ok x.f1 = true) (h2 : x.f2.size ≤ 1099511627776) : (vtext x).length ≤ x.f2.size + 100 := by
  have a := itoa_len _ h0
  have b := itoa_len _ h1
  have c := itoa_len (x.f2.size : Int) (i64ok_of (by omega) (by omega))
  have d : x.f2.data.toList.length = x.f2.size := Array.length_toList
  unfold vtext
  simp only [List.length_append, List.length_cons, List.length_nil, d]
  omega
theorem ktext_len : ∀ (r : List S44), (∀ x ∈ r, i64ok x.f0 = true ∧ i64ok x.f1 = true ∧ x.f2.size ≤ 1099511627776) → (ktext r).length ≤ rowSize r
  | [], _ => by simp [ktext, rowSize]
  | x :: r, h => by
    have a := vtext_len x (h x (by simp)).1 (h x (by simp)).2.1 (h x (by simp)).2.2
    have b := ktext_len r (fun y hy => h y (by simp [hy]))
    unfold ktext rowSize at *
    simp only [List.flatMap_cons, List.length_append, List.map_cons, List.sum_cons]
    omega
theorem size_le_rowSize : ∀ (r : List S44), ∀ x ∈ r, x.f2.size ≤ rowSize r
  | y :: r, x, h => by
    unfold rowSize
    simp only [List.map_cons, List.sum_cons]
    rcases List.mem_cons.1 h with rfl | h
    · omega
    · have := size_le_rowSize r x h
      unfold rowSize at this
      omega
theorem rowOK_of {r : List S44} (h : rowOK r = true) : rowSize r ≤ 1099511627776 ∧ ∀ x ∈ r, i64ok x.f0 = true ∧ i64ok x.f1 = true ∧ x.f2.size ≤ 1099511627776 := by
  unfold rowOK at h
  simp only [Bool.and_eq_true, decide_eq_true_eq, List.all_eq_true] at h
  exact ⟨h.2, fun x hx => ⟨(h.1 x hx).1, (h.1 x hx).2, Nat.le_trans (size_le_rowSize r x hx) h.2⟩⟩
theorem rowSize_take (r : List S44) (k : Nat) : rowSize (r.take k) ≤ rowSize r := by
  have h : rowSize (r.take k ++ r.drop k) = rowSize (r.take k) + rowSize (r.drop k) := by unfold rowSize; rw [List.map_append, List.sum_append]
  rw [List.take_append_drop] at h
  omega
end Go.Proofs.YtnllgjloimoebaaDoor.X

/- A map[key]int that the call makes (key: how many values a row has, and their text), read as a function of rows; rows with one text and one length are the same. -/
set_option linter.unusedVariables false
namespace Go.Proofs.YtnllgjloimoebaaDoor.X
open Go.RowKit Go.Maps Go.Proofs.YtnllgjloimoebaaDoorW.PrintWords

def keyV (r : List S44) : Value := .agg #[.int .i64 r.length, .string ⟨(ktext r).toArray⟩]

theorem laidOut48 : laidOutB Tryd.prog = true := by kernel_rfl
theorem law48 : Keyed Tryd.prog 48 := Keyed.of_law (deep_law_laid laidOut48 (m := Tryd.prog.types.size + 1) (of_decide_eq_true (by kernel_rfl)) (of_decide_eq_true (by kernel_rfl)) (by kernel_rfl) (by kernel_rfl))
theorem zero3 (w : World) : (zeroValue 3).run Tryd.prog w = .ok (.int .i64 0) w := by kernel_rfl
theorem size_types : ∃ m, Tryd.prog.types.size = m + 1 := ⟨Tryd.prog.types.size - 1, by
  have : 0 < Tryd.prog.types.size := of_decide_eq_true (by kernel_rfl)
  omega⟩

/-- a row whose key can be told -/
def keyable (r : List S44) : Bool := rowOK r && decide (r.length ≤ 1099511627776)
theorem keyable_len {r : List S44} (h : keyable r = true) : (ktext r).length ≤ 1099511627776 ∧ r.length ≤ 1099511627776 := by
  unfold keyable at h
  simp only [Bool.and_eq_true, decide_eq_true_eq] at h
  have h1 := rowOK_of h.1
  exact ⟨Nat.le_trans (ktext_len r h1.2) h1.1, h.2⟩

theorem wf_i64 {n : Int} (h0 : -9223372036854775808 ≤ n) (h1 : n ≤ 9223372036854775807) : (Lit.int .i64 n).wf = true := by
  show (decide (-9223372036854775808 ≤ n) && decide (n ≤ 9223372036854775807)) = true
  rw [Bool.and_eq_true, decide_eq_true_eq, decide_eq_true_eq]
  exact ⟨h0, h1⟩
theorem kt48 : Tryd.prog.keyType 48 = true := by kernel_rfl
theorem cells48 : Tryd.prog.cellsOf 48 = 2 := by kernel_rfl
theorem cells3 : Tryd.prog.cellsOf 3 = 1 := by kernel_rfl
theorem cells9 : Tryd.prog.cellsOf 9 = 1 := by kernel_rfl
theorem keyOf_row (r : List S44) (h : keyable r = true) : ∃ kl, keyOf Tryd.prog 48 (keyV r) = some kl := by
  obtain ⟨h1, h2⟩ := keyable_len h
  have hi : (Lit.int .i64 (r.length : Int)).wf = true := wf_i64 (by omega) (by omega)
  have hs : (⟨(ktext r).toArray⟩ : ByteArray).size ≤ maxLen := by
    show (ktext r).toArray.size ≤ maxLen
    simp [maxLen]
    omega
  unfold keyOf
  simp only [Tryd.underlying48]
  rw [if_pos (by rw [kt48]; simp [keyV, Value.formed, Tryd.underlying48, cells48])]
  obtain ⟨m, hm⟩ := size_types
  obtain ⟨m', hm'⟩ : ∃ m', m = m' + 1 := ⟨m - 1, by
    have : 1 < Tryd.prog.types.size := of_decide_eq_true (by kernel_rfl)
    omega⟩
  rw [hm, hm']
  unfold Program.keyLits
  simp only [Tryd.underlying48, keyV, Value.cells]
  rw [if_pos (by rw [cells48]; simp)]
  simp [Program.keyLits, Tryd.underlying3, Tryd.underlying9, cells3, cells9, hi, hs]

/-- what a row's key tells of it -/
def keyT (r : List S44) : Nat × List UInt8 := (r.length, ktext r)
theorem keyV_iff (r r' : List S44) : keyV r = keyV r' ↔ keyT r = keyT r' := by
  unfold keyV keyT
  constructor
  · intro h
    injection h with h
    simp only [Array.mk.injEq, List.cons.injEq, Value.int.injEq, Value.string.injEq, ByteArray.mk.injEq, true_and, and_true] at h
    exact Prod.ext (by have := h.1; show r.length = r'.length; omega) h.2
  · intro h
    injection h with h1 h2
    rw [h1, h2]

/-- block b is a map of at most n entries: what f says stands in it -/
def MapG (w : World) (b n : Nat) (f : Nat × List UInt8 → Option Int) : Prop :=
  ∃ D : DataW Unit, w.ownsMap Tryd.prog 48 (plainElem Tryd.prog 3) b n D ∧ ∀ r, keyable r = true → ∀ kl, keyOf Tryd.prog 48 (keyV r) = some kl →
    Maps.has D kl = (f (keyT r)).isSome ∧ ∀ v, f (keyT r) = some v → D.atKey kl (.lit (.int .i64 0)) = .lit (.int .i64 v)

theorem MapG_made (w : World) : MapG (w.alloc (.map #[] 0)) w.heap.size 0 (fun _ => none) :=
  ⟨.map [], World.ownsMap_made w _ _ _, fun r _ kl _ => ⟨rfl, fun v hv => by cases hv⟩⟩
theorem MapG_lt {w : World} {b n : Nat} {f : Nat × List UInt8 → Option Int} (h : MapG w b n f) : b < w.heap.size := by
  obtain ⟨D, h, _⟩ := h
  exact h.lt
theorem MapG_below {w w' : World} {b n : Nat} {f : Nat × List UInt8 → Option Int} (h : MapG w b n f) {B : Nat} (hb : Below B w w') (hB : b < B) : MapG w' b n f := by
  have hlt := MapG_lt h
  obtain ⟨D, ⟨es, clock, h1, h2⟩, h3⟩ := h
  exact ⟨D, ⟨es, clock, (hb.block b hB).trans h1, h2⟩, h3⟩
theorem MapG_kept {w w' : World} {b n : Nat} {f : Nat × List UInt8 → Option Int} (h : MapG w b n f) {row : Option Nat} (hg : w.grownBy w' row) (hne : some b ≠ row) : MapG w' b n f := by
  obtain ⟨D, h1, h2⟩ := h
  exact ⟨D, h1.kept hg hne, h2⟩
theorem MapG_alloc {w : World} {b n : Nat} {f : Nat × List UInt8 → Option Int} (h : MapG w b n f) (o : Obj) : MapG (w.alloc o) b n f := by
  obtain ⟨D, h1, h2⟩ := h
  exact ⟨D, h1.alloc o, h2⟩
theorem MapG_setCell {w : World} {b n : Nat} {f : Nat × List UInt8 → Option Int} (h : MapG w b n f) {a : Addr} (ha : b ≠ a.block) (u : Value) : MapG (w.setCell a u) b n f := by
  obtain ⟨D, h1, h2⟩ := h
  exact ⟨D, h1.setCell ha u, h2⟩
theorem MapG_mono {w : World} {b n n' : Nat} {f : Nat × List UInt8 → Option Int} (h : MapG w b n f) (hn : n ≤ n') : MapG w b n' f := by
  obtain ⟨D, h1, h2⟩ := h
  exact ⟨D, h1.mono hn, h2⟩
theorem MapG_drewN {w : World} {b n : Nat} {f : Nat × List UInt8 → Option Int} (h : MapG w b n f) (m : Nat) : MapG (w.drewN m) b n f := h

theorem lit_inj {a b : Int} (h : (DataW.lit (.int .i64 a) : DataW Unit) = .lit (.int .i64 b)) : a = b := by
  simpa using h
/-- 'v, ok := m[key]' -/
theorem wp_lookG (w : World) {ops : Array Oper} {rest : List Oper} {o : Oper} {a : Act} {Q : Exit → Act → World → Prop}
    (hg : o.guard = none) (m x : Operand) (hop : o.op = Op.lookup 46 m x true)
    (b n : Nat) (f : Nat × List UInt8 → Option Int) (r : List S44) (hr : keyable r = true) (c0 : Int) (ok0 : Bool) (hc0 : (f (keyT r)).getD 0 = c0) (hok0 : (f (keyT r)).isSome = ok0)
    (hm : a.eval m = .map (some b)) (hown : MapG w b n f) (hx : a.eval x = keyV r)
    (hK : wpList Tryd.prog ops Q rest (a.put o.dst (.tuple #[.int .i64 c0, .bool ok0])) w) :
    wpList Tryd.prog ops Q (o :: rest) a w := by
  subst hc0
  subst hok0
  obtain ⟨D, h1, h2⟩ := hown
  obtain ⟨kl, hkl⟩ := keyOf_row r hr
  obtain ⟨h3, h4⟩ := h2 r hr kl hkl
  refine wpList_lookup_own_ok_int w hg m x 46 hop 48 3 .i64 law48 Tryd.underlying46 Tryd.underlying3 (zero3 w) b n D hm h1 (keyV r) kl hx hkl ?_
  intro c hc _
  rw [h3]
  have e : c = (f (keyT r)).getD 0 := by
    cases hf : f (keyT r) with
    | none =>
      rw [hf] at h3
      rw [Maps.atKey_of_not_has h3] at hc
      exact (lit_inj hc).symm
    | some v =>
      rw [h4 v hf] at hc
      exact (lit_inj hc).symm
  rw [e]
  exact hK

def putG (f : Nat × List UInt8 → Option Int) (t : Nat × List UInt8) (v : Int) : Nat × List UInt8 → Option Int := fun t' => if t' = t then some v else f t'

/-- 'm[key] = v' -/
theorem wp_putG (w : World) {ops : Array Oper} {rest : List Oper} {o : Oper} {a : Act} {Q : Exit → Act → World → Prop}
    (hg : o.guard = none) (m x v : Operand) (hop : o.op = Op.mapUpdate 46 m x v)
    (b n : Nat) (f : Nat × List UInt8 → Option Int) (r : List S44) (hr : keyable r = true) (c : Int) (hc : i64ok c = true) (hn : n < maxLen)
    (hm : a.eval m = .map (some b)) (hown : MapG w b n f) (hx : a.eval x = keyV r) (hv : a.eval v = .int .i64 c)
    (hK : ∀ w', MapG w' b (n + 1) (putG f (keyT r) c) → w.grownBy w' (some b) → wpList Tryd.prog ops Q rest (a.put o.dst undef) w') :
    wpList Tryd.prog ops Q (o :: rest) a w := by
  obtain ⟨D, h1, h2⟩ := hown
  obtain ⟨kl, hkl⟩ := keyOf_row r hr
  unfold i64ok at hc
  simp only [Bool.and_eq_true, decide_eq_true_eq] at hc
  refine wpList_mapUpdate_own w hg m x v 46 hop 48 3 law48 Tryd.underlying46 _ b n D hm h1 hn (keyV r) (.int .i64 c) kl hx hv hkl (.lit (.int .i64 c)) [] (plainElem_int Tryd.underlying3 (wf_i64 hc.1 hc.2)) ?_
  intro w' h1' hgrow
  refine hK w' ⟨_, h1', ?_⟩ hgrow
  intro r' hr' kl' hkl'
  have hmap := h1.isMap
  unfold putG
  by_cases e : keyT r' = keyT r
  · rw [if_pos e]
    rw [(keyV_iff r' r).2 e, hkl] at hkl'
    injection hkl' with hkl'
    subst hkl'
    refine ⟨by rw [Maps.has_put_same hmap (law48.key hkl)]; rfl, ?_⟩
    intro v' hv'
    have hv' := Option.some.inj hv'
    rw [Maps.atKey_put_same hmap (law48.key hkl), hv']
  · rw [if_neg e]
    have hne : kl' ≠ kl := by
      intro h
      subst h
      exact e ((keyV_iff r' r).1 (law48.inj hkl' hkl))
    rw [Maps.has_put_other hne, Maps.atKey_put_other hne]
    exact h2 r' hr' kl' hkl'
end Go.Proofs.YtnllgjloimoebaaDoor.X

/- Rows of values among what is read: the list that the walks speak of, and what the bound on the bulk says of it. -/
set_option linter.unusedVariables false
set_option linter.unusedSimpArgs false
namespace Go.Proofs.YtnllgjloimoebaaDoor.X
open Go.RowKit Go.Deep Go.ChangeShapes Go.WideShapes Go.Proofs.YtnllgjloimoebaaDoorW.PrintWords

section
variable {H : Type}
theorem bulk_one (d : DataW H) : 1 ≤ Rows.uptoBulk d := by
  cases d with
  | lit l => cases l <;> simp [Rows.uptoBulk]
  | nil => simp [Rows.uptoBulk]
  | ptr d => simp [Rows.uptoBulk]
  | slice elems spare => simp [Rows.uptoBulk]
  | agg parts => simp [Rows.uptoBulk]
  | iface t d => simp [Rows.uptoBulk]
  | map entries => simp [Rows.uptoBulk]
  | held h => simp [Rows.uptoBulk]
theorem bulk_len : ∀ (l : List (DataW H)), l.length ≤ Rows.uptoBulkAll l
  | [] => by simp [Rows.uptoBulkAll]
  | x :: r => by
    have := bulk_one x
    have := bulk_len r
    simp only [Rows.uptoBulkAll, List.length_cons]; omega
/-- bulks one by one -/
theorem bulk_sum (f : Nat → Nat) (D : Nat → DataW H) : ∀ (n k : Nat), (∀ i, i < n → f (k + i) ≤ Rows.uptoBulk (D (k + i))) → ((List.range' k n).map f).sum ≤ Rows.uptoBulkAll ((List.range' k n).map D)
  | 0, k, _ => by simp
  | n + 1, k, h => by
    have h1 := h 0 (by omega)
    have h2 := bulk_sum f D n (k + 1) (fun i hi => by have := h (i + 1) (by omega); rwa [show k + (i + 1) = k + 1 + i by omega] at this)
    rw [List.range'_succ]
    simp only [List.map_cons, List.sum_cons, Rows.uptoBulkAll]
    simp only [Nat.add_zero] at h1
    omega
end

variable {H : Type} {enc : TypeId × Value → H} {w : World} {base : Nat} {sp : Nat → Bool} {held : Bool}

theorem open_value {fuel : Nat} {cs : List Value} {x : DataW H × List MemPlace} (h : DataW.trod enc Tryd.prog w base sp held fuel 44 cs = some x) :
    ∃ s : S44, cs = [.int .i64 s.f0, .int .i64 s.f1, .string s.f2] ∧ i64ok s.f0 = true ∧ i64ok s.f1 = true ∧ s.f2.size + 4 ≤ Rows.uptoBulk x.1 := by
  obtain ⟨y0, y1, y2, n, rfl, hl, h0, h1, h2⟩ := trod_struct3 Tryd.underlying44 h
  rw [show Tryd.prog.cellsOf 44 = 3 from by kernel_rfl] at hl
  simp only [cells3, cells9] at h0 h1 h2
  obtain ⟨a, e0, rfl, wa⟩ := DataW.trod_int Tryd.underlying3 h0
  obtain ⟨b, e1, rfl, wb⟩ := DataW.trod_int Tryd.underlying3 h1
  obtain ⟨s, e2, rfl, ws⟩ := DataW.trod_string Tryd.underlying9 h2
  match cs, hl with
  | [c0, c1, c2], _ =>
    simp at e0 e1 e2
    subst e0; subst e1; subst e2
    have ok : ∀ {n : Int}, (Lit.int .i64 n).wf = true → i64ok n = true := fun {n} h => h
    refine ⟨⟨a, b, s⟩, rfl, ok wa, ok wb, ?_⟩
    have e : s.data.toList.length = s.size := Array.length_toList
    simp only [Rows.uptoBulk, Rows.uptoBulkAll, e]
    omega

theorem reads_of {α : Type} {d : Kd α} {e : TypeId} {a : Addr} {len : Nat} (xs : Nat → α) (hlen : len ≤ 9223372036854775807) (hsz : Tryd.prog.cellsOf e = d.sz)
    (h : ∀ i, i < len → ∃ cs, w.cells? base (a.add (i * Tryd.prog.cellsOf e)) (Tryd.prog.cellsOf e) = some cs ∧ d.K w (xs i) cs) :
    Kd.C d w (some a) len ((List.range len).map xs) := by
  refine ⟨by simp, hlen, fun _ => ⟨a, rfl, fun j p hj => ?_⟩⟩
  have hjl : j < len := by have := (List.getElem?_eq_some_iff.1 hj).1; simpa using this
  rw [List.getElem?_map, List.getElem?_range hjl] at hj
  obtain rfl : xs j = p := by simpa using hj
  obtain ⟨cs, h1, h2⟩ := h j hjl
  refine ⟨cs, d.K_len h2, h2, fun i u hu => ?_⟩
  have hil : i < Tryd.prog.cellsOf e := by
    have := (List.getElem?_eq_some_iff.1 hu).1
    have := d.K_len h2
    omega
  have h3 := (World.cells?_some h1).2.2 i hil
  rw [Go.Deep.add_add, hsz, hu] at h3
  exact h3

theorem bulk_mem {d : DataW H} : ∀ {l : List (DataW H)}, d ∈ l → Rows.uptoBulk d ≤ Rows.uptoBulkAll l
  | x :: r, h => by
    simp only [Rows.uptoBulkAll]
    rcases List.mem_cons.1 h with rfl | h
    · omega
    · have := bulk_mem h; omega

/-- how much a row weighs at the least -/
def rowBulk (l : List S44) : Nat := (l.map fun x => x.f2.size + 4).sum
theorem rowBulk_len : ∀ l : List S44, l.length ≤ rowBulk l
  | [] => by simp [rowBulk]
  | x :: l => by
    have := rowBulk_len l
    unfold rowBulk at *
    simp only [List.map_cons, List.sum_cons, List.length_cons]; omega
theorem rowSize_bulk : ∀ l : List S44, rowSize l ≤ 25 * rowBulk l
  | [] => by simp [rowBulk, rowSize]
  | x :: l => by
    have := rowSize_bulk l
    unfold rowBulk rowSize at *
    simp only [List.map_cons, List.sum_cons]; omega

theorem open_row {fuel : Nat} {cs : List Value} {x : DataW H × List MemPlace} (h : DataW.trod enc Tryd.prog w base sp held fuel 33 cs = some x) :
    ∃ (A : Option Addr) (c : Nat) (l : List S44), cs = [.slice A l.length c] ∧ l.length ≤ c ∧ k44.C w A l.length l ∧ (∀ s ∈ l, i64ok s.f0 = true ∧ i64ok s.f1 = true) ∧ rowBulk l + 1 ≤ Rows.uptoBulk x.1 := by
  rcases open_slice Tryd.underlying33 h with ⟨rfl, rfl⟩ | ⟨a, len, cap, m, n, D, Pl, rfl, hb, hl, hm, hmm, rfl, hx⟩
  · exact ⟨none, 0, [], rfl, Nat.le_refl _, Kd.C_nil _ _, by simp, by simp [rowBulk, Rows.uptoBulk]⟩
  · have hlm : len ≤ m := by rw [hmm]; split <;> omega
    haveI : Inhabited S44 := ⟨z44⟩
    obtain ⟨xs, hxs⟩ := choose_lt (α := S44) (n := len) (p := fun i s => w.cells? base (a.add (i * Tryd.prog.cellsOf 44)) (Tryd.prog.cellsOf 44) = some [.int .i64 s.f0, .int .i64 s.f1, .string s.f2] ∧ i64ok s.f0 = true ∧ i64ok s.f1 = true ∧ s.f2.size + 4 ≤ Rows.uptoBulk (D i)) (fun i hi => by
      obtain ⟨cs', h1, h2⟩ := hx i (by omega)
      obtain ⟨s, rfl, h3⟩ := open_value h2
      exact ⟨s, h1, h3⟩)
    have hcell : Tryd.prog.cellsOf 44 = k44.sz := by kernel_rfl
    have hlen : ((List.range len).map xs).length = len := by simp
    refine ⟨some a, cap, (List.range len).map xs, by rw [hlen], by rw [hlen]; exact hl, ?_, ?_, ?_⟩
    · rw [hlen]
      exact reads_of xs (Nat.le_trans (Nat.le_trans hl hm) (by decide)) hcell (fun i hi => ⟨_, (hxs i hi).1, k44_mk w (xs i)⟩)
    · intro s hs
      obtain ⟨i, hi, rfl⟩ := List.mem_map.1 hs
      have := hxs i (List.mem_range.1 hi)
      exact ⟨this.2.1, this.2.2.1⟩
    · have h4 := bulk_sum (fun i => (xs i).f2.size + 4) D len 0 (fun i hi => by rw [Nat.zero_add]; exact (hxs i hi).2.2.2)
      rw [← List.range_eq_range'] at h4
      simp only [Rows.uptoBulk]
      unfold rowBulk
      rw [List.map_map]
      change ((List.range len).map (fun i => (xs i).f2.size + 4)).sum + 1 ≤ _
      omega

/-- what the bound gives of rows -/
def rowsFit (l : List (List S44)) : Prop := l.length ≤ 1048576 ∧ ∀ r ∈ l, (∀ s ∈ r, i64ok s.f0 = true ∧ i64ok s.f1 = true) ∧ rowBulk r ≤ 1048576

theorem open_rows {fuel : Nat} {cs : List Value} {x : DataW H × List MemPlace} (h : DataW.trod enc Tryd.prog w base sp held fuel 22 cs = some x) (hbk : Rows.uptoBulk x.1 ≤ 1048576) :
    ∃ (A : Option Addr) (c : Nat) (l : List (List S44)), cs = [.slice A l.length c] ∧ l.length ≤ c ∧ Kd.C (Kd.slice 44 k44) w A l.length l ∧ rowsFit l := by
  rcases open_slice Tryd.underlying22 h with ⟨rfl, rfl⟩ | ⟨a, len, cap, m, n, D, Pl, rfl, hb, hl, hm, hmm, rfl, hx⟩
  · exact ⟨none, 0, [], rfl, Nat.le_refl _, Kd.C_nil _ _, by simp, by simp⟩
  · have hlm : len ≤ m := by rw [hmm]; split <;> omega
    obtain ⟨xs, hxs⟩ := choose_lt (α := List S44) (n := len) (p := fun i r => (∃ A c, w.cells? base (a.add (i * Tryd.prog.cellsOf 33)) (Tryd.prog.cellsOf 33) = some [.slice A r.length c] ∧ r.length ≤ c ∧ k44.C w A r.length r) ∧ (∀ s ∈ r, i64ok s.f0 = true ∧ i64ok s.f1 = true) ∧ rowBulk r + 1 ≤ Rows.uptoBulk (D i)) (fun i hi => by
      obtain ⟨cs', h1, h2⟩ := hx i (by omega)
      obtain ⟨A, c, r, rfl, h3, h4, h5⟩ := open_row h2
      exact ⟨r, ⟨A, c, h1, h3, h4⟩, h5⟩)
    have hcell : Tryd.prog.cellsOf 33 = (Kd.slice 44 k44).sz := by kernel_rfl
    have hlen : ((List.range len).map xs).length = len := by simp
    simp only [Rows.uptoBulk] at hbk
    have hbl := bulk_len ((List.range len).map D)
    rw [List.length_map, List.length_range] at hbl
    refine ⟨some a, cap, (List.range len).map xs, by rw [hlen], by rw [hlen]; exact hl, ?_, by rw [hlen]; omega, ?_⟩
    · rw [hlen]
      refine reads_of (base := base) xs (Nat.le_trans (Nat.le_trans hl hm) (by decide)) hcell (fun i hi => ?_)
      obtain ⟨A, c, h1, h2, h3⟩ := (hxs i hi).1
      exact ⟨_, h1, A, c, rfl, h2, h3⟩
    · intro r hr
      obtain ⟨i, hi, rfl⟩ := List.mem_map.1 hr
      have hi' := List.mem_range.1 hi
      have := hxs i hi'
      have h6 := bulk_mem (List.mem_map_of_mem (f := D) hi)
      exact ⟨this.2.1, by omega⟩
theorem rowsFit_ok {l : List (List S44)} (h : rowsFit l) : (l.all keyable && decide (l.length ≤ 1099511627776)) = true := by
  rw [Bool.and_eq_true, decide_eq_true_eq, List.all_eq_true]
  refine ⟨fun r hr => ?_, by have := h.1; omega⟩
  obtain ⟨h1, h2⟩ := h.2 r hr
  have h3 := rowSize_bulk r
  have h4 := rowBulk_len r
  unfold keyable rowOK
  rw [Bool.and_eq_true, Bool.and_eq_true, List.all_eq_true, decide_eq_true_eq, decide_eq_true_eq]
  exact ⟨⟨fun s hs => by rw [Bool.and_eq_true]; exact h1 s hs, by omega⟩, by omega⟩
end Go.Proofs.YtnllgjloimoebaaDoor.X

/- A world that holds the three tables of the rows' list, for the rows' witness. -/
set_option linter.unusedVariables false
namespace Go.Proofs.YtnllgjloimoebaaDoor.X
open Go.ChangeShapes Go.WideShapes Go.ChangeAt Go.RowKit

def cellsOfLaid : DataW Unit → Array Value
  | .agg ps => (ps.map fun | .lit (.int k n) => Value.int k n | _ => undef).toArray
  | _ => #[]
def layIn (c : Array Value) : Obj → Obj
  | .cells _ t frozen => .cells c t frozen
  | o => o
abbrev laidList : List (String × DataW Unit) := [("math/bits.deBruijn32tab", Rows.laid_math_bits_deBruijn32tab), ("math/bits.deBruijn64tab", Rows.laid_math_bits_deBruijn64tab), ("internal/strconv.uint64pow10", Rows.laid_internal_strconv_uint64pow10)]
/-- A WORLD FOR THE WITNESS: the settled one, the tables holding what their initialisers lay. -/
noncomputable def laidWorld (os : Os) : World :=
  { World.holding Tryd.prog os ⟨#[], #[], []⟩ with heap := (((World.holding Tryd.prog os ⟨#[], #[], []⟩).heap.modify 2 (layIn (cellsOfLaid Rows.laid_math_bits_deBruijn32tab))).modify 3 (layIn (cellsOfLaid Rows.laid_math_bits_deBruijn64tab))).modify 1 (layIn (cellsOfLaid Rows.laid_internal_strconv_uint64pow10)) }
theorem laid_met1 (os : Os) : laidMet Tryd.prog laidList ((laidWorld os).forCall (fun _ _ => 0) ⟨#[], #[.slice none 0 0], []⟩).memory :=
  laidMet_of_run3 8 (by kernel_rfl) (by kernel_rfl) (by kernel_rfl)
theorem laid_met2 (os : Os) : laidMet Tryd.prog laidList ((laidWorld os).forCall (fun _ _ => 0) ⟨#[], #[.slice none 0 0, .slice none 0 0], []⟩).memory :=
  laidMet_of_run3 8 (by kernel_rfl) (by kernel_rfl) (by kernel_rfl)
theorem gTab : Tryd.prog.globalNamed "internal/strconv.uint64pow10" = some 1 := by kernel_rfl
theorem gTabType : (Tryd.prog.globals[1]?).map (·.type) = some 139 := by kernel_rfl
theorem cells139 : Tryd.prog.cellsOf 139 = 20 := by kernel_rfl
theorem cells101 : Tryd.prog.cellsOf 101 = 1 := by kernel_rfl
theorem own : ownKnob Tryd.prog.godebug = none := by kernel_rfl
/-- WHAT THE ROW's LIST GIVES: the table of powers of ten. -/
theorem tab_of_laid {W : World} (h : laidMetH Tryd.prog laidList W) : Tab W := by
  have h2 := h.filter (fun x => x.1 == "internal/strconv.uint64pow10")
  rw [show laidList.filter (fun x => x.1 == "internal/strconv.uint64pow10") = [("internal/strconv.uint64pow10", Lib.tabData .u64 Lib.pow10Tab)] from by kernel_rfl] at h2
  exact Lib.tabIs_of_head (rest := []) gTab gTabType Tryd.underlying139 Tryd.underlying101 cells101 cells139 h2
end Go.Proofs.YtnllgjloimoebaaDoor.X

/- What is opened of further kinds of arguments: one row, whole numbers; what came in, told as what may be shared. -/
set_option linter.unusedVariables false
set_option linter.unusedSimpArgs false
namespace Go.Proofs.YtnllgjloimoebaaDoor.X
open Go.RowKit Go.Deep Go.ChangeShapes Go.WideShapes Go.Proofs.YtnllgjloimoebaaDoorW.PrintWords

section
variable {H : Type} {enc : TypeId × Value → H} {w : World} {base : Nat} {sp : Nat → Bool} {held : Bool}
theorem open_rowB {fuel : Nat} {cs : List Value} {x : DataW H × List MemPlace} (h : DataW.trod enc Tryd.prog w base sp held fuel 33 cs = some x) (hbk : Rows.uptoBulk x.1 ≤ 1048576) :
    ∃ (A : Option Addr) (c : Nat) (l : List S44), cs = [.slice A l.length c] ∧ l.length ≤ c ∧ k44.C w A l.length l ∧ l.length ≤ 1048576 := by
  obtain ⟨A, c, l, h1, h2, h3, _, h5⟩ := open_row h
  exact ⟨A, c, l, h1, h2, h3, by have := rowBulk_len l; omega⟩
theorem open_int {fuel : Nat} {n : Int} {x : DataW H × List MemPlace} (h : DataW.trod enc Tryd.prog w base sp held fuel 3 (Value.int .i64 n).cells.toList = some x) : i64ok n = true := by
  obtain ⟨a, e, _, wa⟩ := DataW.trod_int Tryd.underlying3 h
  simp [Value.cells] at e
  subst e
  exact wa
end
theorem rowsFit_all {l : List (List S44)} (h : rowsFit l) : l.all keyable = true ∧ l.length ≤ 1048576 := by
  have h1 := rowsFit_ok h
  rw [Bool.and_eq_true] at h1
  exact ⟨h1.1, h.1⟩

/-- the world W with the blocks of another -/
theorem below_heap {W W' : World} (hW : ∀ k, True → k < W.heap.size → W'.heap[k]? = W.heap[k]?) : Below W.heap.size W { W with heap := W'.heap } := by
  refine ⟨rfl, rfl, rfl, ?_, fun k hk => hW k trivial hk⟩
  show W.heap.size ≤ W'.heap.size
  by_cases h0 : W.heap.size = 0
  · omega
  · have h1 := heap_lt (hW (W.heap.size - 1) trivial (by omega)) (by omega)
    omega
theorem share_row {w : World} {A : Option Addr} {n : Nat} {l : List S44} (h : Kd.C k44 w A n l) : Kd.F k44 w (fun _ => True) A n l := by
  intro W' hW
  have h1 := Kd.C_below h (below_heap hW)
  exact h1
theorem share_rows {w : World} {A : Option Addr} {n : Nat} {l : List (List S44)} (h : Kd.C (Kd.slice 44 k44) w A n l) : Kd.F (Kd.slice 44 k44) w (fun _ => True) A n l := by
  intro W' hW
  have h1 := Kd.C_below h (below_heap hW)
  exact h1
end Go.Proofs.YtnllgjloimoebaaDoor.X

/- What is opened of JoinerAlone's arguments: pairs of whole numbers; two lists in one array. -/
set_option linter.unusedVariables false
set_option linter.unusedSimpArgs false
namespace Go.Proofs.YtnllgjloimoebaaDoor.X
open Go.RowKit Go.Deep Go.ChangeShapes Go.WideShapes Go.Proofs.YtnllgjloimoebaaDoorW.PrintWords

section
variable {H : Type} {enc : TypeId × Value → H} {w : World} {base : Nat} {sp : Nat → Bool} {held : Bool}
theorem c40 : Tryd.prog.cellsOf 40 = 2 := by kernel_rfl
theorem c3 : Tryd.prog.cellsOf 3 = 1 := by kernel_rfl
theorem c37 : Tryd.prog.cellsOf 37 = 2 := by kernel_rfl
theorem c22 : Tryd.prog.cellsOf 22 = 1 := by kernel_rfl
set_option maxRecDepth 100000 in
theorem open_pair {fuel : Nat} {cs : List Value} {x : DataW H × List MemPlace} (h : DataW.trod enc Tryd.prog w base sp held fuel 40 cs = some x) :
    ∃ s : S40, cs = [.int .i64 s.f0, .int .i64 s.f1] ∧ i64ok s.f0 = true := by
  obtain ⟨xs, m, rfl, rfl, hl, hn, hx⟩ := DataW.trod_array Tryd.underlying40 h
  rw [c40] at hl
  have h0 := hx 0 (by omega)
  have h1 := hx 1 (by omega)
  rw [c3] at h0 h1
  match xs, hn with
  | [y0, y1], _ =>
    simp only [List.getElem?_cons_zero, List.getElem?_cons_succ] at h0 h1
    obtain ⟨a, e0, _, wa⟩ := DataW.trod_int Tryd.underlying3 h0
    obtain ⟨b, e1, _, wb⟩ := DataW.trod_int Tryd.underlying3 h1
    match cs, hl with
    | [c0, c1], _ =>
      simp at e0 e1
      subst e0; subst e1
      exact ⟨⟨a, b⟩, rfl, wa⟩
set_option maxRecDepth 100000 in
theorem open_pairs {fuel : Nat} {cs : List Value} {x : DataW H × List MemPlace} (h : DataW.trod enc Tryd.prog w base sp held fuel 34 cs = some x) (hbk : Rows.uptoBulk x.1 ≤ 1048576) :
    ∃ (A : Option Addr) (c : Nat) (l : List S40), cs = [.slice A l.length c] ∧ l.length ≤ c ∧ k40.C w A l.length l ∧ ∀ z ∈ l, i64ok z.f0 = true := by
  rcases open_slice Tryd.underlying34 h with ⟨rfl, rfl⟩ | ⟨a, len, cap, m, n, D, Pl, rfl, hb, hl, hm, hmm, rfl, hx⟩
  · exact ⟨none, 0, [], rfl, Nat.le_refl _, Kd.C_nil _ _, by simp⟩
  · have hlm : len ≤ m := by rw [hmm]; split <;> omega
    haveI : Inhabited S40 := ⟨z40⟩
    obtain ⟨xs, hxs⟩ := choose_lt (α := S40) (n := len) (p := fun i s => w.cells? base (a.add (i * Tryd.prog.cellsOf 40)) (Tryd.prog.cellsOf 40) = some [.int .i64 s.f0, .int .i64 s.f1] ∧ i64ok s.f0 = true) (fun i hi => by
      obtain ⟨cs', h1, h2⟩ := hx i (by omega)
      obtain ⟨s, rfl, h3⟩ := open_pair h2
      exact ⟨s, h1, h3⟩)
    have hcell : Tryd.prog.cellsOf 40 = k40.sz := by kernel_rfl
    have hlen : ((List.range len).map xs).length = len := by simp
    refine ⟨some a, cap, (List.range len).map xs, by rw [hlen], by rw [hlen]; exact hl, ?_, ?_⟩
    · rw [hlen]
      exact reads_of xs (Nat.le_trans (Nat.le_trans hl hm) (by decide)) hcell (fun i hi => ⟨_, (hxs i hi).1, k40_mk w (xs i)⟩)
    · intro s hs
      obtain ⟨i, hi, rfl⟩ := List.mem_map.1 hs
      exact (hxs i (List.mem_range.1 hi)).2
set_option maxRecDepth 100000 in
theorem open_two {fuel : Nat} {m : Array Value} {x : DataW H × List MemPlace} (h : DataW.trod enc Tryd.prog w base sp held fuel 37 (Value.agg m).cells.toList = some x) (hbk : Rows.uptoBulk x.1 ≤ 1048576) :
    ∃ (A0 : Option Addr) (c0 : Nat) (l0 : List (List S44)) (A1 : Option Addr) (c1 : Nat) (l1 : List (List S44)), m = #[.slice A0 l0.length c0, .slice A1 l1.length c1] ∧ l0.length ≤ c0 ∧ Kd.C (Kd.slice 44 k44) w A0 l0.length l0 ∧ rowsFit l0 ∧ l1.length ≤ c1 ∧ Kd.C (Kd.slice 44 k44) w A1 l1.length l1 ∧ rowsFit l1 := by
  obtain ⟨xs, k, rfl, rfl, hl, hn, hx⟩ := DataW.trod_array Tryd.underlying37 h
  rw [c37] at hl
  have h0 := hx 0 (by omega)
  have h1 := hx 1 (by omega)
  rw [c22] at h0 h1
  match xs, hn with
  | [y0, y1], _ =>
    simp only [List.getElem?_cons_zero, List.getElem?_cons_succ] at h0 h1
    simp only [Rows.uptoBulk, Rows.uptoBulkAll, List.map_cons, List.map_nil] at hbk
    obtain ⟨A0, c0, l0, e0, p0, q0, r0⟩ := open_rows h0 (by omega)
    obtain ⟨A1, c1, l1, e1, p1, q1, r1⟩ := open_rows h1 (by omega)
    refine ⟨A0, c0, l0, A1, c1, l1, ?_, p0, q0, r0, p1, q1, r1⟩
    have hm : m.toList.length = 2 := hl
    obtain ⟨cs⟩ := m
    change (cs.drop (0 * 1)).take 1 = _ at e0
    change (cs.drop (1 * 1)).take 1 = _ at e1
    change cs.length = 2 at hm
    match cs, hm with
    | [a, b], _ =>
      simp at e0 e1
      rw [e0, e1]
end
set_option maxRecDepth 100000 in
theorem okWide_two {w : World} {base : Nat} {v : Value} (h : Value.okWide Tryd.prog w .any base 37 v) : ∃ m, v = .agg m := by
  unfold Value.okWide at h
  rw [Tryd.underlying37] at h
  obtain ⟨cs, h1, _⟩ := h
  exact ⟨cs, h1⟩
end Go.Proofs.YtnllgjloimoebaaDoor.X

/- A map[string][]int that the call makes, read as a function from texts to lists of numbers. -/
set_option linter.unusedVariables false
set_option linter.unusedSimpArgs false
namespace Go.Proofs.YtnllgjloimoebaaDoor.X
open Go.RowKit Go.Maps Go.ChangeShapes Go.Proofs.YtnllgjloimoebaaDoorW.PrintWords

theorem law9 : Keyed Tryd.prog 9 := string_keyed Tryd.underlying9
theorem zero30 (w : World) : (zeroValue 30).run Tryd.prog w = .ok (.slice none 0 0) w := by kernel_rfl
def datumS (zs : List Int) : DataW Unit := if zs = [] then .nil else .slice (lits .i64 zs) []
theorem lits_inj : ∀ {a b : List Int}, (lits .i64 a : List (DataW Unit)) = lits .i64 b → a = b
  | [], [], _ => rfl
  | [], _ :: _, h => by simp [lits] at h
  | _ :: _, [], h => by simp [lits] at h
  | x :: a, y :: b, h => by
    unfold lits at h
    rw [List.map_cons, List.map_cons] at h
    injection h with h1 h2
    rw [lit_inj h1, lits_inj h2]
theorem datumS_of {w : World} {base : Nat} {v : Value} {zs ys : List Int} (h : w.ownsInts base 3 .i64 v zs) (e : datumS ys = rowDatum .i64 v zs) : zs = ys := by
  unfold datumS at e
  split at e
  · rename_i hy
    rcases h.datum (H := Unit) with ⟨_, hz⟩ | hd
    · rw [hz, hy]
    · rw [hd] at e; cases e
  · rename_i hy
    rcases h.datum (H := Unit) with ⟨hd, _⟩ | hd
    · rw [hd] at e; cases e
    · rw [hd] at e
      injection e with e _
      exact (lits_inj e).symm

theorem ints_R {w : World} {base : Nat} {ok : Nat → Prop} {v : Value} {zs : List Int} (h : w.ownsInts base 3 .i64 v zs) (hok : ∀ k, v.ownBlock = some k → ok k) : Kd.R (Kd.int .i64) 3 w base ok v zs := by
  refine ⟨hok, zs.map (Value.int .i64), h.1, ⟨by rw [List.length_map]; exact (Nat.mul_one _).symm, fun j p hj => ?_⟩⟩
  have hjl := (List.getElem?_eq_some_iff.1 hj).1
  show ((zs.map (Value.int .i64)).drop (j * 1)).take 1 = [Value.int .i64 p]
  rw [Nat.mul_one, List.drop_eq_getElem_cons (by simpa using hjl)]
  simp [(List.getElem?_eq_some_iff.1 hj).2]
theorem R_ints {w : World} {base : Nat} {ok : Nat → Prop} {v : Value} {zs : List Int} (h : Kd.R (Kd.int .i64) 3 w base ok v zs) (hz : ∀ z ∈ zs, i64ok z = true) : w.ownsInts base 3 .i64 v zs := by
  obtain ⟨_, inner, ho, hl, hr⟩ := h
  have e : inner = zs.map (Value.int .i64) := by
    apply List.ext_getElem?
    intro j
    rw [List.getElem?_map]
    have hl' : inner.length = zs.length := by rw [hl]; exact Nat.mul_one _
    by_cases hj : j < zs.length
    · have h1 : (inner.drop (j * 1)).take 1 = [Value.int .i64 zs[j]] := hr j zs[j] (List.getElem?_eq_getElem hj)
      rw [Nat.mul_one, List.drop_eq_getElem_cons (by omega)] at h1
      rw [List.getElem?_eq_getElem hj, List.getElem?_eq_getElem (by omega)]
      have h2 : [inner[j]] = [Value.int .i64 zs[j]] := h1
      injection h2 with h2
      rw [h2]; rfl
    · rw [List.getElem?_eq_none (by omega), List.getElem?_eq_none (by omega)]; rfl
  rw [e] at ho
  exact ⟨ho, fun z hzz => hz z hzz⟩

/-- block b is a map of at most n entries whose rows lie from 'base' on: what f says stands in it -/
def MapS (w : World) (base b n : Nat) (f : List UInt8 → List Int) : Prop :=
  ∃ D : DataW Unit, w.ownsGroups Tryd.prog 9 base 3 .i64 b n D ∧ ∀ t, D.atKey (.string t) .nil = datumS (f t)
theorem MapS_made (w : World) : MapS (w.alloc (.map #[] 0)) (w.heap.size + 1) w.heap.size 0 (fun _ => []) :=
  ⟨.map [], World.ownsGroups_made w _ _ _ _, fun t => rfl⟩
theorem MapS_lt {w : World} {base b n : Nat} {f : List UInt8 → List Int} (h : MapS w base b n f) : b < w.heap.size := by
  obtain ⟨D, ⟨es, clock, hb, _⟩, _⟩ := h
  exact (Array.getElem?_eq_some_iff.1 hb).1
theorem MapS_mono {w : World} {base b n n' : Nat} {f : List UInt8 → List Int} (h : MapS w base b n f) (hn : n ≤ n') : MapS w base b n' f := by
  obtain ⟨D, ⟨es, clock, h1, h2, h3, h4, h5, h6, h7⟩, hf⟩ := h
  exact ⟨D, ⟨es, clock, h1, h2, Nat.le_trans h3 hn, h4, h5, fun x hx zs ho => Nat.le_trans (h6 x hx zs ho) hn, h7⟩, hf⟩
/-- another row is turned, of another type than the map's rows -/
theorem MapS_kept {w w' : World} {base b n : Nat} {f : List UInt8 → List Int} (h : MapS w base b n f) {row : Option Nat} (hg : w.grownBy w' row) (hb : some b ≠ row)
    (ht : ∀ k, row = some k → ∃ cells t, t ≠ 3 ∧ w.heap[k]? = some (.cells cells t (0, 0))) : MapS w' base b n f := by
  obtain ⟨D, h1, h2⟩ := h
  refine ⟨D, h1.kept hg hb (fun es clock hb x hx => ?_), h2⟩
  obtain ⟨es', clock', hb', F, _⟩ := h1
  rw [hb] at hb'
  injection hb' with hb'
  injection hb' with e1 e2
  subst e1
  obtain ⟨y, hy⟩ := F.reads x hx
  obtain ⟨z, hz, _⟩ := Go.WideElems.rd_val hy
  obtain ⟨zs, ho, _⟩ := rowElem_inv hz
  rcases ho.1.2 with ⟨hv, _⟩ | ⟨g, cap, cur, hv, _, hh, _⟩
  · left; rw [hv]; rfl
  · right
    rw [hv]
    intro e
    obtain ⟨cells, t, ht1, ht2⟩ := ht g e.symm
    rw [hh] at ht2
    injection ht2 with ht2
    injection ht2 with _ ht2
    exact ht1 ht2.symm
theorem MapS_alloc {w : World} {base b n : Nat} {f : List UInt8 → List Int} (h : MapS w base b n f) (o : Obj) : MapS (w.alloc o) base b n f :=
  MapS_kept h (World.grownBy_alloc w o none) (by simp) (fun k hk => by cases hk)
theorem MapS_below {w w' : World} {base b n : Nat} {f : List UInt8 → List Int} (h : MapS w base b n f) (hb : Below w.heap.size w w') : MapS w' base b n f :=
  MapS_kept (row := none) h ⟨hb.os, hb.tape, hb.output, hb.size, fun i hi _ => hb.block i hi⟩ (by simp) (fun k hk => by cases hk)

/-- 'm[t]' -/
theorem wp_lookS (w : World) {ops : Array Oper} {rest : List Oper} {o : Oper} {a : Act} {Q : Exit → Act → World → Prop}
    (hg : o.guard = none) (m x : Operand) (hop : o.op = Op.lookup 57 m x false) (base b n : Nat) (f : List UInt8 → List Int) (s : ByteArray) (hs : s.size ≤ maxLen) (hn : n < maxLen)
    (hm : a.eval m = .map (some b)) (hown : MapS w base b n f) (hx : a.eval x = .string s)
    (hK : ∀ v, w.ownsInts base 3 .i64 v (f s.data.toList) → (f s.data.toList).length ≤ n →
      (∀ (w1 : World) (v' : Value) (zs' : List Int), zs' ≠ [] → w.grownBy w1 v.ownBlock → w1.ownsInts base 3 .i64 v' zs' → zs'.length ≤ n + 1 → (v'.ownBlock = v.ownBlock ∨ ∃ g, v'.ownBlock = some g ∧ w.heap.size ≤ g) →
        ∃ w2, (Instr.mapUpdate 57 (.map (some b)) (.string s) v').run Tryd.prog w1 = .ok () w2 ∧ MapS w2 base b (n + 1) (fun t => if t = s.data.toList then zs' else f t) ∧ w1.grownBy w2 (some b)) →
      wpList Tryd.prog ops Q rest (a.put o.dst v) w) : wpList Tryd.prog ops Q (o :: rest) a w := by
  obtain ⟨D, h1, h2⟩ := hown
  have hkey := Go.WideMaps.keyOf_string_mk Tryd.underlying9 hs
  refine wpList_lookup_groups w hg m x 57 hop 9 30 3 .i64 law9 Tryd.underlying57 (zero30 w) base b n D hm h1 hn (.string s) _ hx hkey ?_
  intro v zs hat hoi hzl hback
  rw [h2] at hat
  have e := datumS_of hoi hat
  subst e
  refine hK v hoi hzl ?_
  intro w1 v' zs' hne hgr hown' hl' hloc
  obtain ⟨w2, hrun, r1, r2⟩ := hback w1 v' zs' hgr hown' hl' hloc
  refine ⟨w2, hrun, ⟨_, r1, fun t => ?_⟩, r2⟩
  have hmap : IsMap D := by
    obtain ⟨es, clock, _, _, _, hD, _⟩ := h1
    exact ⟨_, hD⟩
  show _ = datumS (if t = s.data.toList then zs' else f t)
  by_cases e : t = s.data.toList
  · rw [if_pos e, e, Maps.atKey_put_same hmap (law9.key hkey), hown'.datum_pos hne]
    unfold datumS
    rw [if_neg hne]
  · rw [if_neg e, Maps.atKey_put_other (fun h => e (by injection h))]
    exact h2 t
/-- 'm[t] = v', by what the look-up gave -/
theorem wp_putS (w : World) {ops : Array Oper} {rest : List Oper} {o : Oper} {a : Act} {Q : Exit → Act → World → Prop}
    (hg : o.guard = none) (m x v : Operand) (hop : o.op = Op.mapUpdate 57 m x v) (b : Nat) (s : ByteArray) (v' : Value) (P : World → Prop)
    (hm : a.eval m = .map (some b)) (hx : a.eval x = .string s) (hv : a.eval v = v')
    (hrun : ∃ w2, (Instr.mapUpdate 57 (.map (some b)) (.string s) v').run Tryd.prog w = .ok () w2 ∧ P w2 ∧ w.grownBy w2 (some b))
    (hK : ∀ w2, P w2 → w.grownBy w2 (some b) → wpList Tryd.prog ops Q rest (a.put o.dst undef) w2) : wpList Tryd.prog ops Q (o :: rest) a w := by
  refine wpList_plain hg fun K' hK' => ?_
  obtain ⟨w2, hrun, r1, r2⟩ := hrun
  unfold Oper.wp
  simp [execOp, hop, hm, hx, hv, hrun, Result.andThen]
  exact hK' _ _ (hK w2 r1 r2)
end Go.Proofs.YtnllgjloimoebaaDoor.X

/- Words of this session's own for the printed texts: a call through a function value that is a named function. -/
namespace Go.Proofs.YtnllgjloimoebaaDoor.X
open Go.RowKit Go.Proofs.YtnllgjloimoebaaDoorW.PrintWords Go.Proofs.YtnllgjloimoebaaDoorW.PrintLast
section
variable {P : Program} {ops : Array Oper} {Q : Exit → Act → World → Prop}
theorem goesVL_ {rest : List Oper} {oi : Oper} {a : Act} {w : World} (N : Option Tmp) (hd : oi.dst = N) (hg : oi.guard = none) {f : FuncId} {fn : Func} {x : Operand} {xs : Array Operand} {ts : Array TypeId} (hf : P.funcs[f]? = some fn) (hname : (fn.name == "runtime.NumGoroutine") = false) (hb : fn.body.isSome = true) (args : Array Value)
    (hop : oi.op = .call { callee := .value x, args := xs, argTypes := ts }) (hargs : xs.map a.eval = args)
    (h : Calls P f args w fun e w' => ∃ v, e = .returned v ∧ wpList P ops Q rest (a.put N v) w') (hx : a.eval x = .func (.func f) #[] #[] := by rfl) : wpList P ops Q (oi :: rest) a w := by
  refine wpList_plain hg fun K hK => ?_
  have he := enters_ hf hname hb args w
  have hrun : (execOp a.eval oi).run P w = .ok (.enter f args) w := by
    unfold execOp
    simp [hop, resolve, Deferred.ofValue, invoke, hargs, hx, he]
  unfold Oper.wp
  rw [hrun, Oper.upon_enter]
  refine h.mono fun e w'' hh => ?_
  obtain ⟨v, rfl, hk⟩ := hh
  subst hd
  exact hK _ _ hk
end
end Go.Proofs.YtnllgjloimoebaaDoor.X

/- joiner.whole: no value of the row is a null (slices.ContainsFunc, slices.IndexFunc at this function). -/
set_option linter.unusedVariables false
set_option linter.unusedSimpArgs false
namespace Go.Proofs.YtnllgjloimoebaaDoor.X
open Go.RowKit Go.Proofs.YtnllgjloimoebaaDoorW.PrintWords Go.Proofs.YtnllgjloimoebaaDoorW.PrintLast Go.Proofs.YtnllgjloimoebaaDoorW.PrintMore

def nullV (x : S44) : Bool := x.f0 == 0
def joiner_whole.f (l : List S44) : Option Bool := if l.length ≤ 1099511627776 then some (l.all fun x => !nullV x) else none

set_option maxHeartbeats 2000000 in
set_option maxRecDepth 100000 in
theorem whole1_calls (x : S44) (w : World) :
    Calls Tryd.prog 56 #[.agg #[.int .i64 x.f0, .int .i64 x.f1, .string x.f2]] w fun e w' => e = .returned (.bool (nullV x)) ∧ Below w.heap.size w w' := by
  go_enter Tryd.func56, Tryd.ntmps56
  go_wp2
  go_ret
  refine ⟨rfl, ?_⟩
  repeat (first | exact Below.refl _ _ | apply below_alloc | apply pw_below_drewN | apply below_drew1)

/-- where the first null stands: what IndexFunc hands back -/
def nullAt : List S44 → Nat → Int
  | [], _ => -1
  | x :: l, i => if nullV x then i else nullAt l (i + 1)
theorem nullAt_cons (x : S44) (l : List S44) (i : Nat) : nullAt (x :: l) i = if nullV x then (i : Int) else nullAt l (i + 1) := rfl
theorem nullAt_all : ∀ (l : List S44) (i : Nat), decide (nullAt l i ≥ 0) = !(l.all fun x => !nullV x)
  | [], i => by simp [nullAt]
  | x :: l, i => by
    unfold nullAt
    cases h : nullV x
    · simp [h, nullAt_all l (i + 1)]
    · simp [h]

set_option maxHeartbeats 4000000 in
set_option maxRecDepth 100000 in
theorem indexNull_calls (A0 : Option Addr) (c0 : Nat) (l0 : List S44) (w : World) (hr0 : Kd.C k44 w A0 l0.length l0) (hlen : l0.length ≤ 1099511627776) :
    Calls Tryd.prog 77 #[.slice A0 l0.length c0, .func (.func 56) #[] #[]] w fun e w' => e = .returned (.int .i64 (nullAt l0 0)) ∧ Below w.heap.size w w' := by
  have HR0 := Aside0.mk hr0
  clear hr0
  go_enter Tryd.func77, Tryd.ntmps77
  go_wp2
  go_loopg [8] l0.length (fun n v8 wr => ∃ k : Nat, v8 = .int .i64 k ∧ Aside0 (k + n = l0.length) ∧ Aside0 (nullAt l0 0 = nullAt (l0.drop k) k) ∧ Aside0 (Below w.heap.size w wr))
  case atStart => exact ⟨0, rfl, ⟨Nat.zero_add _⟩, ⟨rfl⟩, ⟨Below.refl _ _⟩⟩
  case round =>
    obtain ⟨k, rfl, HN, HA, HB⟩ := hrel
    have hn := HN.out
    by_cases hlt : k < l0.length
    · obtain ⟨ad, e, hx0, hx1, hx2⟩ := at_T44 HR0.out k (by omega) (by omega)
      cases e
      have hh : (rd_T44 l0 (k : Int)) = l0.getD k z44 := by unfold rd_T44; rw [Int.toNat_natCast]
      obtain ⟨x, hx⟩ : ∃ x, x = l0.getD k z44 := ⟨_, rfl⟩
      rw [hh, ← hx] at hx0 hx1 hx2
      replace hx0 := (HB.out.cell (World.block_lt_of_cell? w _ hx0)).trans hx0
      replace hx1 := (HB.out.cell (World.block_lt_of_cell? w _ hx1)).trans hx1
      replace hx2 := (HB.out.cell (World.block_lt_of_cell? w _ hx2)).trans hx2
      rw [Int.toNat_natCast] at hx0 hx1 hx2
      have hd : l0.drop k = x :: l0.drop (k + 1) := by rw [hx, List.drop_eq_getElem_cons hlt, List.getD_eq_getElem?_getD, List.getElem?_eq_getElem hlt]; rfl
      have HD := Aside0.mk hd
      clear hd hh hx
      have hkl : (k : Int) < (l0.length : Int) := by omega
      have hl2 : (l0.length : Int) ≤ 1099511627776 := by omega
      clear hn
      cases hnv : nullV x with
      | false =>
        go_wp2_with (first | ((with_reducible refine gate_dst (N := 16) rfl ?_); refine goesVL_ (some 16) rfl rfl Tryd.func56 (by kernel_rfl) rfl #[.agg #[.int .i64 x.f0, .int .i64 x.f1, .string x.f2]] rfl (by (try simp only [List.map_toArray, List.map_cons, List.map_nil]); first | done | rfl) ?_; (with_reducible refine (whole1_calls x _).mono ?_); rintro e w2 ⟨rfl, hb⟩; refine ⟨_, rfl, ?_⟩; rw [hnv]; have n0_ := Aside0.mk (below_step HB.out hb); clear HB hx0 hx1 hx2 hb; have HB := n0_; clear n0_))
        go_roundg (l0.length - (k + 1))
        case measure => have := HN.out; omega
        case rel => exact ⟨k + 1, (by first | rfl | (simp; done) | (simp [*]; done)), ⟨by have := HN.out; omega⟩, ⟨by rw [HA.out, HD.out, nullAt_cons, hnv]; rfl⟩, HB⟩
      | true =>
        go_wp2_with (first | ((with_reducible refine gate_dst (N := 16) rfl ?_); refine goesVL_ (some 16) rfl rfl Tryd.func56 (by kernel_rfl) rfl #[.agg #[.int .i64 x.f0, .int .i64 x.f1, .string x.f2]] rfl (by (try simp only [List.map_toArray, List.map_cons, List.map_nil]); first | done | rfl) ?_; (with_reducible refine (whole1_calls x _).mono ?_); rintro e w2 ⟨rfl, hb⟩; refine ⟨_, rfl, ?_⟩; rw [hnv]; have n0_ := Aside0.mk (below_step HB.out hb); clear HB hx0 hx1 hx2 hb; have HB := n0_; clear n0_))
        go_ret
        exact ⟨by rw [HA.out, HD.out, nullAt_cons, hnv]; rfl, HB.out⟩
    · have hkk : k = l0.length := by omega
      have hkl : ¬ ((k : Int) < (l0.length : Int)) := by omega
      have hkb : decide ((k : Int) < (l0.length : Int)) = false := decide_eq_false hkl
      clear hkl
      go_wp2
      go_ret
      exact ⟨by rw [HA.out, hkk, List.drop_length]; rfl, HB.out⟩

set_option maxHeartbeats 2000000 in
set_option maxRecDepth 100000 in
theorem containsNull_calls (A0 : Option Addr) (c0 : Nat) (l0 : List S44) (w : World) (hr0 : Kd.C k44 w A0 l0.length l0) (hlen : l0.length ≤ 1099511627776) :
    Calls Tryd.prog 55 #[.slice A0 l0.length c0, .func (.func 56) #[] #[]] w fun e w' => e = .returned (.bool (decide (nullAt l0 0 ≥ 0))) ∧ Below w.heap.size w w' := by
  have HR0 := Aside0.mk hr0
  clear hr0
  go_enter Tryd.func55, Tryd.ntmps55
  go_wp2_with (go_at_call 77; refine (indexNull_calls A0 c0 l0 _ HR0.out hlen).mono ?_; rintro e w2 ⟨rfl, hb⟩)
  go_ret
  exact ⟨rfl, hb⟩

set_option maxHeartbeats 2000000 in
set_option maxRecDepth 100000 in
theorem joiner_whole.calls (A0 : Option Addr) (c0 : Nat) (l0 : List S44) (r : Bool) (w : World) (hr0 : Kd.C k44 w A0 l0.length l0) (hc0 : l0.length ≤ c0) (h : joiner_whole.f l0 = some r) :
    Calls Tryd.prog 38 #[.slice A0 l0.length c0] w fun e w' => e = .returned (.bool r) ∧ Below w.heap.size w w' := by
  have HR0 := Aside0.mk hr0
  clear hr0
  unfold joiner_whole.f at h
  split at h
  case isFalse => cases h
  rename_i hlen
  have h := Option.some.inj h
  have HRES := Aside0.mk h
  clear h
  have HD : Aside0 (decide (nullAt l0 0 ≥ 0) = !r) := ⟨by rw [nullAt_all, HRES.out]⟩
  go_enter Tryd.func38, Tryd.ntmps38
  go_wp2_with (go_at_call 55; refine (containsNull_calls A0 c0 l0 _ HR0.out hlen).mono ?_; rintro e w2 ⟨rfl, hb⟩; rw [HD.out])
  go_ret
  exact ⟨by first | rfl | simp, hb⟩
end Go.Proofs.YtnllgjloimoebaaDoor.X

/- strings.Builder at this dump: copyCheck, WriteByte, WriteString of a builder that the call itself has made (after the shelf's Builder1: the dump's copyCheck has a refused statement behind its test, so the shelf's laying does not fit). -/
set_option linter.unusedVariables false
namespace Go.Proofs.YtnllgjloimoebaaDoor.X
open Go.RowKit

theorem hb_size : (Tryd.prog.info? 71).map (·.size) = some 2 := by kernel_rfl
theorem hb_lies : liesAt Tryd.prog Tryd.prog.depth 71 (2 / Tryd.prog.cellsOf 71) 0 71 1 = true := by kernel_rfl
theorem hb_byte : (Tryd.prog.info? 5).map (fun i => (i.zero, i.size, i.bytes)) = some (some (.int .u8 0), 1, 1) := by kernel_rfl

set_option maxHeartbeats 1000000 in
set_option maxRecDepth 100000 in
theorem hb_used (b : Nat) (w : World) (h0 : w.cell? ⟨b, 0, none⟩ = some (.pointer (some ⟨b, 0, none⟩))) :
    Calls Tryd.prog 63 #[.pointer (some ⟨b, 0, none⟩)] w fun e w' => e = .returned (.tuple #[]) ∧ w' = w := by
  obtain ⟨j, hj, _⟩ := Option.map_eq_some_iff.1 hb_size
  go_enter Tryd.func63, Tryd.ntmps63
  go_wp2
  rw [Lib.run_neq_ptr_same w _ Tryd.underlying68 hj]
  go_wp2
  go_end0
  exact ⟨rfl, rfl⟩

set_option maxHeartbeats 1000000 in
set_option maxRecDepth 100000 in
theorem hb_fresh (b : Nat) (w : World) (h0 : w.cell? ⟨b, 0, none⟩ = some (.pointer none)) (hsh : w.shape? b = some (71, 2)) (hfz : w.frozen? ⟨b, 0, none⟩ = false) :
    Calls Tryd.prog 63 #[.pointer (some ⟨b, 0, none⟩)] w fun e w' => e = .returned (.tuple #[]) ∧ w' = w.setCell ⟨b, 0, none⟩ (.pointer (some ⟨b, 0, none⟩)) := by
  obtain ⟨j, hj, hjs⟩ := Option.map_eq_some_iff.1 hb_size
  go_enter Tryd.func63, Tryd.ntmps63
  go_wp2
  rw [Lib.run_to_unsafe w ⟨b, 0, none⟩ Tryd.underlying68 Tryd.underlying111 hj (by rw [hjs]; decide) hsh (Nat.zero_lt_succ 1)]
  simp only [Result.andThen]
  rw [Oper.upon_value]
  go_wp2
  rw [run_callFunc_extern Tryd.func89 (by kernel_rfl) (by kernel_rfl) (by kernel_rfl) (e := Extern.AbiNoEscape.same) (by kernel_rfl)]
  rw [Lib.run_noEscape]
  simp only [Result.andThen]
  rw [Oper.upon_value]
  go_wp2
  rw [Lib.run_from_unsafe w ⟨b, 0, none⟩ Tryd.underlying111 Tryd.underlying68 hj hsh hb_lies]
  simp only [Result.andThen]
  rw [Oper.upon_value]
  go_wp2
  go_end0
  exact ⟨rfl, rfl⟩

theorem hb_check (B b : Nat) (bs : List Value) (w : World) (h : Lib.IsBuilder 71 5 B b bs w) :
    Calls Tryd.prog 63 #[.pointer (some ⟨b, 0, none⟩)] w fun e w' => e = .returned (.tuple #[]) ∧ (Lib.BuilderAt 71 5 B b (.pointer (some ⟨b, 0, none⟩)) bs w' ∧ Below B w w') := by
  rcases h with h | h
  · refine (hb_fresh b w h.cell0 h.shape h.frozen0).mono ?_
    rintro e w' ⟨rfl, rfl⟩
    exact ⟨rfl, h.used _, (Below.refl B w).setCell (p := ⟨b, 0, none⟩) h.1 _⟩
  · refine (hb_used b w h.cell0).mono ?_
    rintro e w' ⟨rfl, rfl⟩
    exact ⟨rfl, h, Below.refl B _⟩

set_option maxHeartbeats 2000000 in
set_option maxRecDepth 100000 in
theorem hb_writeByte (B b : Nat) (bs : List Value) (c : Int) (w : World) (h : Lib.IsBuilder 71 5 B b bs w) (hlen : bs.length + 1 ≤ 140737488355328) (hBw : B ≤ w.heap.size) :
    Calls Tryd.prog 57 #[.pointer (some ⟨b, 0, none⟩), .int .u8 c] w fun e w' => e = .returned .nilIface ∧ (Lib.BuilderAt 71 5 B b (.pointer (some ⟨b, 0, none⟩)) (bs ++ [.int .u8 c]) w' ∧ Below B w w') := by
  obtain ⟨i0, hi, hz0, hz1, hz2⟩ := info_parts hb_byte
  go_enter Tryd.func57, Tryd.ntmps57
  go_wp2_with (go_at_call 63; refine (hb_check B b bs _ h).mono ?_)
  rintro e w1 ⟨rfl, h1, hb1⟩
  obtain ⟨hB, v, hbk, hown, hne⟩ := h1
  have c0 : w1.cell? ⟨b, 0, none⟩ = some (.pointer (some ⟨b, 0, none⟩)) := by rw [Lib.cell_of_heap hbk]; rfl
  have c1 : w1.cell? ⟨b, 1, none⟩ = some v := by rw [Lib.cell_of_heap hbk]; rfl
  go_wp2_with (at_builtin; refine wpList_append_own _ rfl _ _ 69 rfl B 5 i0 (.int .u8 0) 1 1 Tryd.underlying69 hi hz0 hz1 hz2 rfl (by decide) _ _ _ rfl (hown.alloc _) ⟨w1.heap.size, 0, none⟩ 1 1 [.int .u8 c] rfl rfl ?c1 ?c2 ?c3 ?c4 ?c5 ?_)
  case c1 =>
    intro j u hj
    match j, hj with
    | 0, hj => simp at hj; subst hj; simp [Addr.add]
  case c2 => intro u hu; simp at hu; subst hu; rfl
  case c3 => unfold maxLen; omega
  case c4 => omega
  case c5 => have := hb1.size; simp; omega
  intro v' w2 hown' hgrow _
  have hlt : b < w1.heap.size := by
    rcases Nat.lt_or_ge b w1.heap.size with h' | h'
    · exact h'
    · simp [Array.getElem?_eq_none h'] at hbk
  have hb2 : w2.heap[b]? = some (.cells #[.pointer (some ⟨b, 0, none⟩), v] 71 (0, 0)) := by
    rw [hgrow.block b (by simp; omega) (fun e => hne e.symm), Lib.alloc_old w1 _ b hlt]
    exact hbk
  have d0 : w2.cell? ⟨b, 0, none⟩ = some (.pointer (some ⟨b, 0, none⟩)) := by rw [Lib.cell_of_heap hb2]; rfl
  have d1 : w2.cell? ⟨b, 1, none⟩ = some v := by rw [Lib.cell_of_heap hb2]; rfl
  have f1 : w2.frozen? ⟨b, 1, none⟩ = false := Lib.frozen_of_heap hb2 1
  obtain ⟨g, cap, rfl⟩ : ∃ g cap, v' = .slice (some ⟨g, 0, none⟩) (bs.length + 1) cap := by
    rcases hown'.2 with ⟨_, h0⟩ | ⟨g, cap, cur, hv, _⟩
    · omega
    · exact ⟨g, cap, hv⟩
  go_wp2
  go_ret
  refine ⟨rfl, ?_, ?_⟩
  · exact Lib.BuilderAt.put (T := 71) (e := 5) hB hb2 (bs' := bs ++ [.int .u8 c]) (by simpa using hown') (by decide)
  · exact ((hb1.alloc (by have := hb1.size; omega) _).grown hgrow (by have := hb1.size; simp; omega) (fun k hk => (hown.lt k hk).1)).setCell (p := ⟨b, 1, none⟩) hB _

set_option maxHeartbeats 2000000 in
set_option maxRecDepth 100000 in
theorem hb_writeString (B b : Nat) (bs : List Value) (s : ByteArray) (w : World) (h : Lib.IsBuilder 71 5 B b bs w) (hlen : bs.length + s.size ≤ 140737488355328) (hBw : B ≤ w.heap.size) :
    Calls Tryd.prog 47 #[.pointer (some ⟨b, 0, none⟩), .string s] w fun e w' => e = .returned (.tuple #[.int .i64 s.size, .nilIface]) ∧ (Lib.BuilderAt 71 5 B b (.pointer (some ⟨b, 0, none⟩)) (bs ++ Lib.strCells s) w' ∧ Below B w w') := by
  obtain ⟨i0, hi, hz0, hz1, hz2⟩ := info_parts hb_byte
  go_enter Tryd.func47, Tryd.ntmps47
  go_wp2_with (go_at_call 63; refine (hb_check B b bs _ h).mono ?_)
  rintro e w1 ⟨rfl, h1, hb1⟩
  obtain ⟨hB, v, hbk, hown, hne⟩ := h1
  have c0 : w1.cell? ⟨b, 0, none⟩ = some (.pointer (some ⟨b, 0, none⟩)) := by rw [Lib.cell_of_heap hbk]; rfl
  have c1 : w1.cell? ⟨b, 1, none⟩ = some v := by rw [Lib.cell_of_heap hbk]; rfl
  go_wp2_with (at_builtin; refine Lib.wpList_append_own_string _ rfl _ _ 69 9 rfl B 5 i0 Tryd.underlying69 Tryd.underlying9 hi hz0 hz1 hz2 _ _ _ rfl hown s rfl ?c3 ?c4 ?c5 ?_)
  case c3 => unfold maxLen; omega
  case c4 => omega
  case c5 => have := hb1.size; omega
  intro v' w2 hown' hgrow _
  have hlt : b < w1.heap.size := by
    rcases Nat.lt_or_ge b w1.heap.size with h' | h'
    · exact h'
    · simp [Array.getElem?_eq_none h'] at hbk
  have hb2 : w2.heap[b]? = some (.cells #[.pointer (some ⟨b, 0, none⟩), v] 71 (0, 0)) := by
    rw [hgrow.block b hlt (fun e => hne e.symm)]
    exact hbk
  have d0 : w2.cell? ⟨b, 0, none⟩ = some (.pointer (some ⟨b, 0, none⟩)) := by rw [Lib.cell_of_heap hb2]; rfl
  have d1 : w2.cell? ⟨b, 1, none⟩ = some v := by rw [Lib.cell_of_heap hb2]; rfl
  have f1 : w2.frozen? ⟨b, 1, none⟩ = false := Lib.frozen_of_heap hb2 1
  obtain ⟨ao, n', cap, rfl⟩ : ∃ ao n' cap, v' = .slice ao n' cap := by
    rcases hown'.2 with ⟨hv, _⟩ | ⟨g, cap, cur, hv, _⟩
    · exact ⟨_, _, _, hv⟩
    · exact ⟨_, _, _, hv⟩
  go_wp2
  go_ret2
  refine ⟨rfl, ?_, ?_⟩
  · exact Lib.BuilderAt.put (T := 71) (e := 5) hB hb2 (bs' := bs ++ Lib.strCells s) (by simpa [Lib.strCells_length] using hown') (by decide)
  · exact (hb1.grown hgrow (by have := hb1.size; omega) (fun k hk => (hown.lt k hk).1)).setCell (p := ⟨b, 1, none⟩) hB _
end Go.Proofs.YtnllgjloimoebaaDoor.X

/- grouper.keyOf: the key of a row: how many values it has, and their text. -/
set_option linter.unusedVariables false
set_option linter.unusedSimpArgs false
namespace Go.Proofs.YtnllgjloimoebaaDoor.X
open Go.RowKit Go.Proofs.YtnllgjloimoebaaDoorW.PrintWords Go.Proofs.YtnllgjloimoebaaDoorW.PrintLast Go.Proofs.YtnllgjloimoebaaDoorW.PrintMore

def vbytes (x : S44) : ByteArray := ((((((⟨(Lib.itoa x.f0).toArray⟩ : ByteArray) ++ (⟨#[32]⟩ : ByteArray)) ++ (⟨(Lib.itoa x.f1).toArray⟩ : ByteArray)) ++ (⟨#[32]⟩ : ByteArray)) ++ (⟨(Lib.itoa (x.f2.size : Int)).toArray⟩ : ByteArray)) ++ (⟨#[32]⟩ : ByteArray)) ++ x.f2
theorem vbytes_data (x : S44) : (vbytes x).data.toList = vtext x := by
  unfold vbytes vtext
  simp [ByteArray.data_append]
theorem vbytes_size (x : S44) : (vbytes x).size = (vtext x).length := by
  rw [← vbytes_data]; exact Array.length_toList.symm
theorem strCells_vbytes (x : S44) : Lib.strCells (vbytes x) = Lib.byteCells (vtext x) := by
  rw [← vbytes_data]; rfl

theorem grow_below (w : World) (q : Nat) (os : Array Obj) : Below w.heap.size w (Go.Sort.grow (w.drewN q) os) :=
  ⟨rfl, rfl, rfl, by simp [Go.Sort.grow, World.drewN], fun k hk => by
    show (w.heap ++ os)[k]? = _
    rw [Array.getElem?_append_left hk]⟩
theorem itoa_calls (n : Int) (h : i64ok n = true) (w : World) (htab : Tab w) :
    Calls Tryd.prog 48 #[.int .i64 n] w fun e w' => e = .returned (.string ⟨(Lib.itoa n).toArray⟩) ∧ Below w.heap.size w w' := by
  unfold i64ok at h
  simp only [Bool.and_eq_true, decide_eq_true_eq] at h
  refine (Tryd.strconv_Itoa n h.1 h.2 w htab).mono ?_
  rintro e w' ⟨rfl, q, os, rfl⟩
  exact ⟨rfl, grow_below w q os⟩
theorem isBuilder_below {T e : TypeId} {B b : Nat} {bs : List Value} {w w' : World} (h : Lib.IsBuilder T e B b bs w) (hb : Below w.heap.size w w') : Lib.IsBuilder T e B b bs w' := by
  have key : ∀ p, Lib.BuilderAt T e B b p bs w → Lib.BuilderAt T e B b p bs w' := fun p h => by
    obtain ⟨hB, v, hbk, hown, hne⟩ := h
    exact ⟨hB, v, blk_below hbk hb, pw_own_below hown hb, hne⟩
  exact h.elim (fun x => .inl (key _ x)) (fun x => .inr (key _ x))

set_option maxHeartbeats 4000000 in
set_option maxRecDepth 100000 in
theorem keyOf_calls (A0 : Option Addr) (c0 : Nat) (l0 : List S44) (w : World) (hr0 : Kd.C k44 w A0 l0.length l0) (hc0 : l0.length ≤ c0) (hok : rowOK l0 = true) (hlen : l0.length ≤ 1099511627776) (htab : Tab w) :
    Calls Tryd.prog 29 #[.slice A0 l0.length c0] w fun e w' => e = .returned (.agg #[.int .i64 l0.length, .string ⟨(ktext l0).toArray⟩]) ∧ Below w.heap.size w w' := by
  have HR0 := Aside0.mk hr0
  have HC0 := Aside0.mk hc0
  have HT := Aside0.mk htab
  have HOK := Aside0.mk hok
  clear hr0 hc0 htab hok
  go_enter Tryd.func29, Tryd.ntmps29
  go_wp2
  obtain ⟨w1, hw1⟩ : ∃ w1, w1 = w.alloc (.cells #[.int .i64 0, .string ⟨#[]⟩] 48) := ⟨_, rfl⟩
  rw [← hw1]
  have HS1 : Aside0 (w1.heap.size = w.heap.size + 1) := ⟨by rw [hw1]; simp⟩
  have HBW : Aside0 (Below w.heap.size w w1) := ⟨by rw [hw1]; exact below_alloc (Below.refl _ _) _⟩
  have HRB : Aside0 (w1.heap[w.heap.size]? = some (.cells #[.int .i64 0, .string ⟨#[]⟩] 48 (0, 0))) := ⟨by rw [hw1]; exact blk_new _ _⟩
  have HBF : Aside0 (Lib.IsBuilder 71 5 (w.heap.size + 1) (w.heap.size + 1) (Lib.byteCells (ktext (l0.take 0))) (w1.alloc (.cells #[.pointer none, .slice none 0 0] 71))) := ⟨by
    have := Lib.fresh_isBuilder 71 5 w1
    rw [HS1.out] at this
    simpa [ktext, Lib.byteCells] using this⟩
  clear hw1
  go_loopg [8] l0.length (fun n v8 wr => ∃ k : Nat, v8 = .int .i64 k ∧ Aside0 (k + n = l0.length) ∧ Aside0 (Lib.IsBuilder 71 5 (w.heap.size + 1) (w.heap.size + 1) (Lib.byteCells (ktext (l0.take k))) wr) ∧ Aside0 (Below (w.heap.size + 1) w1 wr))
  case atStart => exact ⟨0, rfl, ⟨Nat.zero_add _⟩, HBF, ⟨(Below.refl _ _).alloc (by have := HS1.out; omega) _⟩⟩
  case round =>
    clear HBF
    obtain ⟨k, rfl, HN, HBF, HB⟩ := hrel
    have hn := HN.out
    by_cases hlt : k < l0.length
    · obtain ⟨ad, e, hx0, hx1, hx2⟩ := at_T44 HR0.out k (by omega) (by omega)
      cases e
      have hh : (rd_T44 l0 (k : Int)) = l0.getD k z44 := by unfold rd_T44; rw [Int.toNat_natCast]
      obtain ⟨x, hx⟩ : ∃ x, x = l0.getD k z44 := ⟨_, rfl⟩
      rw [hh, ← hx] at hx0 hx1 hx2
      have hmem : x ∈ l0 := by rw [hx, List.getD_eq_getElem?_getD, List.getElem?_eq_getElem hlt]; simp
      have HX0 := Aside0.mk (((rowOK_of HOK.out).2 x hmem).1)
      have HX1 := Aside0.mk (((rowOK_of HOK.out).2 x hmem).2.1)
      have HX2' := Aside0.mk (((rowOK_of HOK.out).2 x hmem).2.2)
      have HX2 : Aside0 (i64ok (x.f2.size : Int) = true) := ⟨by have := HX2'.out; exact i64ok_of (by omega) (by omega)⟩
      have HX := Aside0.mk hx
      clear hx hh hmem
      have hBB := (Below.trans HBW.out (HB.out.mono (by omega)))
      replace hx0 := (hBB.cell (World.block_lt_of_cell? w _ hx0)).trans hx0
      replace hx1 := (hBB.cell (World.block_lt_of_cell? w _ hx1)).trans hx1
      replace hx2 := (hBB.cell (World.block_lt_of_cell? w _ hx2)).trans hx2
      have HBB := Aside0.mk hBB
      clear hBB
      rw [Int.toNat_natCast] at hx0 hx1 hx2
      have hkl : (k : Int) < (l0.length : Int) := by omega
      have hl2 : (l0.length : Int) ≤ 1099511627776 := by omega
      clear hn
      go_wp2
      obtain ⟨g, hg⟩ : ∃ g, g = wr.heap.size := ⟨_, rfl⟩
      rw [← hg]
      obtain ⟨W, hW⟩ : ∃ W, W = (wr.alloc (.cells #[.int .i64 x.f0, .int .i64 x.f1, .string x.f2] 44)).drew := ⟨_, rfl⟩
      have hbk : W.heap[g]? = some (.cells #[.int .i64 x.f0, .int .i64 x.f1, .string x.f2] 44 (0, 0)) := by rw [hW, hg]; exact blk_new wr _
      have hv0 : Aside0 (W.cell? ⟨g, 0, none⟩ = some (.int .i64 x.f0)) := ⟨(blk_cell hbk 0).trans rfl⟩
      have hv1 : Aside0 (W.cell? ⟨g, 1, none⟩ = some (.int .i64 x.f1)) := ⟨(blk_cell hbk 1).trans rfl⟩
      have hv2 : Aside0 (W.cell? ⟨g, 2, none⟩ = some (.string x.f2)) := ⟨(blk_cell hbk 2).trans rfl⟩
      have hlg := blk_lt hbk
      have HBW5 : Aside0 (Below wr.heap.size wr W) := ⟨by rw [hW]; exact below_drew1 (below_alloc (Below.refl _ _) _)⟩
      have HT5 : Aside0 (Tab W) := ⟨tab_of (tab_of HT.out HBB.out) HBW5.out⟩
      have HB5 : Aside0 (Below W.heap.size W W) := ⟨Below.refl _ _⟩
      clear hbk
      have HG := Aside0.mk hg
      clear hg
      have hi0 := itoa_len _ HX0.out
      have hi1 := itoa_len _ HX1.out
      have hi2 := itoa_len _ HX2.out
      have hi3 := HX2'.out
      have HSZ : Aside0 ((Lib.byteCells (ktext (l0.take k))).length + (vbytes x).size ≤ 140737488355328) := ⟨by
        have h1 := ktext_len (l0.take k) (fun y hy => (rowOK_of HOK.out).2 y (List.mem_of_mem_take hy))
        have h2 := rowSize_take l0 k
        have h3 := (rowOK_of HOK.out).1
        have h4 := vtext_len x HX0.out HX1.out HX2'.out
        rw [vbytes_size, Lib.byteCells, List.length_map]
        omega⟩
      have HNX : Aside0 (Lib.byteCells (ktext (l0.take (k + 1))) = Lib.byteCells (ktext (l0.take k)) ++ Lib.strCells (vbytes x)) := ⟨by
        rw [strCells_vbytes, ← Lib.byteCells_append]
        congr 1
        rw [List.take_succ_eq_append_getElem hlt]
        unfold ktext
        rw [List.flatMap_append]
        congr 1
        simp only [List.flatMap_cons, List.flatMap_nil, List.append_nil]
        rw [HX.out, List.getD_eq_getElem?_getD, List.getElem?_eq_getElem hlt]
        rfl⟩
      have HLE : Aside0 (w.heap.size + 1 ≤ wr.heap.size) := ⟨by have h3 := HB.out.size; have h4 := HS1.out; omega⟩
      refine start_ (n := 19) (S := fun w' => w'.cell? ⟨g, 0, none⟩ = some (.int .i64 x.f0) ∧ w'.cell? ⟨g, 1, none⟩ = some (.int .i64 x.f1) ∧ w'.cell? ⟨g, 2, none⟩ = some (.string x.f2)) (ds := [18]) #[false, false, false, false, false, false, false, false, false, false, false, false, false, false, false, false, false, false, false] (by kernel_rfl) rfl rfl (by rw [← hW]; exact ⟨hv0.out, hv1.out, hv2.out⟩) (fun hHeld => ?_)
      rw [← hW] at hHeld ⊢
      clear hW
      refine pure_ (i := 0) (N := some 12) (v := ?_) (a' := ?_) #[true, false, false, false, false, false, false, false, false, false, false, false, false, false, false, false, false, false, false] rfl rfl (by kernel_rfl) (fun _ _ _ h => h) (Or.inl ⟨by rfl, ?_⟩) ?_ ?_
      rotate_left
      · intro w'
        go_simp
        all_goals with_reducible rfl
      rotate_left
      · simp only [Act.put, List.setIfInBounds_toArray, List.set_cons_zero, List.set_cons_succ, i64_w, i32_w]
        rfl
      refine pure_ (i := 4) (N := some 16) (v := ?_) (a' := ?_) #[true, false, false, false, true, false, false, false, false, false, false, false, false, false, false, false, false, false, false] rfl rfl (by kernel_rfl) (fun _ _ _ h => h) (Or.inl ⟨by rfl, ?_⟩) ?_ ?_
      rotate_left
      · intro w'
        go_simp
        all_goals with_reducible rfl
      rotate_left
      · simp only [Act.put, List.setIfInBounds_toArray, List.set_cons_zero, List.set_cons_succ, i64_w, i32_w]
        rfl
      refine pure_ (i := 9) (N := some 21) (v := ?_) (a' := ?_) #[true, false, false, false, true, false, false, false, false, true, false, false, false, false, false, false, false, false, false] rfl rfl (by kernel_rfl) (fun _ _ _ h => h) (Or.inl ⟨by rfl, ?_⟩) ?_ ?_
      rotate_left
      · intro w'
        go_simp
        all_goals with_reducible rfl
      rotate_left
      · simp only [Act.put, List.setIfInBounds_toArray, List.set_cons_zero, List.set_cons_succ, i64_w, i32_w]
        rfl
      refine pure_ (i := 15) (N := some 27) (v := ?_) (a' := ?_) #[true, false, false, false, true, false, false, false, false, true, false, false, false, false, false, true, false, false, false] rfl rfl (by kernel_rfl) (fun _ _ _ h => h) (Or.inl ⟨by rfl, ?_⟩) ?_ ?_
      rotate_left
      · intro w'
        go_simp
        all_goals with_reducible rfl
      rotate_left
      · simp only [Act.put, List.setIfInBounds_toArray, List.set_cons_zero, List.set_cons_succ, i64_w, i32_w]
        rfl
      refine take_ (i := 1) (N := some 13) (v := ?_) (a' := ?_) #[true, true, false, false, true, false, false, false, false, true, false, false, false, false, false, true, false, false, false] rfl rfl (by kernel_rfl) (fun _ _ _ h => h) (Or.inl ⟨by rfl, ?_⟩) hHeld ?_ ?_
      rotate_left
      · rintro w' ⟨s0, s1, s2⟩
        go_simp
        all_goals with_reducible rfl
      rotate_left
      · simp only [Act.put, List.setIfInBounds_toArray, List.set_cons_zero, List.set_cons_succ, i64_w, i32_w]
        rfl
      refine take_ (i := 5) (N := some 17) (v := ?_) (a' := ?_) #[true, true, false, false, true, true, false, false, false, true, false, false, false, false, false, true, false, false, false] rfl rfl (by kernel_rfl) (fun _ _ _ h => h) (Or.inl ⟨by rfl, ?_⟩) hHeld ?_ ?_
      rotate_left
      · rintro w' ⟨s0, s1, s2⟩
        go_simp
        all_goals with_reducible rfl
      rotate_left
      · simp only [Act.put, List.setIfInBounds_toArray, List.set_cons_zero, List.set_cons_succ, i64_w, i32_w]
        rfl
      refine take_ (i := 10) (N := some 22) (v := ?_) (a' := ?_) #[true, true, false, false, true, true, false, false, false, true, true, false, false, false, false, true, false, false, false] rfl rfl (by kernel_rfl) (fun _ _ _ h => h) (Or.inl ⟨by rfl, ?_⟩) hHeld ?_ ?_
      rotate_left
      · rintro w' ⟨s0, s1, s2⟩
        go_simp
        all_goals with_reducible rfl
      rotate_left
      · simp only [Act.put, List.setIfInBounds_toArray, List.set_cons_zero, List.set_cons_succ, i64_w, i32_w]
        rfl
      refine pure_ (i := 11) (N := some 23) (v := ?_) (a' := ?_) #[true, true, false, false, true, true, false, false, false, true, true, true, false, false, false, true, false, false, false] rfl rfl (by kernel_rfl) (fun _ _ _ h => h) (Or.inl ⟨by rfl, ?_⟩) ?_ ?_
      rotate_left
      · intro w'
        go_simp
        all_goals with_reducible rfl
      rotate_left
      · simp only [Act.put, List.setIfInBounds_toArray, List.set_cons_zero, List.set_cons_succ, i64_w, i32_w]
        rfl
      refine take_ (i := 16) (N := some 28) (v := ?_) (a' := ?_) #[true, true, false, false, true, true, false, false, false, true, true, true, false, false, false, true, true, false, false] rfl rfl (by kernel_rfl) (fun _ _ _ h => h) (Or.inl ⟨by rfl, ?_⟩) hHeld ?_ ?_
      rotate_left
      · rintro w' ⟨s0, s1, s2⟩
        go_simp
        all_goals with_reducible rfl
      rotate_left
      · simp only [Act.put, List.setIfInBounds_toArray, List.set_cons_zero, List.set_cons_succ, i64_w, i32_w]
        rfl
      refine one_ (i := 2) (N := some 14) #[true, true, true, false, true, true, false, false, false, true, true, true, false, false, false, true, true, false, false] rfl rfl (by kernel_rfl) (by decide) (fun K hK => ?_)
      refine goes_ Tryd.func48 (by kernel_rfl) rfl #[.int .i64 x.f0] (by rfl) rfl rfl (by (try simp only [List.map_toArray, List.map_cons, List.map_nil]); first | done | rfl) ?_
      with_reducible refine (itoa_calls x.f0 HX0.out _ ?_).mono ?_
      · exact tab_of HT5.out HB5.out
      rintro e w12 ⟨rfl, hb⟩
      refine ⟨_, rfl, ?_⟩
      have n0_ := Aside0.mk (below_step HB5.out hb)
      clear HB5
      have HB5 := n0_
      clear n0_ hb
      refine hK.out _ _ ⟨(HB5.out.cell hlg).trans hv0.out, (HB5.out.cell hlg).trans hv1.out, (HB5.out.cell hlg).trans hv2.out⟩ (fun hHeld => ?_)
      clear hK K
      refine norm_ (a' := ?_) ?_ ?_
      rotate_left
      · show Act.put _ (some 14) _ = _
        simp only [Act.put, List.setIfInBounds_toArray, List.set_cons_zero, List.set_cons_succ, i64_w, i32_w]
        rfl
      skip
      refine pure_ (i := 3) (N := some 15) (v := ?_) (a' := ?_) #[true, true, true, true, true, true, false, false, false, true, true, true, false, false, false, true, true, false, false] rfl rfl (by kernel_rfl) (fun _ _ _ h => h) (Or.inl ⟨by rfl, ?_⟩) ?_ ?_
      rotate_left
      · intro w'
        go_simp
        (rw [if_neg (by omega)])
        all_goals with_reducible rfl
      rotate_left
      · simp only [Act.put, List.setIfInBounds_toArray, List.set_cons_zero, List.set_cons_succ, i64_w, i32_w]
        rfl
      refine one_ (i := 6) (N := some 18) #[true, true, true, true, true, true, true, false, false, true, true, true, false, false, false, true, true, false, false] rfl rfl (by kernel_rfl) (by decide) (fun K hK => ?_)
      refine goes_ Tryd.func48 (by kernel_rfl) rfl #[.int .i64 x.f1] (by rfl) rfl rfl (by (try simp only [List.map_toArray, List.map_cons, List.map_nil]); first | done | rfl) ?_
      with_reducible refine (itoa_calls x.f1 HX1.out _ ?_).mono ?_
      · exact tab_of HT5.out HB5.out
      rintro e w13 ⟨rfl, hb⟩
      refine ⟨_, rfl, ?_⟩
      have n0_ := Aside0.mk (below_step HB5.out hb)
      clear HB5
      have HB5 := n0_
      clear n0_ hb
      refine hK.out _ _ ⟨(HB5.out.cell hlg).trans hv0.out, (HB5.out.cell hlg).trans hv1.out, (HB5.out.cell hlg).trans hv2.out⟩ (fun hHeld => ?_)
      clear hK K
      refine norm_ (a' := ?_) ?_ ?_
      rotate_left
      · show Act.put _ (some 18) _ = _
        simp only [Act.put, List.setIfInBounds_toArray, List.set_cons_zero, List.set_cons_succ, i64_w, i32_w]
        rfl
      skip
      refine pure_ (i := 7) (N := some 19) (v := ?_) (a' := ?_) #[true, true, true, true, true, true, true, true, false, true, true, true, false, false, false, true, true, false, false] rfl rfl (by kernel_rfl) (fun _ _ _ h => h) (Or.inl ⟨by rfl, ?_⟩) ?_ ?_
      rotate_left
      · intro w'
        go_simp
        (rw [if_neg (by omega)])
        all_goals with_reducible rfl
      rotate_left
      · simp only [Act.put, List.setIfInBounds_toArray, List.set_cons_zero, List.set_cons_succ, i64_w, i32_w]
        rfl
      refine pure_ (i := 8) (N := some 20) (v := ?_) (a' := ?_) #[true, true, true, true, true, true, true, true, true, true, true, true, false, false, false, true, true, false, false] rfl rfl (by kernel_rfl) (fun _ _ _ h => h) (Or.inl ⟨by rfl, ?_⟩) ?_ ?_
      rotate_left
      · intro w'
        go_simp
        (rw [if_neg (by omega)])
        all_goals with_reducible rfl
      rotate_left
      · simp only [Act.put, List.setIfInBounds_toArray, List.set_cons_zero, List.set_cons_succ, i64_w, i32_w]
        rfl
      refine one_ (i := 12) (N := some 24) #[true, true, true, true, true, true, true, true, true, true, true, true, true, false, false, true, true, false, false] rfl rfl (by kernel_rfl) (by decide) (fun K hK => ?_)
      refine goes_ Tryd.func48 (by kernel_rfl) rfl #[.int .i64 (x.f2.size : Int)] (by rfl) rfl rfl (by (try simp only [List.map_toArray, List.map_cons, List.map_nil]); first | done | rfl) ?_
      with_reducible refine (itoa_calls (x.f2.size : Int) HX2.out _ ?_).mono ?_
      · exact tab_of HT5.out HB5.out
      rintro e w14 ⟨rfl, hb⟩
      refine ⟨_, rfl, ?_⟩
      have n0_ := Aside0.mk (below_step HB5.out hb)
      clear HB5
      have HB5 := n0_
      clear n0_ hb
      refine hK.out _ _ ⟨(HB5.out.cell hlg).trans hv0.out, (HB5.out.cell hlg).trans hv1.out, (HB5.out.cell hlg).trans hv2.out⟩ (fun hHeld => ?_)
      clear hK K
      refine norm_ (a' := ?_) ?_ ?_
      rotate_left
      · show Act.put _ (some 24) _ = _
        simp only [Act.put, List.setIfInBounds_toArray, List.set_cons_zero, List.set_cons_succ, i64_w, i32_w]
        rfl
      skip
      refine pure_ (i := 13) (N := some 25) (v := ?_) (a' := ?_) #[true, true, true, true, true, true, true, true, true, true, true, true, true, true, false, true, true, false, false] rfl rfl (by kernel_rfl) (fun _ _ _ h => h) (Or.inl ⟨by rfl, ?_⟩) ?_ ?_
      rotate_left
      · intro w'
        go_simp
        (rw [if_neg (by omega)])
        all_goals with_reducible rfl
      rotate_left
      · simp only [Act.put, List.setIfInBounds_toArray, List.set_cons_zero, List.set_cons_succ, i64_w, i32_w]
        rfl
      refine pure_ (i := 14) (N := some 26) (v := ?_) (a' := ?_) #[true, true, true, true, true, true, true, true, true, true, true, true, true, true, true, true, true, false, false] rfl rfl (by kernel_rfl) (fun _ _ _ h => h) (Or.inl ⟨by rfl, ?_⟩) ?_ ?_
      rotate_left
      · intro w'
        go_simp
        (rw [if_neg (by omega)])
        all_goals with_reducible rfl
      rotate_left
      · simp only [Act.put, List.setIfInBounds_toArray, List.set_cons_zero, List.set_cons_succ, i64_w, i32_w]
        rfl
      refine pure_ (i := 17) (N := some 29) (v := ?_) (a' := ?_) #[true, true, true, true, true, true, true, true, true, true, true, true, true, true, true, true, true, true, false] rfl rfl (by kernel_rfl) (fun _ _ _ h => h) (Or.inl ⟨by rfl, ?_⟩) ?_ ?_
      rotate_left
      · intro w'
        go_simp
        (rw [if_neg (by omega)])
        all_goals with_reducible rfl
      rotate_left
      · simp only [Act.put, List.setIfInBounds_toArray, List.set_cons_zero, List.set_cons_succ, i64_w, i32_w]
        rfl
      refine last_ (i := 18) (N := some 30) #[true, true, true, true, true, true, true, true, true, true, true, true, true, true, true, true, true, true, true] rfl rfl (by kernel_rfl) (by decide) (fun K hK => ?_)
      refine goes_ Tryd.func47 (by kernel_rfl) rfl #[.pointer (some ⟨w.heap.size + 1, 0, none⟩), .string (vbytes x)] (by rfl) rfl rfl (by (try simp only [List.map_toArray, List.map_cons, List.map_nil]); first | done | rfl) ?_
      with_reducible refine (hb_writeString (w.heap.size + 1) (w.heap.size + 1) (Lib.byteCells (ktext (l0.take k))) (vbytes x) _ ?_ ?_ ?_).mono ?_
      · exact isBuilder_below (isBuilder_below HBF.out HBW5.out) HB5.out
      · exact HSZ.out
      · have h1 := HB5.out.size; have h2 := HBW5.out.size; have h3 := HB.out.size; have h4 := HS1.out; omega
      rintro e w15 ⟨rfl, hbl, hb⟩
      refine ⟨_, rfl, ?_⟩
      refine hK.out _ _ ?_
      clear hK K
      refine norm_ (a' := ?_) ?_ ?_
      rotate_left
      · show Act.put _ (some 30) _ = _
        simp only [Act.put, List.setIfInBounds_toArray, List.set_cons_zero, List.set_cons_succ, i64_w, i32_w]
        rfl
      refine done_ (by kernel_rfl) ?_
      have HBF2 : Aside0 (Lib.IsBuilder 71 5 (w.heap.size + 1) (w.heap.size + 1) (Lib.byteCells (ktext (l0.take (k + 1)))) w15) := ⟨by
        rw [show Lib.byteCells (ktext (l0.take (k + 1))) = Lib.byteCells (ktext (l0.take k)) ++ Lib.strCells (vbytes x) from HNX.out]
        exact .inr hbl⟩
      have HB2 : Aside0 (Below (w.heap.size + 1) w1 w15) := ⟨(HB.out.trans (HBW5.out.mono HLE.out)).trans ((HB5.out.mono (by have h2 := HBW5.out.size; have := HLE.out; omega)).trans hb)⟩
      clear hbl hb hHeld
      go_wp2
      go_roundg (gk - 1)
      case measure => have := HN.out; omega
      case rel => exact ⟨k + 1, by go_num, ⟨by have := HN.out; omega⟩, HBF2, HB2⟩
    · obtain rfl : k = l0.length := by omega
      have HLE : Aside0 (w.heap.size + 1 ≤ wr.heap.size) := ⟨by have h3 := HB.out.size; have h4 := HS1.out; omega⟩
      rw [List.take_length] at HBF
      clear hn
      go_wp2_with fail
      refine (Tryd.Builder_String_any (w.heap.size + 1) (w.heap.size + 1) (ktext l0) wr HBF.out HLE.out).mono ?_
      rintro e w2 ⟨rfl, hb⟩
      have hb2 : Below (w.heap.size + 1) w1 w2 := HB.out.trans hb
      have hrb : w2.heap[w.heap.size]? = some (.cells #[.int .i64 0, .string ⟨#[]⟩] 48 (0, 0)) := (hb2.block _ (Nat.lt_succ_self _)).trans HRB.out
      have d0 := blk_cell hrb 0
      have d1 := blk_cell hrb 1
      have f0 := blk_frozen hrb 0
      have f1 := blk_frozen hrb 1
      have HBE : Aside0 (Below w.heap.size w w2) := ⟨HBW.out.trans (hb2.mono (Nat.le_succ _))⟩
      have HR2 := Aside0.mk hrb
      clear hb hb2 hrb
      go_wp2
      refine bodyPost_ret (results_cell_row rfl _ _ w.heap.size 48 #[.int .i64 l0.length, .string ⟨(ktext l0).toArray⟩] (0, 0) _ rfl (by refine blk_put (cs := #[.int .i64 l0.length, .string ⟨#[]⟩]) ?_ 1 _ rfl; refine blk_put (cs := #[.int .i64 0, .string ⟨#[]⟩]) ?_ 0 _ rfl; exact HR2.out) Tryd.underlying48 rfl (by kernel_rfl)) rfl ?_
      exact ⟨rfl, below_set (below_set HBE.out (Nat.le_refl _)) (Nat.le_refl _)⟩
end Go.Proofs.YtnllgjloimoebaaDoor.X

/- strings.Builder once more: what is written leaves what is neither a builder nor a row of bytes. -/
set_option linter.unusedVariables false
namespace Go.Proofs.YtnllgjloimoebaaDoor.X
open Go.RowKit

/-- what is neither a builder nor a row of bytes stands as it did -/
def Keeps (w w' : World) : Prop := ∀ (g : Nat) (cells : Array Value) (t : TypeId), t ≠ 71 → t ≠ 5 → w.heap[g]? = some (.cells cells t (0, 0)) → w'.heap[g]? = some (.cells cells t (0, 0))
theorem Keeps.refl (w : World) : Keeps w w := fun _ _ _ _ _ h => h
theorem Keeps.trans {a b c : World} (h : Keeps a b) (k : Keeps b c) : Keeps a c := fun g cs t h1 h2 h3 => k g cs t h1 h2 (h g cs t h1 h2 h3)
theorem Keeps.below {w w' : World} (h : Below w.heap.size w w') : Keeps w w' := fun g cs t _ _ h3 => (h.block g (Array.getElem?_eq_some_iff.1 h3).1).trans h3
theorem Keeps.setCell {w : World} {b i : Nat} {c0 : Array Value} (hb : w.heap[b]? = some (.cells c0 71 (0, 0))) (u : Value) : Keeps w (w.setCell ⟨b, i, none⟩ u) := fun g cs t h1 _ h3 => by
  have hne : g ≠ b := fun e => by
    rw [e, hb] at h3
    injection h3 with h3
    injection h3 with _ h3
    exact h1 h3.symm
  exact (Below.heap_setCell w ⟨b, i, none⟩ u g hne).trans h3
theorem Keeps.grown {w w' : World} {v : Value} {n : Nat} {bs : List Value} {base : Nat} (ho : w.ownsRow base 5 1 v n bs) (hg : w.grownBy w' v.ownBlock) : Keeps w w' := fun g cs t _ h2 h3 => by
  refine (hg.block g (Array.getElem?_eq_some_iff.1 h3).1 (fun e => ?_)).trans h3
  rcases ho.2 with ⟨hv, _⟩ | ⟨g', cap, cur, hv, _, hh, _⟩
  · rw [hv] at e; cases e
  · rw [hv] at e
    have e2 : g = g' := by simpa [Value.ownBlock] using e
    rw [e2, hh] at h3
    injection h3 with h3
    injection h3 with _ h3
    exact h2 h3.symm
theorem hb_blk {B b : Nat} {bs : List Value} {w : World} (h : Lib.IsBuilder 71 5 B b bs w) : ∃ c0, w.heap[b]? = some (.cells c0 71 (0, 0)) := by
  rcases h with ⟨_, v, hbk, _⟩ | ⟨_, v, hbk, _⟩
  · exact ⟨_, hbk⟩
  · exact ⟨_, hbk⟩

theorem hb_check2 (B b : Nat) (bs : List Value) (w : World) (h : Lib.IsBuilder 71 5 B b bs w) :
    Calls Tryd.prog 63 #[.pointer (some ⟨b, 0, none⟩)] w fun e w' => e = .returned (.tuple #[]) ∧ (Lib.BuilderAt 71 5 B b (.pointer (some ⟨b, 0, none⟩)) bs w' ∧ Below B w w') ∧ Keeps w w' := by
  obtain ⟨c0, hc0⟩ := hb_blk h
  rcases h with h | h
  · refine (hb_fresh b w h.cell0 h.shape h.frozen0).mono ?_
    rintro e w' ⟨rfl, rfl⟩
    exact ⟨rfl, ⟨h.used _, (Below.refl B w).setCell (p := ⟨b, 0, none⟩) h.1 _⟩, Keeps.setCell hc0 _⟩
  · refine (hb_used b w h.cell0).mono ?_
    rintro e w' ⟨rfl, rfl⟩
    exact ⟨rfl, ⟨h, Below.refl B _⟩, Keeps.refl _⟩

set_option maxHeartbeats 2000000 in
set_option maxRecDepth 100000 in
theorem hb_writeByte2 (B b : Nat) (bs : List Value) (c : Int) (w : World) (h : Lib.IsBuilder 71 5 B b bs w) (hlen : bs.length + 1 ≤ 140737488355328) (hBw : B ≤ w.heap.size) :
    Calls Tryd.prog 57 #[.pointer (some ⟨b, 0, none⟩), .int .u8 c] w fun e w' => e = .returned .nilIface ∧ (Lib.BuilderAt 71 5 B b (.pointer (some ⟨b, 0, none⟩)) (bs ++ [.int .u8 c]) w' ∧ Below B w w') ∧ Keeps w w' := by
  obtain ⟨i0, hi, hz0, hz1, hz2⟩ := info_parts hb_byte
  go_enter Tryd.func57, Tryd.ntmps57
  go_wp2_with (go_at_call 63; refine (hb_check2 B b bs _ h).mono ?_)
  rintro e w1 ⟨rfl, ⟨h1, hb1⟩, hk1⟩
  obtain ⟨hB, v, hbk, hown, hne⟩ := h1
  have c0 : w1.cell? ⟨b, 0, none⟩ = some (.pointer (some ⟨b, 0, none⟩)) := by rw [Lib.cell_of_heap hbk]; rfl
  have c1 : w1.cell? ⟨b, 1, none⟩ = some v := by rw [Lib.cell_of_heap hbk]; rfl
  go_wp2_with (at_builtin; refine wpList_append_own _ rfl _ _ 69 rfl B 5 i0 (.int .u8 0) 1 1 Tryd.underlying69 hi hz0 hz1 hz2 rfl (by decide) _ _ _ rfl (hown.alloc _) ⟨w1.heap.size, 0, none⟩ 1 1 [.int .u8 c] rfl rfl ?c1 ?c2 ?c3 ?c4 ?c5 ?_)
  case c1 =>
    intro j u hj
    match j, hj with
    | 0, hj => simp at hj; subst hj; simp [Addr.add]
  case c2 => intro u hu; simp at hu; subst hu; rfl
  case c3 => unfold maxLen; omega
  case c4 => omega
  case c5 => have := hb1.size; simp; omega
  intro v' w2 hown' hgrow _
  have hlt : b < w1.heap.size := by
    rcases Nat.lt_or_ge b w1.heap.size with h' | h'
    · exact h'
    · simp [Array.getElem?_eq_none h'] at hbk
  have hb2 : w2.heap[b]? = some (.cells #[.pointer (some ⟨b, 0, none⟩), v] 71 (0, 0)) := by
    rw [hgrow.block b (by simp; omega) (fun e => hne e.symm), Lib.alloc_old w1 _ b hlt]
    exact hbk
  have d0 : w2.cell? ⟨b, 0, none⟩ = some (.pointer (some ⟨b, 0, none⟩)) := by rw [Lib.cell_of_heap hb2]; rfl
  have d1 : w2.cell? ⟨b, 1, none⟩ = some v := by rw [Lib.cell_of_heap hb2]; rfl
  have f1 : w2.frozen? ⟨b, 1, none⟩ = false := Lib.frozen_of_heap hb2 1
  obtain ⟨g, cap, rfl⟩ : ∃ g cap, v' = .slice (some ⟨g, 0, none⟩) (bs.length + 1) cap := by
    rcases hown'.2 with ⟨_, h0⟩ | ⟨g, cap, cur, hv, _⟩
    · omega
    · exact ⟨g, cap, hv⟩
  go_wp2
  go_ret
  refine ⟨rfl, ⟨?_, ?_⟩, ?_⟩
  · exact Lib.BuilderAt.put (T := 71) (e := 5) hB hb2 (bs' := bs ++ [.int .u8 c]) (by simpa using hown') (by decide)
  · exact ((hb1.alloc (by have := hb1.size; omega) _).grown hgrow (by have := hb1.size; simp; omega) (fun k hk => (hown.lt k hk).1)).setCell (p := ⟨b, 1, none⟩) hB _
  · exact ((hk1.trans (Keeps.below ((Below.refl _ _).alloc (Nat.le_refl _) _))).trans (Keeps.grown (hown.alloc _) hgrow)).trans (Keeps.setCell hb2 _)

set_option maxHeartbeats 2000000 in
set_option maxRecDepth 100000 in
theorem hb_writeString2 (B b : Nat) (bs : List Value) (s : ByteArray) (w : World) (h : Lib.IsBuilder 71 5 B b bs w) (hlen : bs.length + s.size ≤ 140737488355328) (hBw : B ≤ w.heap.size) :
    Calls Tryd.prog 47 #[.pointer (some ⟨b, 0, none⟩), .string s] w fun e w' => e = .returned (.tuple #[.int .i64 s.size, .nilIface]) ∧ (Lib.BuilderAt 71 5 B b (.pointer (some ⟨b, 0, none⟩)) (bs ++ Lib.strCells s) w' ∧ Below B w w') ∧ Keeps w w' := by
  obtain ⟨i0, hi, hz0, hz1, hz2⟩ := info_parts hb_byte
  go_enter Tryd.func47, Tryd.ntmps47
  go_wp2_with (go_at_call 63; refine (hb_check2 B b bs _ h).mono ?_)
  rintro e w1 ⟨rfl, ⟨h1, hb1⟩, hk1⟩
  obtain ⟨hB, v, hbk, hown, hne⟩ := h1
  have c0 : w1.cell? ⟨b, 0, none⟩ = some (.pointer (some ⟨b, 0, none⟩)) := by rw [Lib.cell_of_heap hbk]; rfl
  have c1 : w1.cell? ⟨b, 1, none⟩ = some v := by rw [Lib.cell_of_heap hbk]; rfl
  go_wp2_with (at_builtin; refine Lib.wpList_append_own_string _ rfl _ _ 69 9 rfl B 5 i0 Tryd.underlying69 Tryd.underlying9 hi hz0 hz1 hz2 _ _ _ rfl hown s rfl ?c3 ?c4 ?c5 ?_)
  case c3 => unfold maxLen; omega
  case c4 => omega
  case c5 => have := hb1.size; omega
  intro v' w2 hown' hgrow _
  have hlt : b < w1.heap.size := by
    rcases Nat.lt_or_ge b w1.heap.size with h' | h'
    · exact h'
    · simp [Array.getElem?_eq_none h'] at hbk
  have hb2 : w2.heap[b]? = some (.cells #[.pointer (some ⟨b, 0, none⟩), v] 71 (0, 0)) := by
    rw [hgrow.block b hlt (fun e => hne e.symm)]
    exact hbk
  have d0 : w2.cell? ⟨b, 0, none⟩ = some (.pointer (some ⟨b, 0, none⟩)) := by rw [Lib.cell_of_heap hb2]; rfl
  have d1 : w2.cell? ⟨b, 1, none⟩ = some v := by rw [Lib.cell_of_heap hb2]; rfl
  have f1 : w2.frozen? ⟨b, 1, none⟩ = false := Lib.frozen_of_heap hb2 1
  obtain ⟨ao, n', cap, rfl⟩ : ∃ ao n' cap, v' = .slice ao n' cap := by
    rcases hown'.2 with ⟨hv, _⟩ | ⟨g, cap, cur, hv, _⟩
    · exact ⟨_, _, _, hv⟩
    · exact ⟨_, _, _, hv⟩
  go_wp2
  go_ret2
  refine ⟨rfl, ⟨?_, ?_⟩, ?_⟩
  · exact Lib.BuilderAt.put (T := 71) (e := 5) hB hb2 (bs' := bs ++ Lib.strCells s) (by simpa [Lib.strCells_length] using hown') (by decide)
  · exact (hb1.grown hgrow (by have := hb1.size; omega) (fun k hk => (hown.lt k hk).1)).setCell (p := ⟨b, 1, none⟩) hB _
  · exact (hk1.trans (Keeps.grown hown hgrow)).trans (Keeps.setCell hb2 _)
end Go.Proofs.YtnllgjloimoebaaDoor.X

/- joiner.name: a row's text. -/
set_option linter.unusedVariables false
set_option linter.unusedSimpArgs false
namespace Go.Proofs.YtnllgjloimoebaaDoor.X
open Go.RowKit Go.Proofs.YtnllgjloimoebaaDoorW.PrintWords Go.Proofs.YtnllgjloimoebaaDoorW.PrintLast Go.Proofs.YtnllgjloimoebaaDoorW.PrintMore

/-- the numbers of a value, and their text, as they are written one by one -/
def numOf (x : S44) : Nat → Int
  | 0 => x.f0
  | 1 => x.f1
  | _ => (x.f2.size : Int)
def preText (x : S44) : Nat → List UInt8
  | 0 => []
  | j + 1 => preText x j ++ Lib.itoa (numOf x j) ++ [32]
theorem preText_all (x : S44) : preText x 3 ++ x.f2.data.toList = vtext x := by
  simp [preText, numOf, vtext]
theorem preText_len (x : S44) (h0 : i64ok x.f0 = true) (h1 : i64ok x.f1 = true) (h2 : x.f2.size ≤ 1099511627776) : ∀ j, j ≤ 3 → (preText x j).length ≤ 21 * j := by
  have a := itoa_len _ h0
  have b := itoa_len _ h1
  have c := itoa_len (x.f2.size : Int) (i64ok_of (by omega) (by omega))
  intro j hj
  match j, hj with
  | 0, _ => simp [preText]
  | 1, _ => simp [preText, numOf]; omega
  | 2, _ => simp [preText, numOf]; omega
  | 3, _ => simp [preText, numOf]; omega
def joiner_name.f (l : List S44) : Option ByteArray := if keyable l then some ⟨(ktext l).toArray⟩ else none
theorem idx84_0 (w : World) (a b c : Int) : (Instr.index 84 (.agg #[.int .i64 a, .int .i64 b, .int .i64 c]) (.int .i64 0)).run Tryd.prog w = .ok (.int .i64 a) w := by
  unfold Instr.index
  go_simp
theorem idx84_1 (w : World) (a b c : Int) : (Instr.index 84 (.agg #[.int .i64 a, .int .i64 b, .int .i64 c]) (.int .i64 1)).run Tryd.prog w = .ok (.int .i64 b) w := by
  unfold Instr.index
  go_simp
theorem idx84_2 (w : World) (a b c : Int) : (Instr.index 84 (.agg #[.int .i64 a, .int .i64 b, .int .i64 c]) (.int .i64 2)).run Tryd.prog w = .ok (.int .i64 c) w := by
  unfold Instr.index
  go_simp
theorem pre_step (t : List UInt8) (x : S44) (j : Nat) : Lib.byteCells (t ++ preText x j) ++ Lib.strCells ⟨(Lib.itoa (numOf x j)).toArray⟩ ++ [.int .u8 32] = Lib.byteCells (t ++ preText x (j + 1)) := by
  show Lib.byteCells (t ++ preText x j) ++ Lib.byteCells (Lib.itoa (numOf x j)) ++ Lib.byteCells [32] = _
  rw [← Lib.byteCells_append, ← Lib.byteCells_append]
  congr 1
  simp [preText]

set_option maxHeartbeats 8000000 in
set_option maxRecDepth 100000 in
theorem joiner_name.calls (A0 : Option Addr) (c0 : Nat) (l0 : List S44) (r : ByteArray) (w : World) (hr0 : Kd.C k44 w A0 l0.length l0) (hc0 : l0.length ≤ c0) (h : joiner_name.f l0 = some r) (htab : Tab w) :
    Calls Tryd.prog 39 #[.slice A0 l0.length c0] w fun e w' => e = .returned (.string r) ∧ Below w.heap.size w w' := by
  unfold joiner_name.f at h
  split at h
  case isFalse => cases h
  rename_i hky
  have h := Option.some.inj h
  have HRES := Aside0.mk h
  have HOK : Aside0 (rowOK l0 = true) := ⟨by unfold keyable at hky; rw [Bool.and_eq_true] at hky; exact hky.1⟩
  have hlen : l0.length ≤ 1099511627776 := (keyable_len hky).2
  have HR0 := Aside0.mk hr0
  have HC0 := Aside0.mk hc0
  have HT := Aside0.mk htab
  clear hr0 hc0 htab h hky
  go_enter Tryd.func39, Tryd.ntmps39
  go_wp2
  have HBF0 : Aside0 (Lib.IsBuilder 71 5 w.heap.size w.heap.size (Lib.byteCells (ktext (l0.take 0))) (w.alloc (.cells #[.pointer none, .slice none 0 0] 71))) := ⟨by
    have := Lib.fresh_isBuilder 71 5 w
    simpa [ktext, Lib.byteCells] using this⟩
  have HB0 : Aside0 (Below w.heap.size w (w.alloc (.cells #[.pointer none, .slice none 0 0] 71))) := ⟨below_alloc (Below.refl _ _) _⟩
  obtain ⟨w1, hw1⟩ : ∃ w1, w1 = w.alloc (.cells #[.pointer none, .slice none 0 0] 71) := ⟨_, rfl⟩
  rw [← hw1] at HBF0 HB0 ⊢
  clear hw1
  go_loopg [10] l0.length (fun n v10 wr => ∃ k : Nat, v10 = .int .i64 k ∧ Aside0 (k + n = l0.length) ∧ Aside0 (Lib.IsBuilder 71 5 w.heap.size w.heap.size (Lib.byteCells (ktext (l0.take k))) wr) ∧ Aside0 (Below w.heap.size w wr))
  case atStart => exact ⟨0, rfl, ⟨Nat.zero_add _⟩, HBF0, HB0⟩
  case round =>
    clear HBF0 HB0
    obtain ⟨k, rfl, HN, HBF, HB⟩ := hrel
    have hn := HN.out
    by_cases hlt : k < l0.length
    · obtain ⟨ad, e, hx0, hx1, hx2⟩ := at_T44 HR0.out k (by omega) (by omega)
      cases e
      have hh : (rd_T44 l0 (k : Int)) = l0.getD k z44 := by unfold rd_T44; rw [Int.toNat_natCast]
      obtain ⟨x, hx⟩ : ∃ x, x = l0.getD k z44 := ⟨_, rfl⟩
      rw [hh, ← hx] at hx0 hx1 hx2
      have hmem : x ∈ l0 := by rw [hx, List.getD_eq_getElem?_getD, List.getElem?_eq_getElem hlt]; simp
      have HX0 := Aside0.mk (((rowOK_of HOK.out).2 x hmem).1)
      have HX1 := Aside0.mk (((rowOK_of HOK.out).2 x hmem).2.1)
      have HX2 := Aside0.mk (((rowOK_of HOK.out).2 x hmem).2.2)
      have HXS : Aside0 (i64ok (x.f2.size : Int) = true) := ⟨by have := HX2.out; exact i64ok_of (by omega) (by omega)⟩
      have HPL0 := Aside0.mk (preText_len x HX0.out HX1.out HX2.out 0 (by omega))
      have HPL1 := Aside0.mk (preText_len x HX0.out HX1.out HX2.out 1 (by omega))
      have HPL2 := Aside0.mk (preText_len x HX0.out HX1.out HX2.out 2 (by omega))
      have HPL3 := Aside0.mk (preText_len x HX0.out HX1.out HX2.out 3 (by omega))
      have HLEN : Aside0 ((ktext (l0.take k)).length ≤ 1099511627776) := ⟨by
        have h1 := ktext_len (l0.take k) (fun y hy => (rowOK_of HOK.out).2 y (List.mem_of_mem_take hy))
        have h2 := rowSize_take l0 k
        have h3 := (rowOK_of HOK.out).1
        omega⟩
      have HNX : Aside0 (ktext (l0.take (k + 1)) = ktext (l0.take k) ++ preText x 3 ++ x.f2.data.toList) := ⟨by
        rw [List.append_assoc, preText_all, List.take_succ_eq_append_getElem hlt]
        unfold ktext
        rw [List.flatMap_append]
        congr 1
        simp only [List.flatMap_cons, List.flatMap_nil, List.append_nil]
        rw [hx, List.getD_eq_getElem?_getD, List.getElem?_eq_getElem hlt]
        rfl⟩
      clear hh hx hmem
      replace hx0 := (HB.out.cell (World.block_lt_of_cell? w _ hx0)).trans hx0
      replace hx1 := (HB.out.cell (World.block_lt_of_cell? w _ hx1)).trans hx1
      replace hx2 := (HB.out.cell (World.block_lt_of_cell? w _ hx2)).trans hx2
      rw [Int.toNat_natCast] at hx0 hx1 hx2
      have hkl : (k : Int) < (l0.length : Int) := by omega
      have hl2 : (l0.length : Int) ≤ 1099511627776 := by omega
      clear hn
      go_wp2
      obtain ⟨g, hg⟩ : ∃ g, g = wr.heap.size := ⟨_, rfl⟩
      obtain ⟨W, hW⟩ : ∃ W, W = wr.alloc (.cells #[.int .i64 x.f0, .int .i64 x.f1, .string x.f2] 44) := ⟨_, rfl⟩
      have HBX : Aside0 (W.heap[g]? = some (.cells #[.int .i64 x.f0, .int .i64 x.f1, .string x.f2] 44 (0, 0))) := ⟨by rw [hW, hg]; exact blk_new wr _⟩
      have HBF1 : Aside0 (Lib.IsBuilder 71 5 w.heap.size w.heap.size (Lib.byteCells (ktext (l0.take k) ++ preText x 0)) W) := ⟨by
        rw [show preText x 0 = [] from rfl, List.append_nil, hW]
        exact isBuilder_below HBF.out (below_alloc (Below.refl _ _) _)⟩
      have HB1 : Aside0 (Below w.heap.size w W) := ⟨by rw [hW]; exact below_alloc HB.out _⟩
      rw [← hW, ← hg]
      clear hW hg HBF HB hx0 hx1 hx2
      go_loopg [22] 3 (fun m v22 wi => ∃ j : Nat, v22 = .int .i64 j ∧ Aside0 (j + m = 3) ∧ Aside0 (Lib.IsBuilder 71 5 w.heap.size w.heap.size (Lib.byteCells (ktext (l0.take k) ++ preText x j)) wi) ∧ Aside0 (wi.heap[g]? = some (.cells #[.int .i64 x.f0, .int .i64 x.f1, .string x.f2] 44 (0, 0))) ∧ Aside0 (Below w.heap.size w wi))
      case atStart => exact ⟨0, rfl, ⟨Nat.zero_add _⟩, HBF1, HBX, HB1⟩
      case round =>
        clear HBF1 HBX HB1
        obtain ⟨j, rfl, HM, HBF, HBX, HB⟩ := hrel
        have hm := HM.out
        rcases (by omega : j = 0 ∨ j = 1 ∨ j = 2 ∨ j = 3) with hj | hj | hj | hj
        · subst hj
          have hix := idx84_0
          go_wp2_with (first | (go_at_call 48; refine (itoa_calls x.f0 HX0.out _ (tab_of HT.out HB.out)).mono ?_; rintro e wa ⟨rfl, hb⟩; have n0_ := Aside0.mk (isBuilder_below HBF.out hb); have n1_ := Aside0.mk (blk_below HBX.out hb); have n2_ := Aside0.mk (below_step HB.out hb); clear HBF HBX HB; have HBF := n0_; have HBX := n1_; have HB := n2_; clear n0_ n1_ n2_; clear hb) | (go_at_call 47; refine (hb_writeString2 w.heap.size w.heap.size _ ⟨(Lib.itoa x.f0).toArray⟩ _ HBF.out (by have h1_ := HLEN.out; have h2_ := HPL0.out; have h3_ := itoa_len _ HX0.out; show (Lib.byteCells _).length + (Lib.itoa x.f0).toArray.size ≤ _; rw [Lib.byteCells, List.length_map, List.length_append, List.size_toArray]; omega) (below_size HB.out)).mono ?_; rintro e wb ⟨rfl, ⟨hbl, hb⟩, hk⟩; have n0_ := Aside0.mk (show Lib.IsBuilder 71 5 w.heap.size w.heap.size _ wb from .inr hbl); have n1_ := Aside0.mk (hk g _ 44 (by decide) (by decide) HBX.out); have n2_ := Aside0.mk (HB.out.trans hb); clear HBF HBX HB; have HBF := n0_; have HBX := n1_; have HB := n2_; clear n0_ n1_ n2_; clear hbl hb hk) | (go_at_call 57; refine (hb_writeByte2 w.heap.size w.heap.size _ 32 _ HBF.out (by have h1_ := HLEN.out; have h2_ := HPL0.out; have h3_ := itoa_len _ HX0.out; rw [List.length_append, Lib.byteCells, List.length_map, List.length_append]; show _ + (Lib.byteCells (Lib.itoa x.f0)).length + 1 ≤ _; rw [Lib.byteCells, List.length_map]; omega) (below_size HB.out)).mono ?_; rintro e wc ⟨rfl, ⟨hbl, hb⟩, hk⟩; have n0_ := Aside0.mk (show Lib.IsBuilder 71 5 w.heap.size w.heap.size _ wc from .inr hbl); have n1_ := Aside0.mk (hk g _ 44 (by decide) (by decide) HBX.out); have n2_ := Aside0.mk (HB.out.trans hb); clear HBF HBX HB; have HBF := n0_; have HBX := n1_; have HB := n2_; clear n0_ n1_ n2_; clear hbl hb hk))
          go_roundg (3 - (0 + 1))
          case measure => have := HM.out; omega
          case rel => exact ⟨0 + 1, (by first | rfl | (simp; done) | (simp [*]; done)), ⟨by have := HM.out; omega⟩, ⟨by rw [← pre_step]; exact HBF.out⟩, HBX, HB⟩
        · subst hj
          have hix := idx84_1
          go_wp2_with (first | (go_at_call 48; refine (itoa_calls x.f1 HX1.out _ (tab_of HT.out HB.out)).mono ?_; rintro e wa ⟨rfl, hb⟩; have n0_ := Aside0.mk (isBuilder_below HBF.out hb); have n1_ := Aside0.mk (blk_below HBX.out hb); have n2_ := Aside0.mk (below_step HB.out hb); clear HBF HBX HB; have HBF := n0_; have HBX := n1_; have HB := n2_; clear n0_ n1_ n2_; clear hb) | (go_at_call 47; refine (hb_writeString2 w.heap.size w.heap.size _ ⟨(Lib.itoa x.f1).toArray⟩ _ HBF.out (by have h1_ := HLEN.out; have h2_ := HPL1.out; have h3_ := itoa_len _ HX1.out; show (Lib.byteCells _).length + (Lib.itoa x.f1).toArray.size ≤ _; rw [Lib.byteCells, List.length_map, List.length_append, List.size_toArray]; omega) (below_size HB.out)).mono ?_; rintro e wb ⟨rfl, ⟨hbl, hb⟩, hk⟩; have n0_ := Aside0.mk (show Lib.IsBuilder 71 5 w.heap.size w.heap.size _ wb from .inr hbl); have n1_ := Aside0.mk (hk g _ 44 (by decide) (by decide) HBX.out); have n2_ := Aside0.mk (HB.out.trans hb); clear HBF HBX HB; have HBF := n0_; have HBX := n1_; have HB := n2_; clear n0_ n1_ n2_; clear hbl hb hk) | (go_at_call 57; refine (hb_writeByte2 w.heap.size w.heap.size _ 32 _ HBF.out (by have h1_ := HLEN.out; have h2_ := HPL1.out; have h3_ := itoa_len _ HX1.out; rw [List.length_append, Lib.byteCells, List.length_map, List.length_append]; show _ + (Lib.byteCells (Lib.itoa x.f1)).length + 1 ≤ _; rw [Lib.byteCells, List.length_map]; omega) (below_size HB.out)).mono ?_; rintro e wc ⟨rfl, ⟨hbl, hb⟩, hk⟩; have n0_ := Aside0.mk (show Lib.IsBuilder 71 5 w.heap.size w.heap.size _ wc from .inr hbl); have n1_ := Aside0.mk (hk g _ 44 (by decide) (by decide) HBX.out); have n2_ := Aside0.mk (HB.out.trans hb); clear HBF HBX HB; have HBF := n0_; have HBX := n1_; have HB := n2_; clear n0_ n1_ n2_; clear hbl hb hk))
          go_roundg (3 - (1 + 1))
          case measure => have := HM.out; omega
          case rel => exact ⟨1 + 1, (by first | rfl | (simp; done) | (simp [*]; done)), ⟨by have := HM.out; omega⟩, ⟨by rw [← pre_step]; exact HBF.out⟩, HBX, HB⟩
        · subst hj
          have hix := idx84_2
          go_wp2_with (first | (go_at_call 48; refine (itoa_calls (x.f2.size : Int) HXS.out _ (tab_of HT.out HB.out)).mono ?_; rintro e wa ⟨rfl, hb⟩; have n0_ := Aside0.mk (isBuilder_below HBF.out hb); have n1_ := Aside0.mk (blk_below HBX.out hb); have n2_ := Aside0.mk (below_step HB.out hb); clear HBF HBX HB; have HBF := n0_; have HBX := n1_; have HB := n2_; clear n0_ n1_ n2_; clear hb) | (go_at_call 47; refine (hb_writeString2 w.heap.size w.heap.size _ ⟨(Lib.itoa (x.f2.size : Int)).toArray⟩ _ HBF.out (by have h1_ := HLEN.out; have h2_ := HPL2.out; have h3_ := itoa_len _ HXS.out; show (Lib.byteCells _).length + (Lib.itoa (x.f2.size : Int)).toArray.size ≤ _; rw [Lib.byteCells, List.length_map, List.length_append, List.size_toArray]; omega) (below_size HB.out)).mono ?_; rintro e wb ⟨rfl, ⟨hbl, hb⟩, hk⟩; have n0_ := Aside0.mk (show Lib.IsBuilder 71 5 w.heap.size w.heap.size _ wb from .inr hbl); have n1_ := Aside0.mk (hk g _ 44 (by decide) (by decide) HBX.out); have n2_ := Aside0.mk (HB.out.trans hb); clear HBF HBX HB; have HBF := n0_; have HBX := n1_; have HB := n2_; clear n0_ n1_ n2_; clear hbl hb hk) | (go_at_call 57; refine (hb_writeByte2 w.heap.size w.heap.size _ 32 _ HBF.out (by have h1_ := HLEN.out; have h2_ := HPL2.out; have h3_ := itoa_len _ HXS.out; rw [List.length_append, Lib.byteCells, List.length_map, List.length_append]; show _ + (Lib.byteCells (Lib.itoa (x.f2.size : Int))).length + 1 ≤ _; rw [Lib.byteCells, List.length_map]; omega) (below_size HB.out)).mono ?_; rintro e wc ⟨rfl, ⟨hbl, hb⟩, hk⟩; have n0_ := Aside0.mk (show Lib.IsBuilder 71 5 w.heap.size w.heap.size _ wc from .inr hbl); have n1_ := Aside0.mk (hk g _ 44 (by decide) (by decide) HBX.out); have n2_ := Aside0.mk (HB.out.trans hb); clear HBF HBX HB; have HBF := n0_; have HBX := n1_; have HB := n2_; clear n0_ n1_ n2_; clear hbl hb hk))
          go_roundg (3 - (2 + 1))
          case measure => have := HM.out; omega
          case rel => exact ⟨2 + 1, (by first | rfl | (simp; done) | (simp [*]; done)), ⟨by have := HM.out; omega⟩, ⟨by rw [← pre_step]; exact HBF.out⟩, HBX, HB⟩
        · subst hj
          have hc2 : wr.cell? ⟨g, 2, none⟩ = some (.string x.f2) := (blk_cell HBX.out 2).trans rfl
          go_wp2_with (go_at_call 47; refine (hb_writeString2 w.heap.size w.heap.size _ x.f2 _ HBF.out (by have h1_ := HLEN.out; have h2_ := HPL3.out; have h3_ := HX2.out; rw [Lib.byteCells, List.length_map, List.length_append]; omega) (below_size HB.out)).mono ?_; rintro e wb ⟨rfl, ⟨hbl, hb⟩, hk⟩; have n0_ := Aside0.mk (show Lib.IsBuilder 71 5 w.heap.size w.heap.size _ wb from .inr hbl); have n1_ := Aside0.mk (HB.out.trans hb); clear HBF HB; have HBF := n0_; have HB := n1_; clear n0_ n1_; clear hc2 hbl hb hk)
          go_roundg (l0.length - (k + 1))
          case measure => have := HN.out; omega
          case rel => exact ⟨k + 1, (by first | rfl | (simp; done) | (simp [*]; done)), ⟨by have := HN.out; omega⟩, ⟨by rw [HNX.out, Lib.byteCells_append]; exact HBF.out⟩, HB⟩
    · obtain rfl : k = l0.length := by omega
      rw [List.take_length] at HBF
      have hkl : ¬ ((l0.length : Int) < (l0.length : Int)) := by omega
      have hkb : decide ((l0.length : Int) < (l0.length : Int)) = false := decide_eq_false hkl
      clear hkl hn
      go_wp2_with (go_at_call 49; refine (Tryd.Builder_String_any w.heap.size w.heap.size (ktext l0) wr HBF.out (below_size HB.out)).mono ?_; rintro e w2 ⟨rfl, hb⟩)
      go_ret
      exact ⟨by rw [← HRES.out]; rfl, HB.out.trans hb⟩
end Go.Proofs.YtnllgjloimoebaaDoor.X

/- joiner.Hash: the right ones in a map by their texts. -/
set_option linter.unusedVariables false
set_option linter.unusedSimpArgs false
namespace Go.Proofs.YtnllgjloimoebaaDoor.X
open Go.RowKit Go.Maps Go.Proofs.YtnllgjloimoebaaDoorW.PrintWords Go.Proofs.YtnllgjloimoebaaDoorW.PrintLast Go.Proofs.YtnllgjloimoebaaDoorW.PrintMore

def wholeP (r : List S44) : Bool := r.all fun x => !nullV x
/-- the places of the first k rows that have no null, by their texts -/
def hashF (l : List (List S44)) : Nat → List UInt8 → List Int
  | 0 => fun _ => []
  | k + 1 => fun t => if wholeP (l.getD k []) = true ∧ t = ktext (l.getD k []) then hashF l k t ++ [(k : Int)] else hashF l k t
theorem hashF_len (l : List (List S44)) : ∀ k t, (hashF l k t).length ≤ k
  | 0, t => by simp [hashF]
  | k + 1, t => by
    have := hashF_len l k t
    unfold hashF
    split
    · simp; omega
    · omega
/-- the pairs of the first k rows -/
def hashP (l r : List (List S44)) : Nat → List S40
  | 0 => []
  | k + 1 => if wholeP (l.getD k []) then hashP l r k ++ (hashF r r.length (ktext (l.getD k []))).map (fun j => ⟨(k : Int), j⟩) else hashP l r k
theorem hashP_len (l r : List (List S44)) : ∀ k, (hashP l r k).length ≤ k * r.length
  | 0 => by simp [hashP]
  | k + 1 => by
    have := hashP_len l r k
    have := hashF_len r r.length (ktext (l.getD k []))
    unfold hashP
    rw [Nat.succ_mul]
    split
    · rw [List.length_append, List.length_map]; omega
    · omega
def joiner_Hash.f (l r : List (List S44)) : Option (List S40) := if (l.all keyable && r.all keyable) && (decide (l.length ≤ 1048576) && decide (r.length ≤ 1048576)) then some (hashP l r l.length) else none

set_option maxHeartbeats 16000000 in
set_option maxRecDepth 100000 in
theorem joiner_Hash.calls (A0 : Option Addr) (c0 : Nat) (l0 : List (List (S44))) (A1 : Option Addr) (c1 : Nat) (l1 : List (List (S44))) (res : List S40) (w : World) (hr0 : Kd.C (Kd.slice 44 k44) w A0 l0.length l0) (hc0 : l0.length ≤ c0) (hr1 : Kd.C (Kd.slice 44 k44) w A1 l1.length l1) (hc1 : l1.length ≤ c1) (h : joiner_Hash.f l0 l1 = some res) (htab : Tab w) :
    Calls Tryd.prog 23 #[.slice A0 l0.length c0, .slice A1 l1.length c1] w fun e w' => ∃ v0_ : Value, e = .returned (v0_) ∧ Kd.R k40 40 w' w.heap.size (fun _ => True) v0_ res ∧ Below w.heap.size w w' := by
  have HR0 := Aside0.mk hr0
  have HC0 := Aside0.mk hc0
  have HR1 := Aside0.mk hr1
  have HC1 := Aside0.mk hc1
  have HT := Aside0.mk htab
  clear hr0 hc0 hr1 hc1 htab
  unfold joiner_Hash.f at h
  split at h
  case isFalse => cases h
  rename_i hall
  rw [Bool.and_eq_true, Bool.and_eq_true, Bool.and_eq_true, decide_eq_true_eq, decide_eq_true_eq, List.all_eq_true, List.all_eq_true] at hall
  have HALL0 : Aside0 ((∀ x, x ∈ l0 → keyable x = true) ∧ l0.length ≤ 1048576) := ⟨⟨hall.1.1, hall.2.1⟩⟩
  have HALL1 : Aside0 ((∀ x, x ∈ l1 → keyable x = true) ∧ l1.length ≤ 1048576) := ⟨⟨hall.1.2, hall.2.2⟩⟩
  clear hall
  have h := Option.some.inj h
  have HRES := Aside0.mk h
  clear h
  have hmm := @run_makeMap Tryd.prog
  go_enter Tryd.func23, Tryd.ntmps23
  go_wp2
  have HM0 : Aside0 (MapS (w.alloc (.map #[] 0)) w.heap.size.succ w.heap.size 0 (hashF l1 0)) := ⟨MapS_made w⟩
  have HB0 : Aside0 (Below w.heap.size w (w.alloc (.map #[] 0))) := ⟨below_alloc (Below.refl _ _) _⟩
  obtain ⟨w1, hw1⟩ : ∃ w1, w1 = w.alloc (.map #[] 0) := ⟨_, rfl⟩
  rw [← hw1] at HM0 HB0 ⊢
  clear hw1
  go_loopg [15] l1.length (fun n v15 wr => ∃ k : Nat, v15 = .int .i64 k ∧ Aside0 (k + n = l1.length) ∧ Aside0 (MapS wr w.heap.size.succ w.heap.size k (hashF l1 k)) ∧ Aside0 (Below w.heap.size w wr))
  case atStart => exact ⟨0, rfl, ⟨Nat.zero_add _⟩, HM0, HB0⟩
  case round =>
    clear HM0 HB0
    obtain ⟨k, rfl, HN, HM, HB⟩ := hrel
    have hn := HN.out
    by_cases hlt : k < l1.length
    · obtain ⟨ad, Ar, cr, e, hx0, hl0, hi0⟩ := at_L4 HR1.out k (by omega) (by omega)
      cases e
      obtain ⟨r, hr⟩ : ∃ r, r = l1.getD k [] := ⟨_, rfl⟩
      have hh : (rd_L4 l1 (k : Int)) = l1.getD k [] := by unfold rd_L4; rw [Int.toNat_natCast]
      rw [hh, ← hr] at hx0 hl0 hi0
      have hmem : r ∈ l1 := by rw [hr, List.getD_eq_getElem?_getD, List.getElem?_eq_getElem hlt]; simp
      have HKY : Aside0 (keyable r = true) := ⟨HALL1.out.1 r hmem⟩
      have HR := Aside0.mk hr
      clear hr hh hmem
      rw [Int.toNat_natCast] at hx0
      replace hx0 := (HB.out.cell (World.block_lt_of_cell? w _ hx0)).trans hx0
      have HI := Aside0.mk hi0
      have HCC := Aside0.mk hl0
      clear hi0 hl0
      have hkl : (k : Int) < (l1.length : Int) := by omega
      have hl2 : (l1.length : Int) ≤ 1099511627776 := by have := HALL1.out.2; omega
      have hrl : r.length ≤ 1099511627776 := (keyable_len HKY.out).2
      have HTX : Aside0 ((⟨(ktext r).toArray⟩ : ByteArray).size ≤ maxLen) := ⟨by have := (keyable_len HKY.out).1; show (ktext r).toArray.size ≤ maxLen; unfold maxLen; rw [List.size_toArray]; omega⟩
      clear hn
      obtain ⟨f, hf⟩ : ∃ f, f = hashF l1 k := ⟨_, rfl⟩
      rw [← hf] at HM
      have HNX : Aside0 (hashF l1 (k + 1) = fun t => if wholeP r = true ∧ t = ktext r then f t ++ [(k : Int)] else f t) := ⟨by rw [hf, HR.out]; rfl⟩
      clear hf
      cases hbw : (r.all fun x => !nullV x) with
      | false =>
        go_wp2_with (first | (go_at_call 38; refine (joiner_whole.calls Ar cr r false _ (Kd.C_below HI.out HB.out) HCC.out (by unfold joiner_whole.f; rw [if_pos hrl, hbw])).mono ?_; rintro e w2 ⟨rfl, hb⟩; have n0_ := Aside0.mk (MapS_below HM.out hb); have n1_ := Aside0.mk (below_step HB.out hb); clear HM HB; have HM := n0_; have HB := n1_; clear n0_ n1_; clear hx0 hb))
        go_roundg (l1.length - (k + 1))
        case measure => have := HN.out; omega
        case rel => exact ⟨k + 1, (by first | rfl | (simp; done) | (simp [*]; done)), ⟨by have := HN.out; omega⟩, ⟨by
          rw [HNX.out]
          have e : (fun t => if wholeP r = true ∧ t = ktext r then f t ++ [(k : Int)] else f t) = f := by
            funext t
            rw [if_neg (fun h => by have h1 := h.1; unfold wholeP at h1; rw [hbw] at h1; cases h1)]
          rw [e]
          exact MapS_mono HM.out (Nat.le_succ _)⟩, HB⟩
      | true =>
        go_wp2_with (first | (go_at_call 38; refine (joiner_whole.calls Ar cr r true _ (Kd.C_below HI.out HB.out) HCC.out (by unfold joiner_whole.f; rw [if_pos hrl, hbw])).mono ?_; rintro e w2 ⟨rfl, hb⟩; have hx0b := (hb.cell (World.block_lt_of_cell? _ _ hx0)).trans hx0; clear hx0; have hx0 := hx0b; clear hx0b; have n0_ := Aside0.mk (MapS_below HM.out hb); have n1_ := Aside0.mk (below_step HB.out hb); clear HM HB; have HM := n0_; have HB := n1_; clear n0_ n1_; clear hb) | (go_at_call 39; refine (joiner_name.calls Ar cr r ⟨(ktext r).toArray⟩ _ (Kd.C_below HI.out HB.out) HCC.out (by unfold joiner_name.f; rw [if_pos HKY.out]) (tab_of HT.out HB.out)).mono ?_; rintro e w3 ⟨rfl, hb⟩; have n0_ := Aside0.mk (MapS_below HM.out hb); have n1_ := Aside0.mk (below_step HB.out hb); clear HM HB; have HM := n0_; have HB := n1_; clear n0_ n1_; clear hx0 hb) | (at_lookup; refine wp_lookS _ rfl _ _ rfl w.heap.size.succ w.heap.size k f ⟨(ktext r).toArray⟩ HTX.out (by unfold maxLen; omega) rfl HM.out rfl ?_; intro v hoi hzl hback; have HHB := Aside0.mk hback; have HV : Aside0 (Kd.R (Kd.int .i64) 3 w3 w.heap.size.succ (fun _ => True) v (f (ktext r))) := ⟨ints_R hoi (fun _ _ => trivial)⟩; have HZ : Aside0 (∀ z ∈ f (ktext r), i64ok z = true) := ⟨fun z hz => hoi.2 z hz⟩; have HZL : Aside0 ((f (ktext r)).length ≤ k) := ⟨hzl⟩; clear hback hoi hzl; obtain ⟨zs, hzs⟩ : ∃ zs, zs = f (ktext r) := ⟨_, rfl⟩; rw [← hzs] at HV HZ HZL; obtain ⟨Av, cv, ev⟩ := Kd.R_slice HV.out; subst ev; have HSZ : Aside0 (w.heap.size.succ ≤ w3.heap.size) := ⟨MapS_lt HM.out⟩; have HZS := Aside0.mk hzs; clear hzs) | ((with_reducible refine gate_builtin (b := .append) (xs := #[.tmp 32, .tmp 34]) rfl ?_); at_builtin; refine Kd.R_append (Kd.int .i64) (w0 := w3) w.heap.size.succ rfl (.tmp 32) (.tmp 34) 30 3 (.int .i64 0) 8 rfl Tryd.underlying30 info3 rfl (by decide) (by omega) (.slice Av zs.length cv) zs (k : Int) [.int .i64 k] (fun _ => True) (fun _ => False) rfl rfl ?aP (fun _ hk => hk.elim) ?aF ?aO ?aB ?aS ?aL ?_; (case aP => exact rfl); (case aF => exact (fun _ _ => trivial)); (case aO => exact HV.out); (case aB => exact Below.refl _ _); (case aS => exact HSZ.out); (case aL => have := HZL.out; omega); intro v4 w4 ho hb hg hat; have HAT := Aside0.mk hat; have HGR := Aside0.mk hg; have HO4 := Aside0.mk ho; clear hat ho hb hg) | (at_mapUpdate; refine wp_putS _ rfl _ _ _ rfl w.heap.size ⟨(ktext r).toArray⟩ v4 _ rfl rfl rfl (HHB.out w4 v4 (zs ++ [(k : Int)]) (by simp) HGR.out (R_ints HO4.out (fun z hz => (List.mem_append.1 hz).elim (fun h => HZ.out z h) (fun h => by rw [List.mem_singleton.1 h]; exact i64ok_of (by omega) (by omega)))) (by rw [List.length_append, List.length_singleton]; have := HZL.out; omega) HAT.out) ?_; intro w5 hm5 hg5; have n0_ := Aside0.mk (hm5); have n1_ := Aside0.mk (pw_below_grown (pw_below_grown HB.out _ (below_size HB.out) HGR.out (fun j hj => Nat.le_trans (Nat.le_succ _) (Kd.R_base HV.out j hj))) (some w.heap.size) (Nat.le_trans (below_size HB.out) HGR.out.size) hg5 (fun j hj => by cases hj; exact Nat.le_refl _)); clear HM HB; have HM := n0_; have HB := n1_; clear n0_ n1_; clear hm5 hg5 HHB HV HGR HO4 HAT HSZ))
        go_roundg (l1.length - (k + 1))
        case measure => have := HN.out; omega
        case rel => exact ⟨k + 1, (by first | rfl | (simp; done) | (simp [*]; done)), ⟨by have := HN.out; omega⟩, ⟨by
          rw [HNX.out]
          have e : (fun t => if wholeP r = true ∧ t = ktext r then f t ++ [(k : Int)] else f t) = (fun t => if t = ktext r then zs ++ [(k : Int)] else f t) := by
            funext t
            by_cases ht : t = ktext r
            · rw [if_pos ⟨hbw, ht⟩, if_pos ht, ht, HZS.out]
            · rw [if_neg (fun h => ht h.2), if_neg ht]
          rw [e]
          exact HM.out⟩, HB⟩
    · have hkk : k = l1.length := by omega
      subst hkk
      have hkl : ¬ ((l1.length : Int) < (l1.length : Int)) := by omega
      have hkb : decide ((l1.length : Int) < (l1.length : Int)) = false := decide_eq_false hkl
      clear hkl hn hlt
      go_wp2
      obtain ⟨F, hF⟩ : ∃ F, F = hashF l1 l1.length := ⟨_, rfl⟩
      rw [← hF] at HM
      have HFF := Aside0.mk hF
      have HFL : Aside0 (∀ t, (F t).length ≤ l1.length) := ⟨fun t => by rw [hF]; exact hashF_len l1 l1.length t⟩
      clear hF
      go_loopg [8, 39] l0.length (fun n v8 v39 wr => ∃ k : Nat, v39 = .int .i64 k ∧ Aside0 (k + n = l0.length) ∧ Aside0 (MapS wr w.heap.size.succ w.heap.size l1.length F) ∧ Aside0 (Kd.R k40 40 wr w.heap.size (fun j => j ≠ w.heap.size) v8 (hashP l0 l1 k)) ∧ Aside0 (Below w.heap.size w wr))
      case atStart => exact ⟨0, rfl, ⟨Nat.zero_add _⟩, HM, ⟨Kd.R_nil _ _ _ _ _⟩, HB⟩
      case round =>
        clear HM HB
        obtain ⟨k, rfl, HN, HM, HO, HB⟩ := hrel
        have hn := HN.out
        by_cases hlt : k < l0.length
        · obtain ⟨ad, Ar, cr, e, hx0, hl0, hi0⟩ := at_L4 HR0.out k (by omega) (by omega)
          cases e
          obtain ⟨r, hr⟩ : ∃ r, r = l0.getD k [] := ⟨_, rfl⟩
          have hh : (rd_L4 l0 (k : Int)) = l0.getD k [] := by unfold rd_L4; rw [Int.toNat_natCast]
          rw [hh, ← hr] at hx0 hl0 hi0
          have hmem : r ∈ l0 := by rw [hr, List.getD_eq_getElem?_getD, List.getElem?_eq_getElem hlt]; simp
          have HKY : Aside0 (keyable r = true) := ⟨HALL0.out.1 r hmem⟩
          have HR := Aside0.mk hr
          clear hr hh hmem
          rw [Int.toNat_natCast] at hx0
          replace hx0 := (HB.out.cell (World.block_lt_of_cell? w _ hx0)).trans hx0
          have HI := Aside0.mk hi0
          have HCC := Aside0.mk hl0
          clear hi0 hl0
          have hkl : (k : Int) < (l0.length : Int) := by omega
          have hl2 : (l0.length : Int) ≤ 1099511627776 := by have := HALL0.out.2; omega
          have hrl : r.length ≤ 1099511627776 := (keyable_len HKY.out).2
          have HTX : Aside0 ((⟨(ktext r).toArray⟩ : ByteArray).size ≤ maxLen) := ⟨by have := (keyable_len HKY.out).1; show (ktext r).toArray.size ≤ maxLen; unfold maxLen; rw [List.size_toArray]; omega⟩
          clear hn
          have HXL : Aside0 ((hashP l0 l1 k).length + l1.length ≤ 2000000000000) := ⟨by
            have h1 := hashP_len l0 l1 k
            have h2 : k * l1.length ≤ 1048576 * 1048576 := Nat.mul_le_mul (by have := HALL0.out.2; omega) HALL1.out.2
            have := HALL1.out.2
            omega⟩
          obtain ⟨xs, hxs⟩ : ∃ xs, xs = hashP l0 l1 k := ⟨_, rfl⟩
          rw [← hxs] at HO HXL
          have HNX : Aside0 (hashP l0 l1 (k + 1) = if wholeP r then xs ++ (F (ktext r)).map (fun j => (⟨(k : Int), j⟩ : S40)) else xs) := ⟨by rw [hxs, HFF.out, HR.out]; rfl⟩
          clear hxs
          cases hbw : (r.all fun x => !nullV x) with
          | false =>
            go_wp2_with (first | (go_at_call 38; refine (joiner_whole.calls Ar cr r false _ (Kd.C_below HI.out HB.out) HCC.out (by unfold joiner_whole.f; rw [if_pos hrl, hbw])).mono ?_; rintro e w2 ⟨rfl, hb⟩; have n0_ := Aside0.mk (Kd.R_below HO.out hb); have n1_ := Aside0.mk (MapS_below HM.out hb); have n2_ := Aside0.mk (below_step HB.out hb); clear HO HM HB; have HO := n0_; have HM := n1_; have HB := n2_; clear n0_ n1_ n2_; clear hx0 hb))
            go_roundg (l0.length - (k + 1))
            case measure => have := HN.out; omega
            case rel => exact ⟨k + 1, (by first | rfl | (simp; done) | (simp [*]; done)), ⟨by have := HN.out; omega⟩, HM, ⟨by rw [HNX.out, if_neg (by unfold wholeP; rw [hbw]; simp)]; exact HO.out⟩, HB⟩
          | true =>
            have HNX2 : Aside0 (hashP l0 l1 (k + 1) = xs ++ (F (ktext r)).map (fun j => (⟨(k : Int), j⟩ : S40))) := ⟨by rw [HNX.out, if_pos (show wholeP r = true from hbw)]⟩
            go_wp2_with (first | (go_at_call 38; refine (joiner_whole.calls Ar cr r true _ (Kd.C_below HI.out HB.out) HCC.out (by unfold joiner_whole.f; rw [if_pos hrl, hbw])).mono ?_; rintro e w2 ⟨rfl, hb⟩; have hx0b := (hb.cell (World.block_lt_of_cell? _ _ hx0)).trans hx0; clear hx0; have hx0 := hx0b; clear hx0b; have n0_ := Aside0.mk (Kd.R_below HO.out hb); have n1_ := Aside0.mk (MapS_below HM.out hb); have n2_ := Aside0.mk (below_step HB.out hb); clear HO HM HB; have HO := n0_; have HM := n1_; have HB := n2_; clear n0_ n1_ n2_; clear hb) | (go_at_call 39; refine (joiner_name.calls Ar cr r ⟨(ktext r).toArray⟩ _ (Kd.C_below HI.out HB.out) HCC.out (by unfold joiner_name.f; rw [if_pos HKY.out]) (tab_of HT.out HB.out)).mono ?_; rintro e w3 ⟨rfl, hb⟩; have n0_ := Aside0.mk (Kd.R_below HO.out hb); have n1_ := Aside0.mk (MapS_below HM.out hb); have n2_ := Aside0.mk (below_step HB.out hb); clear HO HM HB; have HO := n0_; have HM := n1_; have HB := n2_; clear n0_ n1_ n2_; clear hx0 hb) | (at_lookup; refine wp_lookS _ rfl _ _ rfl w.heap.size.succ w.heap.size l1.length F ⟨(ktext r).toArray⟩ HTX.out (by have := HALL1.out.2; unfold maxLen; omega) rfl HM.out rfl ?_; intro v hoi hzl hback; have HV : Aside0 (Kd.R (Kd.int .i64) 3 w3 w.heap.size.succ (fun _ => True) v (F (ktext r))) := ⟨ints_R hoi (fun _ _ => trivial)⟩; clear hback hoi hzl; obtain ⟨zs, hzs⟩ : ∃ zs, zs = F (ktext r) := ⟨_, rfl⟩; have HZL : Aside0 (zs.length ≤ l1.length) := ⟨by rw [hzs]; exact HFL.out _⟩; rw [← hzs] at HV HNX2; obtain ⟨Av, cv, ev⟩ := Kd.R_slice HV.out; subst ev; have HZS := Aside0.mk hzs; clear hzs))
            obtain ⟨ys0, hys0⟩ : ∃ ys0, ys0 = xs ++ (zs.take 0).map (fun j => (⟨(k : Int), j⟩ : S40)) := ⟨_, rfl⟩
            have HO1 : Aside0 (Kd.R k40 40 w3 w.heap.size (fun j => j ≠ w.heap.size) u8 (xs ++ (zs.take 0).map (fun j => (⟨(k : Int), j⟩ : S40)))) := ⟨by simpa using HO.out⟩
            clear HO hys0 ys0
            go_loopg [8, 56] zs.length (fun m v8 v56 wi => ∃ j : Nat, v56 = .int .i64 j ∧ Aside0 (j + m = zs.length) ∧ Aside0 (MapS wi w.heap.size.succ w.heap.size l1.length F) ∧ Aside0 (Kd.R k40 40 wi w.heap.size (fun j => j ≠ w.heap.size) v8 (xs ++ (zs.take j).map (fun j => (⟨(k : Int), j⟩ : S40)))) ∧ Aside0 (Kd.R (Kd.int .i64) 3 wi w.heap.size.succ (fun _ => True) (.slice Av zs.length cv) zs) ∧ Aside0 (Below w.heap.size w wi))
            case atStart => exact ⟨0, rfl, ⟨Nat.zero_add _⟩, HM, HO1, HV, HB⟩
            case round =>
              clear HM HO1 HV HB
              obtain ⟨j, rfl, HJ, HM, HO, HV, HB⟩ := hrel
              have hj := HJ.out
              have hzl := HZL.out
              have hl1 := HALL1.out.2
              by_cases hjl : j < zs.length
              · obtain ⟨adz, ez, hxz⟩ := Kd.at_int (Kd.R_reads' HV.out).2.2 (j : Int) (by omega) (by omega)
                cases ez
                rw [Int.toNat_natCast] at hxz
                obtain ⟨z, hz⟩ : ∃ z, z = rd zs (j : Int) := ⟨_, rfl⟩
                rw [← hz] at hxz
                have HNJ : Aside0 (xs ++ (zs.take (j + 1)).map (fun j => (⟨(k : Int), j⟩ : S40)) = (xs ++ (zs.take j).map (fun j => (⟨(k : Int), j⟩ : S40))) ++ [(⟨(k : Int), z⟩ : S40)]) := ⟨by
                  rw [List.take_succ_eq_append_getElem hjl, List.map_append, List.append_assoc, hz]
                  unfold rd
                  rw [Int.toNat_natCast, List.getD_eq_getElem?_getD, List.getElem?_eq_getElem hjl]
                  rfl⟩
                clear hz
                have HYL : Aside0 ((xs ++ (zs.take j).map (fun j => (⟨(k : Int), j⟩ : S40))).length ≤ 2000000000000) := ⟨by
                  rw [List.length_append, List.length_map, List.length_take]
                  have := HXL.out
                  omega⟩
                obtain ⟨ys, hys⟩ : ∃ ys, ys = xs ++ (zs.take j).map (fun j => (⟨(k : Int), j⟩ : S40)) := ⟨_, rfl⟩
                rw [← hys] at HO HYL HNJ
                clear hys
                obtain ⟨Ao, co, eo⟩ := Kd.R_slice HO.out
                subst eo
                have hjz : (j : Int) < (zs.length : Int) := by omega
                clear hj
                go_wp2_with (first | ((with_reducible refine gate_builtin (b := .append) (xs := #[.tmp 60, .tmp 64]) rfl ?_); at_builtin; refine Kd.R_append k40 (w0 := w) w.heap.size rfl (.tmp 60) (.tmp 64) 34 40 (.agg #[(.int .i64 0), (.int .i64 0)]) 16 rfl Tryd.underlying34 info40 rfl (by decide) (by omega) (.slice Ao ys.length co) ys (⟨(k : Int), z⟩ : S40) [.int .i64 k, .int .i64 z] (fun j => j ≠ w.heap.size) (fun _ => False) rfl rfl ?aP (fun _ hk => hk.elim) ?aF ?aO ?aB ?aS ?aL ?_; (case aP => exact k40_mkM _ _ _ (⟨(k : Int), z⟩ : S40)); (case aF => exact (fun k_ hk => by have h_ := MapS_lt HM.out; show k_ ≠ w.heap.size; omega)); (case aO => exact HO.out); (case aB => exact HB.out); (case aS => exact (below_size HB.out)); (case aL => have h_ := HYL.out; omega); intro v4 w4 ho hb hg hat; have n0_ := Aside0.mk (MapS_kept HM.out hg (Kd.R_away HO.out (fun _ h_ => h_)) (fun k_ hk_ => by obtain ⟨cells, h_⟩ := Kd.R_typed HO.out k_ hk_; exact ⟨cells, 40, by decide, h_⟩)); have n1_ := Aside0.mk (Kd.R_over' HV.out (Kd.R_typed HO.out) (by decide) hg); have n2_ := Aside0.mk (hb); have n3_ := Aside0.mk (ho); clear HM HV HB HO; have HM := n0_; have HV := n1_; have HB := n2_; have HO := n3_; clear n0_ n1_ n2_ n3_; clear hxz ho hb hg hat))
                go_roundg (zs.length - (j + 1))
                case measure => have := HJ.out; omega
                case rel => exact ⟨j + 1, (by first | rfl | (simp; done) | (simp [*]; done)), ⟨by have := HJ.out; omega⟩, HM, ⟨by rw [HNJ.out]; exact HO.out⟩, HV, HB⟩
              · have hjj : j = zs.length := by omega
                subst hjj
                have hjb : decide ((zs.length : Int) < (zs.length : Int)) = false := decide_eq_false (by omega)
                clear hj hjl
                go_wp2
                go_roundg (l0.length - (k + 1))
                case measure => have := HN.out; omega
                case rel => exact ⟨k + 1, (by first | rfl | (simp; done) | (simp [*]; done)), ⟨by have := HN.out; omega⟩, HM, ⟨by rw [HNX2.out]; have h_ := HO.out; rw [List.take_length] at h_; exact h_⟩, HB⟩
        · have hkk : k = l0.length := by omega
          subst hkk
          have hkb2 : decide ((l0.length : Int) < (l0.length : Int)) = false := decide_eq_false (by omega)
          clear hn hlt
          go_wp2
          go_ret
          exact ⟨u8, rfl, by rw [← HRES.out]; exact Kd.R_mono HO.out (fun _ _ => trivial), HB.out⟩
end Go.Proofs.YtnllgjloimoebaaDoor.X

/- joiner.Alone: the numbers below n that stand first in no pair. A map[int]bool that the call makes is read as a set of numbers. -/
set_option linter.unusedVariables false
set_option linter.unusedSimpArgs false
namespace Go.Proofs.YtnllgjloimoebaaDoor.X
open Go.RowKit Go.Maps Go.Proofs.YtnllgjloimoebaaDoorW.PrintWords Go.Proofs.YtnllgjloimoebaaDoorW.PrintLast Go.Proofs.YtnllgjloimoebaaDoorW.PrintMore

theorem law3 : Keyed Tryd.prog 3 := int_keyed Tryd.underlying3
theorem zero4 (w : World) : (zeroValue 4).run Tryd.prog w = .ok (.bool false) w := by kernel_rfl
theorem wf_of_ok {n : Int} (h : i64ok n = true) : (Lit.int .i64 n).wf = true := h

/-- block b is a map of at most n entries: true stands at just the numbers of s -/
def MapB (w : World) (b n : Nat) (s : Int → Bool) : Prop :=
  ∃ D : DataW Unit, w.ownsMap Tryd.prog 3 (plainElem Tryd.prog 4) b n D ∧ ∀ i, i64ok i = true → D.atKey (.int .i64 i) (.lit (.bool false)) = .lit (.bool (s i))
theorem MapB_made (w : World) : MapB (w.alloc (.map #[] 0)) w.heap.size 0 (fun _ => false) := ⟨.map [], World.ownsMap_made w _ _ _, fun i _ => rfl⟩
theorem MapB_lt {w : World} {b n : Nat} {s : Int → Bool} (h : MapB w b n s) : b < w.heap.size := by
  obtain ⟨D, h, _⟩ := h
  exact h.lt
theorem MapB_kept {w w' : World} {b n : Nat} {s : Int → Bool} (h : MapB w b n s) {row : Option Nat} (hg : w.grownBy w' row) (hne : some b ≠ row) : MapB w' b n s := by
  obtain ⟨D, h1, h2⟩ := h
  exact ⟨D, h1.kept hg hne, h2⟩
theorem MapB_alloc {w : World} {b n : Nat} {s : Int → Bool} (h : MapB w b n s) (o : Obj) : MapB (w.alloc o) b n s := by
  obtain ⟨D, h1, h2⟩ := h
  exact ⟨D, h1.alloc o, h2⟩
theorem bool_lit_inj {a b : Bool} (h : (DataW.lit (.bool a) : DataW Unit) = .lit (.bool b)) : a = b := by simpa using h
set_option maxRecDepth 100000 in
theorem plainElem_bool_inv {v : Value} {z : DataW Unit × List MemPlace} (h : plainElem Tryd.prog 4 v = some z) : ∃ x, v = .bool x ∧ z = (.lit (.bool x), []) := by
  unfold plainElem at h
  rw [Tryd.underlying4] at h
  cases v
  case bool x => exact ⟨x, rfl, (Option.some.inj h).symm⟩
  all_goals exact absurd h (by simp)
/-- 'm[i]' -/
theorem wp_lookB (w : World) {ops : Array Oper} {rest : List Oper} {o : Oper} {a : Act} {Q : Exit → Act → World → Prop}
    (hg : o.guard = none) (m x : Operand) (hop : o.op = Op.lookup 66 m x false) (b n : Nat) (s : Int → Bool) (i : Int) (hi : i64ok i = true)
    (r : Bool) (hr : s i = r) (hm : a.eval m = .map (some b)) (hown : MapB w b n s) (hx : a.eval x = .int .i64 i)
    (hK : wpList Tryd.prog ops Q rest (a.put o.dst (.bool r)) w) : wpList Tryd.prog ops Q (o :: rest) a w := by
  subst hr
  obtain ⟨D, h1, h2⟩ := hown
  refine wpList_plain hg fun K' hK' => ?_
  obtain ⟨v, ps, hrun, hv⟩ := h1.lookup law3 Tryd.underlying66 (zero4 w) (plainElem_bool Tryd.underlying4 false) (keyOf_int_mk Tryd.underlying3 (wf_of_ok hi))
  obtain ⟨y, rfl, hy⟩ := plainElem_bool_inv hv
  have hy := congrArg Prod.fst hy
  simp only at hy
  rw [h2 i hi] at hy
  have e := bool_lit_inj hy
  subst e
  unfold Oper.wp
  simp [execOp, hop, hm, hx, hrun, Result.andThen]
  exact hK' _ _ hK
/-- 'm[i] = true' -/
theorem wp_putB (w : World) {ops : Array Oper} {rest : List Oper} {o : Oper} {a : Act} {Q : Exit → Act → World → Prop}
    (hg : o.guard = none) (m x v : Operand) (hop : o.op = Op.mapUpdate 66 m x v) (b n : Nat) (s : Int → Bool) (i : Int) (hi : i64ok i = true) (hn : n < maxLen)
    (hm : a.eval m = .map (some b)) (hown : MapB w b n s) (hx : a.eval x = .int .i64 i) (hv : a.eval v = .bool true)
    (hK : ∀ w', MapB w' b (n + 1) (fun j => if j = i then true else s j) → w.grownBy w' (some b) → wpList Tryd.prog ops Q rest (a.put o.dst undef) w') : wpList Tryd.prog ops Q (o :: rest) a w := by
  obtain ⟨D, h1, h2⟩ := hown
  refine wpList_mapUpdate_own w hg m x v 66 hop 3 4 law3 Tryd.underlying66 _ b n D hm h1 hn (.int .i64 i) (.bool true) (.int .i64 i) hx hv (keyOf_int_mk Tryd.underlying3 (wf_of_ok hi)) (.lit (.bool true)) [] (plainElem_bool Tryd.underlying4 true) ?_
  intro w' h1' hgrow
  refine hK w' ⟨_, h1', fun j hj => ?_⟩ hgrow
  show _ = DataW.lit (Lit.bool (if j = i then true else s j))
  by_cases e : j = i
  · subst e
    rw [if_pos rfl, Maps.atKey_put_same h1.isMap (law3.key (keyOf_int_mk Tryd.underlying3 (wf_of_ok hi)))]
  · rw [if_neg e, Maps.atKey_put_other (fun h => e (by injection h))]
    exact h2 j hj

/-- the pairs' first numbers, the first k of them -/
def firsts (l : List S40) (k : Nat) (j : Int) : Bool := (l.take k).any fun x => x.f0 == j
theorem firsts_succ (l : List S40) (k : Nat) (hk : k < l.length) : firsts l (k + 1) = fun j => if j = (l.getD k z40).f0 then true else firsts l k j := by
  funext j
  unfold firsts
  rw [List.take_succ_eq_append_getElem hk, List.any_append, List.getD_eq_getElem?_getD, List.getElem?_eq_getElem hk, Option.getD_some]
  by_cases e : j = l[k].f0
  · rw [if_pos e]; simp [e]
  · have : ¬ l[k].f0 = j := fun h => e h.symm
    simp [e, this]
def aloneTo (l : List S40) : Nat → List Int
  | 0 => []
  | i + 1 => if firsts l l.length (i : Int) then aloneTo l i else aloneTo l i ++ [(i : Int)]
theorem aloneTo_len (l : List S40) : ∀ i, (aloneTo l i).length ≤ i
  | 0 => by simp [aloneTo]
  | i + 1 => by
    have := aloneTo_len l i
    unfold aloneTo
    split
    · omega
    · simp; omega
def aloneP (n : Int) (l : List S40) : List Int := aloneTo l n.toNat
def joiner_Alone.f (n : Int) (l : List S40) : Option (List Int) := if l.all (fun x => i64ok x.f0) && (decide (l.length ≤ 1099511627776) && decide (n ≤ 1099511627776)) then some (aloneP n l) else none

set_option maxHeartbeats 8000000 in
set_option maxRecDepth 100000 in
theorem joiner_Alone.calls (a0 : Int) (A1 : Option Addr) (c1 : Nat) (l1 : List S40) (r : List Int) (w : World) (hr1 : Kd.C k40 w A1 l1.length l1) (hc1 : l1.length ≤ c1) (h : joiner_Alone.f a0 l1 = some r) :
    Calls Tryd.prog 25 #[.int .i64 a0, .slice A1 l1.length c1] w fun e w' => ∃ v0_ : Value, e = .returned (v0_) ∧ Kd.R (Kd.int .i64) 3 w' w.heap.size (fun _ => True) v0_ r ∧ Below w.heap.size w w' := by
  have HR1 := Aside0.mk hr1
  have HC1 := Aside0.mk hc1
  clear hr1 hc1
  unfold joiner_Alone.f at h
  split at h
  case isFalse => cases h
  rename_i hall
  rw [Bool.and_eq_true, Bool.and_eq_true, decide_eq_true_eq, decide_eq_true_eq, List.all_eq_true] at hall
  have HALL := Aside0.mk hall
  clear hall
  have h := Option.some.inj h
  unfold aloneP at h
  have HRES := Aside0.mk h
  clear h
  have hmm := @run_makeMap Tryd.prog
  go_enter Tryd.func25, Tryd.ntmps25
  go_wp2
  have HM0 : Aside0 (MapB (w.alloc (.map #[] 0)) w.heap.size 0 (firsts l1 0)) := ⟨MapB_made w⟩
  have HB0 : Aside0 (Below w.heap.size w (w.alloc (.map #[] 0))) := ⟨below_alloc (Below.refl _ _) _⟩
  obtain ⟨w1, hw1⟩ : ∃ w1, w1 = w.alloc (.map #[] 0) := ⟨_, rfl⟩
  rw [← hw1] at HM0 HB0 ⊢
  clear hw1
  go_loopg [13] l1.length (fun n v13 wr => ∃ k : Nat, v13 = .int .i64 k ∧ Aside0 (k + n = l1.length) ∧ Aside0 (MapB wr w.heap.size k (firsts l1 k)) ∧ Aside0 (Below w.heap.size w wr))
  case atStart => exact ⟨0, rfl, ⟨Nat.zero_add _⟩, HM0, HB0⟩
  case round =>
    clear HM0 HB0
    obtain ⟨k, rfl, HN, HM, HB⟩ := hrel
    have hn := HN.out
    have hl2 : (l1.length : Int) ≤ 1099511627776 := by have := HALL.out.2.1; omega
    by_cases hlt : k < l1.length
    · obtain ⟨ad, e, hx0, hx1⟩ := at_T40 HR1.out k (by omega) (by omega)
      cases e
      have hh : (rd_T40 l1 (k : Int)) = l1.getD k z40 := by unfold rd_T40; rw [Int.toNat_natCast]
      obtain ⟨x, hx⟩ : ∃ x, x = l1.getD k z40 := ⟨_, rfl⟩
      rw [hh, ← hx] at hx0 hx1
      have hmem : x ∈ l1 := by rw [hx, List.getD_eq_getElem?_getD, List.getElem?_eq_getElem hlt]; simp
      have HX := Aside0.mk (HALL.out.1 x hmem)
      have HNX : Aside0 (firsts l1 (k + 1) = fun j => if j = x.f0 then true else firsts l1 k j) := ⟨by rw [hx]; exact firsts_succ l1 k hlt⟩
      replace hx0 := (HB.out.cell (World.block_lt_of_cell? w _ hx0)).trans hx0
      replace hx1 := (HB.out.cell (World.block_lt_of_cell? w _ hx1)).trans hx1
      rw [Int.toNat_natCast] at hx0 hx1
      clear hh hx hmem hn
      have hkl : (k : Int) < (l1.length : Int) := by omega
      go_wp2_with (first | (at_mapUpdate; refine wp_putB _ rfl _ _ _ rfl _ k (firsts l1 k) x.f0 HX.out (by unfold maxLen; omega) rfl (MapB_alloc HM.out _) rfl rfl ?_; intro w3 hm3 hg3; have n0_ := Aside0.mk hm3; have n1_ := Aside0.mk (pw_below_grown (below_alloc HB.out _) (some w.heap.size) (below_size (below_alloc HB.out _)) hg3 (fun j hj => by cases hj; exact Nat.le_refl _)); clear HM HB hx0 hx1 hm3 hg3; have HM := n0_; have HB := n1_; clear n0_ n1_))
      go_roundg (l1.length - (k + 1))
      case measure => have := HN.out; omega
      case rel => exact ⟨k + 1, (by first | rfl | (simp; done) | (simp [*]; done)), ⟨by have := HN.out; omega⟩, ⟨by rw [HNX.out]; exact HM.out⟩, HB⟩
    · have hkk : k = l1.length := by omega
      subst hkk
      have hkl : ¬ ((l1.length : Int) < (l1.length : Int)) := by omega
      have hkb : decide ((l1.length : Int) < (l1.length : Int)) = false := decide_eq_false hkl
      clear hkl hn
      go_wp2
      go_loopg [8, 9] a0.toNat (fun n v8 v9 w2 => ∃ i : Nat, v9 = .int .i64 i ∧ Aside0 (i + n = a0.toNat) ∧ Aside0 (MapB w2 w.heap.size l1.length (firsts l1 l1.length)) ∧ Aside0 (Kd.R (Kd.int .i64) 3 w2 w.heap.size (fun j => j ≠ w.heap.size) v8 (aloneTo l1 i)) ∧ Aside0 (Below w.heap.size w w2))
      case atStart => exact ⟨0, rfl, ⟨Nat.zero_add _⟩, HM, ⟨Kd.R_nil _ _ _ _ _⟩, HB⟩
      case round =>
        clear HM HB
        obtain ⟨i, rfl, HI, HM, HO, HB⟩ := hrel
        have hi := HI.out
        have hn2 : a0 ≤ 1099511627776 := HALL.out.2.2
        by_cases hlt2 : (i : Int) < a0
        · have hil : i < a0.toNat := by omega
          have hxl := aloneTo_len l1 i
          obtain ⟨xs, hxs⟩ : ∃ xs, xs = aloneTo l1 i := ⟨_, rfl⟩
          rw [← hxs] at HO hxl
          obtain ⟨A3, c3, e3⟩ := Kd.R_slice HO.out
          subst e3
          have HXS := Aside0.mk hxs
          clear hxs
          cases hf : firsts l1 l1.length (i : Int) with
          | true =>
            have HNX : Aside0 (aloneTo l1 (i + 1) = xs) := ⟨by rw [aloneTo, hf, HXS.out]; rfl⟩
            go_wp2_with (first | (at_lookup; refine wp_lookB _ rfl _ _ rfl _ _ _ (i : Int) (i64ok_of (by omega) (by omega)) true hf rfl HM.out rfl ?_))
            go_roundg (a0.toNat - (i + 1))
            case measure => have := HI.out; omega
            case rel => exact ⟨i + 1, (by first | rfl | (simp; done) | (simp [*]; done)), ⟨by have := HI.out; omega⟩, HM, ⟨by rw [HNX.out]; exact HO.out⟩, HB⟩
          | false =>
            have HNX : Aside0 (aloneTo l1 (i + 1) = xs ++ [(i : Int)]) := ⟨by rw [aloneTo, hf, HXS.out]; rfl⟩
            go_wp2_with (first | (at_lookup; refine wp_lookB _ rfl _ _ rfl _ _ _ (i : Int) (i64ok_of (by omega) (by omega)) false hf rfl HM.out rfl ?_) | ((with_reducible refine gate_builtin (b := .append) (xs := #[.tmp 30, .tmp 32]) rfl ?_); at_builtin; refine Kd.R_append (Kd.int .i64) (w0 := w) w.heap.size rfl (.tmp 30) (.tmp 32) 30 3 (.int .i64 0) 8 rfl Tryd.underlying30 info3 rfl (by decide) (by omega) (.slice A3 xs.length c3) xs (i : Int) [.int .i64 i] (fun j => j ≠ w.heap.size) (fun _ => False) rfl rfl ?aP (fun _ hk => hk.elim) ?aF ?aO ?aB ?aS ?aL ?_; (case aP => exact rfl); (case aF => exact (fun k_ hk => by have h_ := MapB_lt HM.out; show k_ ≠ w.heap.size; omega)); (case aO => exact HO.out); (case aB => exact HB.out); (case aS => exact (below_size HB.out)); (case aL => omega); intro v4 w4 ho hb hg hat; have n0_ := Aside0.mk ho; have n1_ := Aside0.mk (MapB_kept HM.out hg (Kd.R_away HO.out (fun _ h_ => h_))); have n2_ := Aside0.mk hb; clear HO HM HB ho hb hg hat; have HO := n0_; have HM := n1_; have HB := n2_; clear n0_ n1_ n2_))
            go_roundg (a0.toNat - (i + 1))
            case measure => have := HI.out; omega
            case rel => exact ⟨i + 1, (by first | rfl | (simp; done) | (simp [*]; done)), ⟨by have := HI.out; omega⟩, HM, ⟨by rw [HNX.out]; exact HO.out⟩, HB⟩
        · have hii : i = a0.toNat := by omega
          have hib : decide ((i : Int) < a0) = false := decide_eq_false hlt2
          clear hlt2
          go_wp2
          go_ret
          exact ⟨u8, rfl, by rw [← HRES.out, ← hii]; exact Kd.R_mono HO.out (fun _ _ => trivial), HB.out⟩
end Go.Proofs.YtnllgjloimoebaaDoor.X

/- 'Below' with one fact more: the tape's place has not gone back. The printed texts of value.Order, slices.CompareFunc and value.Orders, told anew over this word. -/
namespace Go.Proofs.YtnllgjloimoebaaDoor.X.D
open Go.RowKit Go.Proofs.YtnllgjloimoebaaDoorW.PrintWords Go.Proofs.YtnllgjloimoebaaDoorW.PrintLast Go.Proofs.YtnllgjloimoebaaDoorW.PrintMore

structure Below (B : Nat) (w w' : World) : Prop where
  b : Go.RowKit.Below B w w'
  dr : w.drawn ≤ w'.drawn
theorem Below.refl (B : Nat) (w : World) : Below B w w := ⟨Go.RowKit.Below.refl B w, Nat.le_refl _⟩
theorem Below.trans {B : Nat} {a b c : World} (h : Below B a b) (k : Below B b c) : Below B a c := ⟨h.b.trans k.b, Nat.le_trans h.dr k.dr⟩
theorem Below.cell {B : Nat} {w w' : World} (h : Below B w w') {p : Addr} (hp : p.block < B) : w'.cell? p = w.cell? p := h.b.cell hp
theorem Below.alloc {B : Nat} {a w : World} (h : Below B a w) (hB : B ≤ w.heap.size) (o : Obj) : Below B a (w.alloc o) := ⟨h.b.alloc hB o, h.dr⟩
theorem below_alloc {w W : World} (h : Below w.heap.size w W) (o : Obj) : Below w.heap.size w (W.alloc o) := ⟨Go.Proofs.YtnllgjloimoebaaDoorW.PrintWords.below_alloc h.b o, h.dr⟩
theorem pw_below_drewN {B : Nat} {w W : World} (h : Below B w W) (n : Nat) : Below B w (W.drewN n) := ⟨Go.Proofs.YtnllgjloimoebaaDoorW.PrintWords.pw_below_drewN h.b n, Nat.le_trans h.dr (Nat.le_add_right _ _)⟩
theorem below_drew1 {base : Nat} {w W : World} (h : Below base w W) : Below base w W.drew := ⟨Go.Proofs.YtnllgjloimoebaaDoorW.PrintWords.below_drew1 h.b, Nat.le_trans h.dr (Nat.le_add_right _ _)⟩
theorem below_step {w W w2 : World} (h : Below w.heap.size w W) (k : Below W.heap.size W w2) : Below w.heap.size w w2 := ⟨Go.Proofs.YtnllgjloimoebaaDoorW.PrintWords.below_step h.b k.b, Nat.le_trans h.dr k.dr⟩
theorem below_set {w W : World} {g j : Nat} {v : Value} (h : Below w.heap.size w W) (hg : w.heap.size ≤ g) : Below w.heap.size w (W.setCell ⟨g, j, none⟩ v) := ⟨Go.Proofs.YtnllgjloimoebaaDoorW.PrintWords.below_set h.b hg, h.dr⟩
theorem below_size {w W : World} (h : Below w.heap.size w W) : w.heap.size ≤ W.heap.size := h.b.size
theorem blk_below {w w1 : World} {g : Nat} {o : Obj} (h : w.heap[g]? = some o) (hb : Below w.heap.size w w1) : w1.heap[g]? = some o := Go.Proofs.YtnllgjloimoebaaDoorW.PrintWords.blk_below h hb.b
section
variable {P : Program} {ops : Array Oper} {rest : List Oper} {o : Oper} {a : Act} {Q : Exit → Act → World → Prop}
theorem box_event {W : World} (hgd : o.guard = none) {N : Tmp} (_hd : o.dst = some N) {cs : Array Value} {t : TypeId}
    (hrun : (execOp a.eval o).run P W = .ok (.value (.pointer (some ⟨W.heap.size, 0, none⟩))) (W.alloc (.cells cs t (0, 0))))
    (h : ∀ g, g = W.heap.size → ∀ w1, w1.heap[g]? = some (.cells cs t (0, 0)) → Below W.heap.size W w1 → wpList P ops Q rest (a.put o.dst (.pointer (some ⟨g, 0, none⟩))) w1) : wpList P ops Q (o :: rest) a W :=
  Kd.event_run hgd hrun (h _ rfl _ (blk_new W _) (below_alloc (Below.refl _ _) _))
theorem Kd.R_lit_step {α : Type} {Kc : Act → World → Prop} (d : Kd α) {w0 W : World} (base e : Nat) (hw : Region.wanted o (yielded ops a.tmps) = true) {N : Tmp} (_hd : o.dst = some N) {xs : List α} {inner : List Value} {ok okp : Nat → Prop}
    (hrun : (execOp a.eval o).run P W = .ok (.value (.slice (some ⟨W.heap.size, 0, none⟩) xs.length xs.length)) (W.alloc (.cells inner.toArray e)))
    (hrep : Reps (d.M W base okp) d.sz xs inner) (hok : ∀ k, okp k → ok k) (hfresh : ok W.heap.size) (HB : Below base w0 W) (hbase : base ≤ W.heap.size) (hm : xs.length ≤ 9223372036854775807)
    (h : ∀ v1 w1, d.R e w1 base ok v1 xs → Below base w0 w1 → W.grownBy w1 none → (∃ b, v1.ownBlock = some b ∧ W.heap.size ≤ b) → Kc (a.put o.dst v1) w1) : if Region.wanted o (yielded ops a.tmps) = true then Oper.wp P o a W Kc Q else Kc (a.put o.dst undef) W := by
  refine event_step hw hrun (h _ _ ⟨fun k hk => ?_, inner, ?_, ?_⟩ (HB.alloc hbase _) (World.grownBy_alloc W _ none) ⟨W.heap.size, by simp [Value.ownBlock], Nat.le_refl _⟩)
  · have : W.heap.size = k := by simpa [Value.ownBlock] using hk
    subst this
    exact hfresh
  · have h2 := World.ownsRow_lit (base := base) (e := e) (size := d.sz) W inner.toArray xs.length hbase (by simpa [maxLen] using hm) (by simpa using hrep.1)
    simpa using h2
  · refine hrep.imp_ (fun p c hp => d.M_mono (fun k hk => ⟨hok k hk.1, fun he => ?_⟩) (Kd.M_below (d.M_bound hp) (Go.Proofs.YtnllgjloimoebaaDoorW.PrintWords.below_alloc (Go.RowKit.Below.refl _ _) _)))
    have h3 : k = W.heap.size := by simpa [Value.ownBlock] using he
    have := hk.2.2.1
    omega
end
/-- What the sort asks: new blocks and draws. -/
theorem Below.grows {w w' : World} (h : Below w.heap.size w w') : ∃ q os, w' = Go.Sort.grow (w.drewN q) os := by
  obtain ⟨hb, hd⟩ := h
  refine ⟨w'.drawn - w.drawn, w'.heap.extract w.heap.size w'.heap.size, ?_⟩
  obtain ⟨h1, h2, h3, h4, h5⟩ := hb
  obtain ⟨heap, tape, drawn, o, output⟩ := w
  obtain ⟨heap', tape', drawn', o', output'⟩ := w'
  simp only at h1 h2 h3 h4 h5 hd
  subst h1; subst h2; subst h3
  simp only [Go.Sort.grow, World.drewN, World.mk.injEq, true_and, and_true]
  refine ⟨?_, by omega⟩
  apply Array.ext_getElem?
  intro i
  by_cases hi : i < heap.size
  · rw [Array.getElem?_append_left hi, h5 i hi]
  · rw [Array.getElem?_append_right (by omega), Array.getElem?_extract]
    simp only [Nat.min_self]
    by_cases hj : i < heap'.size
    · rw [if_pos (by omega)]; congr 1; omega
    · rw [if_neg (by omega), Array.getElem?_eq_none (by omega)]
end Go.Proofs.YtnllgjloimoebaaDoor.X.D

/- Contracts of Go's library at this dump (by the kit's lay-plain): slices.SortFunc at [][]int, []int, [][2]int. -/
namespace Go.Proofs
open Go.Shelf
def Tryd.laysSlF06_f42_ren : Go.Shelf.Ren := ⟨fun | 6 => 42 | 15 => 53 | 14 => 60 | 28 => 74 | 29 => 75 | 20 => 79 | 21 => 80 | 22 => 81 | 23 => 82 | 24 => 83 | 25 => 84 | 26 => 85 | 27 => 86 | 46 => 105 | 47 => 92 | 48 => 93 | 49 => 106 | 50 => 107 | 57 => 117 | n => n, fun | 22 => 34 | 24 => 40 | 25 => 65 | 3 => 3 | 39 => 80 | 0 => 0 | 53 => 99 | 55 => 101 | 4 => 4 | 46 => 93 | 45 => 92 | 50 => 50 | 5 => 5 | 9 => 9 | 66 => 114 | 70 => 118 | 76 => 131 | 77 => 132 | n => n, fun | n => n⟩
theorem Tryd.laysSlF06_f42 : Go.Proofs.SlLaysF0.n6 Tryd.prog Tryd.laysSlF06_f42_ren := {
  mixed := by kernel_rfl
  f6 := ⟨Tryd.f42.name, by decide, Tryd.func42.trans (congrArg some (by kernel_rfl))⟩
  f14 := ⟨Tryd.f60.name, by decide, Tryd.func60.trans (congrArg some (by kernel_rfl))⟩
  f15 := Tryd.func53.trans (congrArg some (by kernel_rfl))
  f20 := ⟨Tryd.f79.name, by decide, Tryd.func79.trans (congrArg some (by kernel_rfl))⟩
  f21 := ⟨Tryd.f80.name, by decide, Tryd.func80.trans (congrArg some (by kernel_rfl))⟩
  f22 := ⟨Tryd.f81.name, by decide, Tryd.func81.trans (congrArg some (by kernel_rfl))⟩
  f23 := ⟨Tryd.f82.name, by decide, Tryd.func82.trans (congrArg some (by kernel_rfl))⟩
  f24 := ⟨Tryd.f83.name, by decide, Tryd.func83.trans (congrArg some (by kernel_rfl))⟩
  f25 := ⟨Tryd.f84.name, by decide, Tryd.func84.trans (congrArg some (by kernel_rfl))⟩
  f26 := ⟨Tryd.f85.name, by decide, Tryd.func85.trans (congrArg some (by kernel_rfl))⟩
  f27 := ⟨Tryd.f86.name, by decide, Tryd.func86.trans (congrArg some (by kernel_rfl))⟩
  f28 := Tryd.func74.trans (congrArg some (by kernel_rfl))
  f29 := Tryd.func75.trans (congrArg some (by kernel_rfl))
  f46 := ⟨Tryd.f105.name, by decide, Tryd.func105.trans (congrArg some (by kernel_rfl))⟩
  f47 := Tryd.func92.trans (congrArg some (by kernel_rfl))
  f48 := Tryd.func93.trans (congrArg some (by kernel_rfl))
  f49 := ⟨Tryd.f106.name, by decide, Tryd.func106.trans (congrArg some (by kernel_rfl))⟩
  f50 := ⟨Tryd.f107.name, by decide, Tryd.func107.trans (congrArg some (by kernel_rfl))⟩
  f57 := ⟨Tryd.f117.name, by decide, Tryd.func117.trans (congrArg some (by kernel_rfl))⟩
  t0 := Tryd.underlying0
  a0 := Tryd.isAgg0
  z0 := Tryd.sizeOf0
  v0 := Tryd.zeroValue0
  t3 := Tryd.underlying3
  a3 := Tryd.isAgg3
  z3 := Tryd.sizeOf3
  v3 := Tryd.zeroValue3
  t4 := Tryd.underlying4
  a4 := Tryd.isAgg4
  z4 := Tryd.sizeOf4
  v4 := Tryd.zeroValue4
  t5 := Tryd.underlying5
  a5 := Tryd.isAgg5
  z5 := Tryd.sizeOf5
  v5 := Tryd.zeroValue5
  t9 := Tryd.underlying9
  a9 := Tryd.isAgg9
  z9 := Tryd.sizeOf9
  v9 := Tryd.zeroValue9
  t22 := Tryd.underlying34
  a22 := Tryd.isAgg34
  z22 := Tryd.sizeOf34
  v22 := Tryd.zeroValue34
  t25 := Tryd.underlying65
  a25 := Tryd.isAgg65
  z25 := Tryd.sizeOf65
  v25 := Tryd.zeroValue65
  t39 := Tryd.underlying80
  a39 := Tryd.isAgg80
  z39 := Tryd.sizeOf80
  v39 := Tryd.zeroValue80
  t45 := Tryd.underlying92
  a45 := Tryd.isAgg92
  z45 := Tryd.sizeOf92
  v45 := Tryd.zeroValue92
  t46 := Tryd.underlying93
  a46 := Tryd.isAgg93
  z46 := Tryd.sizeOf93
  v46 := Tryd.zeroValue93
  t50 := Tryd.underlying50
  a50 := Tryd.isAgg50
  z50 := Tryd.sizeOf50
  v50 := Tryd.zeroValue50
  t53 := Tryd.underlying99
  a53 := Tryd.isAgg99
  z53 := Tryd.sizeOf99
  v53 := Tryd.zeroValue99
  t55 := Tryd.underlying101
  a55 := Tryd.isAgg101
  z55 := Tryd.sizeOf101
  v55 := Tryd.zeroValue101
  t66 := Tryd.underlying114
  a66 := Tryd.isAgg114
  z66 := Tryd.sizeOf114
  v66 := Tryd.zeroValue114
  t70 := Tryd.underlying118
  a70 := Tryd.isAgg118
  z70 := Tryd.sizeOf118
  v70 := Tryd.zeroValue118
  t76 := Tryd.underlying131
  a76 := Tryd.isAgg131
  z76 := Tryd.sizeOf131
  v76 := Tryd.zeroValue131
  t77 := Tryd.underlying132
  a77 := Tryd.isAgg132
  z77 := Tryd.sizeOf132
  v77 := Tryd.zeroValue132 }
open Go.RowKit Go.Lib Go.Sort in
/-- **slices.SortFunc, IN THE DOCUMENTATION's OWN TERMS: A PERMUTATION OF WHAT THE ROW HELD, SORTED BY 'cmp(a, b) < 0'.** Which of two equals comes first is left open ("The sort is not guaranteed to be stable"). (LAID AT THE INSTANCE 'slices.SortFunc[[][2]int,[2]int]': no walk: one application.) -/
theorem Tryd.slices_SortFunc {α : Type} [Inhabited α] (k : Nat) (aE : ∀ w, (isAgg 40).run Tryd.prog w = .ok true w) (zE : ∀ w, (Go.sizeOf 40).run Tryd.prog w = .ok k w) (enc : α → List Value) (hk : ∀ x, (enc x).length = k) (h1 : ∀ x, ∀ v ∈ enc x, v.oneCell' = true) (cf : α → α → Int) (hO : SWO (ltOf cf)) (g : Nat) (cb : Array Value) (blk off cap : Nat) (d : Array α) (w : World) (eg : ∀ args w, (callFunc g args).run Tryd.prog w = .ok (.enter g args) w) (hcmp : CmpLays Tryd.prog g cb enc k cf blk off d.size w) (hH : HoldsK enc k w blk off d) (hblk : blk < w.heap.size) (hsz : d.size < 4611686018427387904) :
    Calls Tryd.prog 42 #[.slice (some ⟨blk, off, none⟩) d.size cap, .func (.func g) #[] cb] w fun e w' =>
      e = .returned (.tuple #[]) ∧ ∃ d' n os, PermIn 0 d.size d d' ∧ SortedIn (ltOf cf) 0 d.size d' ∧ w' = sortWorldK enc k w blk off n d' os := AnyQ.slices_SortFunc Tryd.laysSlF06_f42 k aE zE enc hk h1 cf hO g cb blk off cap d w eg hcmp hH hblk hsz
def Tryd.laysSlF6_f31_ren : Go.Shelf.Ren := ⟨fun | 6 => 31 | 15 => 53 | 14 => 52 | 28 => 74 | 29 => 75 | 20 => 66 | 21 => 67 | 22 => 68 | 23 => 69 | 24 => 70 | 25 => 71 | 26 => 72 | 27 => 73 | 46 => 91 | 47 => 92 | 48 => 93 | 49 => 94 | 50 => 95 | 57 => 113 | n => n, fun | 22 => 25 | 24 => 30 | 25 => 52 | 3 => 3 | 39 => 80 | 0 => 0 | 53 => 99 | 55 => 101 | 4 => 4 | 46 => 93 | 45 => 92 | 50 => 50 | 5 => 5 | 9 => 9 | 66 => 114 | 70 => 118 | 76 => 131 | 77 => 132 | n => n, fun | n => n⟩
theorem Tryd.laysSlF6_f31 : Go.Proofs.SlLaysF.n6 Tryd.prog Tryd.laysSlF6_f31_ren := {
  mixed := by kernel_rfl
  f6 := ⟨Tryd.f31.name, by decide, Tryd.func31.trans (congrArg some (by kernel_rfl))⟩
  f14 := ⟨Tryd.f52.name, by decide, Tryd.func52.trans (congrArg some (by kernel_rfl))⟩
  f15 := Tryd.func53.trans (congrArg some (by kernel_rfl))
  f20 := ⟨Tryd.f66.name, by decide, Tryd.func66.trans (congrArg some (by kernel_rfl))⟩
  f21 := ⟨Tryd.f67.name, by decide, Tryd.func67.trans (congrArg some (by kernel_rfl))⟩
  f22 := ⟨Tryd.f68.name, by decide, Tryd.func68.trans (congrArg some (by kernel_rfl))⟩
  f23 := ⟨Tryd.f69.name, by decide, Tryd.func69.trans (congrArg some (by kernel_rfl))⟩
  f24 := ⟨Tryd.f70.name, by decide, Tryd.func70.trans (congrArg some (by kernel_rfl))⟩
  f25 := ⟨Tryd.f71.name, by decide, Tryd.func71.trans (congrArg some (by kernel_rfl))⟩
  f26 := ⟨Tryd.f72.name, by decide, Tryd.func72.trans (congrArg some (by kernel_rfl))⟩
  f27 := ⟨Tryd.f73.name, by decide, Tryd.func73.trans (congrArg some (by kernel_rfl))⟩
  f28 := Tryd.func74.trans (congrArg some (by kernel_rfl))
  f29 := Tryd.func75.trans (congrArg some (by kernel_rfl))
  f46 := ⟨Tryd.f91.name, by decide, Tryd.func91.trans (congrArg some (by kernel_rfl))⟩
  f47 := Tryd.func92.trans (congrArg some (by kernel_rfl))
  f48 := Tryd.func93.trans (congrArg some (by kernel_rfl))
  f49 := ⟨Tryd.f94.name, by decide, Tryd.func94.trans (congrArg some (by kernel_rfl))⟩
  f50 := ⟨Tryd.f95.name, by decide, Tryd.func95.trans (congrArg some (by kernel_rfl))⟩
  f57 := ⟨Tryd.f113.name, by decide, Tryd.func113.trans (congrArg some (by kernel_rfl))⟩
  t0 := Tryd.underlying0
  a0 := Tryd.isAgg0
  z0 := Tryd.sizeOf0
  v0 := Tryd.zeroValue0
  t3 := Tryd.underlying3
  a3 := Tryd.isAgg3
  z3 := Tryd.sizeOf3
  v3 := Tryd.zeroValue3
  t4 := Tryd.underlying4
  a4 := Tryd.isAgg4
  z4 := Tryd.sizeOf4
  v4 := Tryd.zeroValue4
  t5 := Tryd.underlying5
  a5 := Tryd.isAgg5
  z5 := Tryd.sizeOf5
  v5 := Tryd.zeroValue5
  t9 := Tryd.underlying9
  a9 := Tryd.isAgg9
  z9 := Tryd.sizeOf9
  v9 := Tryd.zeroValue9
  t22 := Tryd.underlying25
  a22 := Tryd.isAgg25
  z22 := Tryd.sizeOf25
  v22 := Tryd.zeroValue25
  a24 := Tryd.isAgg30
  z24 := Tryd.sizeOf30
  t25 := Tryd.underlying52
  a25 := Tryd.isAgg52
  z25 := Tryd.sizeOf52
  v25 := Tryd.zeroValue52
  t39 := Tryd.underlying80
  a39 := Tryd.isAgg80
  z39 := Tryd.sizeOf80
  v39 := Tryd.zeroValue80
  t45 := Tryd.underlying92
  a45 := Tryd.isAgg92
  z45 := Tryd.sizeOf92
  v45 := Tryd.zeroValue92
  t46 := Tryd.underlying93
  a46 := Tryd.isAgg93
  z46 := Tryd.sizeOf93
  v46 := Tryd.zeroValue93
  t50 := Tryd.underlying50
  a50 := Tryd.isAgg50
  z50 := Tryd.sizeOf50
  v50 := Tryd.zeroValue50
  t53 := Tryd.underlying99
  a53 := Tryd.isAgg99
  z53 := Tryd.sizeOf99
  v53 := Tryd.zeroValue99
  t55 := Tryd.underlying101
  a55 := Tryd.isAgg101
  z55 := Tryd.sizeOf101
  v55 := Tryd.zeroValue101
  t66 := Tryd.underlying114
  a66 := Tryd.isAgg114
  z66 := Tryd.sizeOf114
  v66 := Tryd.zeroValue114
  t70 := Tryd.underlying118
  a70 := Tryd.isAgg118
  z70 := Tryd.sizeOf118
  v70 := Tryd.zeroValue118
  t76 := Tryd.underlying131
  a76 := Tryd.isAgg131
  z76 := Tryd.sizeOf131
  v76 := Tryd.zeroValue131
  t77 := Tryd.underlying132
  a77 := Tryd.isAgg132
  z77 := Tryd.sizeOf132
  v77 := Tryd.zeroValue132 }
def Tryd.laysSlF6_f58_ren : Go.Shelf.Ren := ⟨fun | 6 => 58 | 15 => 53 | 14 => 78 | 28 => 74 | 29 => 75 | 20 => 97 | 21 => 98 | 22 => 99 | 23 => 100 | 24 => 101 | 25 => 102 | 26 => 103 | 27 => 104 | 46 => 114 | 47 => 92 | 48 => 93 | 49 => 115 | 50 => 116 | 57 => 123 | n => n, fun | 22 => 30 | 24 => 3 | 25 => 64 | 3 => 3 | 39 => 80 | 0 => 0 | 53 => 99 | 55 => 101 | 4 => 4 | 46 => 93 | 45 => 92 | 50 => 50 | 5 => 5 | 9 => 9 | 66 => 114 | 70 => 118 | 76 => 131 | 77 => 132 | n => n, fun | n => n⟩
theorem Tryd.laysSlF6_f58 : Go.Proofs.SlLaysF.n6 Tryd.prog Tryd.laysSlF6_f58_ren := {
  mixed := by kernel_rfl
  f6 := ⟨Tryd.f58.name, by decide, Tryd.func58.trans (congrArg some (by kernel_rfl))⟩
  f14 := ⟨Tryd.f78.name, by decide, Tryd.func78.trans (congrArg some (by kernel_rfl))⟩
  f15 := Tryd.func53.trans (congrArg some (by kernel_rfl))
  f20 := ⟨Tryd.f97.name, by decide, Tryd.func97.trans (congrArg some (by kernel_rfl))⟩
  f21 := ⟨Tryd.f98.name, by decide, Tryd.func98.trans (congrArg some (by kernel_rfl))⟩
  f22 := ⟨Tryd.f99.name, by decide, Tryd.func99.trans (congrArg some (by kernel_rfl))⟩
  f23 := ⟨Tryd.f100.name, by decide, Tryd.func100.trans (congrArg some (by kernel_rfl))⟩
  f24 := ⟨Tryd.f101.name, by decide, Tryd.func101.trans (congrArg some (by kernel_rfl))⟩
  f25 := ⟨Tryd.f102.name, by decide, Tryd.func102.trans (congrArg some (by kernel_rfl))⟩
  f26 := ⟨Tryd.f103.name, by decide, Tryd.func103.trans (congrArg some (by kernel_rfl))⟩
  f27 := ⟨Tryd.f104.name, by decide, Tryd.func104.trans (congrArg some (by kernel_rfl))⟩
  f28 := Tryd.func74.trans (congrArg some (by kernel_rfl))
  f29 := Tryd.func75.trans (congrArg some (by kernel_rfl))
  f46 := ⟨Tryd.f114.name, by decide, Tryd.func114.trans (congrArg some (by kernel_rfl))⟩
  f47 := Tryd.func92.trans (congrArg some (by kernel_rfl))
  f48 := Tryd.func93.trans (congrArg some (by kernel_rfl))
  f49 := ⟨Tryd.f115.name, by decide, Tryd.func115.trans (congrArg some (by kernel_rfl))⟩
  f50 := ⟨Tryd.f116.name, by decide, Tryd.func116.trans (congrArg some (by kernel_rfl))⟩
  f57 := ⟨Tryd.f123.name, by decide, Tryd.func123.trans (congrArg some (by kernel_rfl))⟩
  t0 := Tryd.underlying0
  a0 := Tryd.isAgg0
  z0 := Tryd.sizeOf0
  v0 := Tryd.zeroValue0
  t3 := Tryd.underlying3
  a3 := Tryd.isAgg3
  z3 := Tryd.sizeOf3
  v3 := Tryd.zeroValue3
  t4 := Tryd.underlying4
  a4 := Tryd.isAgg4
  z4 := Tryd.sizeOf4
  v4 := Tryd.zeroValue4
  t5 := Tryd.underlying5
  a5 := Tryd.isAgg5
  z5 := Tryd.sizeOf5
  v5 := Tryd.zeroValue5
  t9 := Tryd.underlying9
  a9 := Tryd.isAgg9
  z9 := Tryd.sizeOf9
  v9 := Tryd.zeroValue9
  t22 := Tryd.underlying30
  a22 := Tryd.isAgg30
  z22 := Tryd.sizeOf30
  v22 := Tryd.zeroValue30
  a24 := Tryd.isAgg3
  z24 := Tryd.sizeOf3
  t25 := Tryd.underlying64
  a25 := Tryd.isAgg64
  z25 := Tryd.sizeOf64
  v25 := Tryd.zeroValue64
  t39 := Tryd.underlying80
  a39 := Tryd.isAgg80
  z39 := Tryd.sizeOf80
  v39 := Tryd.zeroValue80
  t45 := Tryd.underlying92
  a45 := Tryd.isAgg92
  z45 := Tryd.sizeOf92
  v45 := Tryd.zeroValue92
  t46 := Tryd.underlying93
  a46 := Tryd.isAgg93
  z46 := Tryd.sizeOf93
  v46 := Tryd.zeroValue93
  t50 := Tryd.underlying50
  a50 := Tryd.isAgg50
  z50 := Tryd.sizeOf50
  v50 := Tryd.zeroValue50
  t53 := Tryd.underlying99
  a53 := Tryd.isAgg99
  z53 := Tryd.sizeOf99
  v53 := Tryd.zeroValue99
  t55 := Tryd.underlying101
  a55 := Tryd.isAgg101
  z55 := Tryd.sizeOf101
  v55 := Tryd.zeroValue101
  t66 := Tryd.underlying114
  a66 := Tryd.isAgg114
  z66 := Tryd.sizeOf114
  v66 := Tryd.zeroValue114
  t70 := Tryd.underlying118
  a70 := Tryd.isAgg118
  z70 := Tryd.sizeOf118
  v70 := Tryd.zeroValue118
  t76 := Tryd.underlying131
  a76 := Tryd.isAgg131
  z76 := Tryd.sizeOf131
  v76 := Tryd.zeroValue131
  t77 := Tryd.underlying132
  a77 := Tryd.isAgg132
  z77 := Tryd.sizeOf132
  v77 := Tryd.zeroValue132 }
open Go.RowKit Go.Lib Go.Sort in
/-- **slices.SortFunc, IN THE DOCUMENTATION's OWN TERMS: A PERMUTATION OF WHAT THE ROW HELD, SORTED BY 'cmp(a, b) < 0'.** Which of two equals comes first is left open ("The sort is not guaranteed to be stable"). (LAID AT THE INSTANCE 'slices.SortFunc[[][]int,[]int]': no walk: one application.) -/
theorem Tryd.slices_SortFunc_f31 {α : Type} [Inhabited α] (enc : α → Value) (h1 : OneCell enc) (cf : α → α → Int) (hO : SWO (ltOf cf)) (g : Nat) (cb : Array Value) (blk off cap : Nat) (d : Array α) (w : World) (eg : ∀ args w, (callFunc g args).run Tryd.prog w = .ok (.enter g args) w) (hcmp : CmpLays1 Tryd.prog g cb enc cf blk off d.size w) (hH : Holds enc w blk off d) (hblk : blk < w.heap.size) (hsz : d.size < 4611686018427387904) :
    Calls Tryd.prog 31 #[.slice (some ⟨blk, off, none⟩) d.size cap, .func (.func g) #[] cb] w fun e w' =>
      e = .returned (.tuple #[]) ∧ ∃ d' n os, PermIn 0 d.size d d' ∧ SortedIn (ltOf cf) 0 d.size d' ∧ w' = sortWorld enc w blk off n d' os := Any.slices_SortFunc Tryd.laysSlF6_f31 enc h1 cf hO g cb blk off cap d w eg hcmp hH hblk hsz
open Go.RowKit Go.Lib Go.Sort in
/-- **slices.SortFunc, IN THE DOCUMENTATION's OWN TERMS: A PERMUTATION OF WHAT THE ROW HELD, SORTED BY 'cmp(a, b) < 0'.** Which of two equals comes first is left open ("The sort is not guaranteed to be stable"). (LAID AT THE INSTANCE 'slices.SortFunc[[]int,int]': no walk: one application.) -/
theorem Tryd.slices_SortFunc_f58 {α : Type} [Inhabited α] (enc : α → Value) (h1 : OneCell enc) (cf : α → α → Int) (hO : SWO (ltOf cf)) (g : Nat) (cb : Array Value) (blk off cap : Nat) (d : Array α) (w : World) (eg : ∀ args w, (callFunc g args).run Tryd.prog w = .ok (.enter g args) w) (hcmp : CmpLays1 Tryd.prog g cb enc cf blk off d.size w) (hH : Holds enc w blk off d) (hblk : blk < w.heap.size) (hsz : d.size < 4611686018427387904) :
    Calls Tryd.prog 58 #[.slice (some ⟨blk, off, none⟩) d.size cap, .func (.func g) #[] cb] w fun e w' =>
      e = .returned (.tuple #[]) ∧ ∃ d' n os, PermIn 0 d.size d d' ∧ SortedIn (ltOf cf) 0 d.size d' ∧ w' = sortWorld enc w blk off n d' os := Any.slices_SortFunc Tryd.laysSlF6_f58 enc h1 cf hO g cb blk off cap d w eg hcmp hH hblk hsz
def Tryd.laysSlF06_f31_ren : Go.Shelf.Ren := ⟨fun | 6 => 31 | 15 => 53 | 14 => 52 | 28 => 74 | 29 => 75 | 20 => 66 | 21 => 67 | 22 => 68 | 23 => 69 | 24 => 70 | 25 => 71 | 26 => 72 | 27 => 73 | 46 => 91 | 47 => 92 | 48 => 93 | 49 => 94 | 50 => 95 | 57 => 113 | n => n, fun | 22 => 25 | 24 => 30 | 25 => 52 | 3 => 3 | 39 => 80 | 0 => 0 | 53 => 99 | 55 => 101 | 4 => 4 | 46 => 93 | 45 => 92 | 50 => 50 | 5 => 5 | 9 => 9 | 66 => 114 | 70 => 118 | 76 => 131 | 77 => 132 | n => n, fun | n => n⟩
theorem Tryd.laysSlF06_f31 : Go.Proofs.SlLaysF0.n6 Tryd.prog Tryd.laysSlF06_f31_ren := {
  mixed := by kernel_rfl
  f6 := ⟨Tryd.f31.name, by decide, Tryd.func31.trans (congrArg some (by kernel_rfl))⟩
  f14 := ⟨Tryd.f52.name, by decide, Tryd.func52.trans (congrArg some (by kernel_rfl))⟩
  f15 := Tryd.func53.trans (congrArg some (by kernel_rfl))
  f20 := ⟨Tryd.f66.name, by decide, Tryd.func66.trans (congrArg some (by kernel_rfl))⟩
  f21 := ⟨Tryd.f67.name, by decide, Tryd.func67.trans (congrArg some (by kernel_rfl))⟩
  f22 := ⟨Tryd.f68.name, by decide, Tryd.func68.trans (congrArg some (by kernel_rfl))⟩
  f23 := ⟨Tryd.f69.name, by decide, Tryd.func69.trans (congrArg some (by kernel_rfl))⟩
  f24 := ⟨Tryd.f70.name, by decide, Tryd.func70.trans (congrArg some (by kernel_rfl))⟩
  f25 := ⟨Tryd.f71.name, by decide, Tryd.func71.trans (congrArg some (by kernel_rfl))⟩
  f26 := ⟨Tryd.f72.name, by decide, Tryd.func72.trans (congrArg some (by kernel_rfl))⟩
  f27 := ⟨Tryd.f73.name, by decide, Tryd.func73.trans (congrArg some (by kernel_rfl))⟩
  f28 := Tryd.func74.trans (congrArg some (by kernel_rfl))
  f29 := Tryd.func75.trans (congrArg some (by kernel_rfl))
  f46 := ⟨Tryd.f91.name, by decide, Tryd.func91.trans (congrArg some (by kernel_rfl))⟩
  f47 := Tryd.func92.trans (congrArg some (by kernel_rfl))
  f48 := Tryd.func93.trans (congrArg some (by kernel_rfl))
  f49 := ⟨Tryd.f94.name, by decide, Tryd.func94.trans (congrArg some (by kernel_rfl))⟩
  f50 := ⟨Tryd.f95.name, by decide, Tryd.func95.trans (congrArg some (by kernel_rfl))⟩
  f57 := ⟨Tryd.f113.name, by decide, Tryd.func113.trans (congrArg some (by kernel_rfl))⟩
  t0 := Tryd.underlying0
  a0 := Tryd.isAgg0
  z0 := Tryd.sizeOf0
  v0 := Tryd.zeroValue0
  t3 := Tryd.underlying3
  a3 := Tryd.isAgg3
  z3 := Tryd.sizeOf3
  v3 := Tryd.zeroValue3
  t4 := Tryd.underlying4
  a4 := Tryd.isAgg4
  z4 := Tryd.sizeOf4
  v4 := Tryd.zeroValue4
  t5 := Tryd.underlying5
  a5 := Tryd.isAgg5
  z5 := Tryd.sizeOf5
  v5 := Tryd.zeroValue5
  t9 := Tryd.underlying9
  a9 := Tryd.isAgg9
  z9 := Tryd.sizeOf9
  v9 := Tryd.zeroValue9
  t22 := Tryd.underlying25
  a22 := Tryd.isAgg25
  z22 := Tryd.sizeOf25
  v22 := Tryd.zeroValue25
  t25 := Tryd.underlying52
  a25 := Tryd.isAgg52
  z25 := Tryd.sizeOf52
  v25 := Tryd.zeroValue52
  t39 := Tryd.underlying80
  a39 := Tryd.isAgg80
  z39 := Tryd.sizeOf80
  v39 := Tryd.zeroValue80
  t45 := Tryd.underlying92
  a45 := Tryd.isAgg92
  z45 := Tryd.sizeOf92
  v45 := Tryd.zeroValue92
  t46 := Tryd.underlying93
  a46 := Tryd.isAgg93
  z46 := Tryd.sizeOf93
  v46 := Tryd.zeroValue93
  t50 := Tryd.underlying50
  a50 := Tryd.isAgg50
  z50 := Tryd.sizeOf50
  v50 := Tryd.zeroValue50
  t53 := Tryd.underlying99
  a53 := Tryd.isAgg99
  z53 := Tryd.sizeOf99
  v53 := Tryd.zeroValue99
  t55 := Tryd.underlying101
  a55 := Tryd.isAgg101
  z55 := Tryd.sizeOf101
  v55 := Tryd.zeroValue101
  t66 := Tryd.underlying114
  a66 := Tryd.isAgg114
  z66 := Tryd.sizeOf114
  v66 := Tryd.zeroValue114
  t70 := Tryd.underlying118
  a70 := Tryd.isAgg118
  z70 := Tryd.sizeOf118
  v70 := Tryd.zeroValue118
  t76 := Tryd.underlying131
  a76 := Tryd.isAgg131
  z76 := Tryd.sizeOf131
  v76 := Tryd.zeroValue131
  t77 := Tryd.underlying132
  a77 := Tryd.isAgg132
  z77 := Tryd.sizeOf132
  v77 := Tryd.zeroValue132 }
open Go.RowKit Go.Lib Go.Sort in
/-- **slices.SortFunc AT NO ELEMENT, A nil SLICE TOO: nothing turns.** (LAID AT THE INSTANCE 'slices.SortFunc[[][]int,[]int]': no walk: one application.) -/
theorem Tryd.slices_SortFunc_none_f31 {α : Type} [Inhabited α] (p : Option Addr) (cap : Nat) (fv : Value) (w : World) :
    Calls Tryd.prog 31 #[.slice p 0 cap, fv] w fun e w' => e = .returned (.tuple #[]) ∧ w' = w := AnyF.slices_SortFunc_none Tryd.laysSlF06_f31 p cap fv w
open Go.RowKit Go.Lib Go.Sort in
/-- **slices.SortFunc AT NO ELEMENT, A nil SLICE TOO: nothing turns.** (LAID AT THE INSTANCE 'slices.SortFunc[[][2]int,[2]int]': no walk: one application.) -/
theorem Tryd.slices_SortFunc_none_f42 {α : Type} [Inhabited α] (p : Option Addr) (cap : Nat) (fv : Value) (w : World) :
    Calls Tryd.prog 42 #[.slice p 0 cap, fv] w fun e w' => e = .returned (.tuple #[]) ∧ w' = w := AnyF.slices_SortFunc_none Tryd.laysSlF06_f42 p cap fv w
def Tryd.laysSlF06_f58_ren : Go.Shelf.Ren := ⟨fun | 6 => 58 | 15 => 53 | 14 => 78 | 28 => 74 | 29 => 75 | 20 => 97 | 21 => 98 | 22 => 99 | 23 => 100 | 24 => 101 | 25 => 102 | 26 => 103 | 27 => 104 | 46 => 114 | 47 => 92 | 48 => 93 | 49 => 115 | 50 => 116 | 57 => 123 | n => n, fun | 22 => 30 | 24 => 3 | 25 => 64 | 3 => 3 | 39 => 80 | 0 => 0 | 53 => 99 | 55 => 101 | 4 => 4 | 46 => 93 | 45 => 92 | 50 => 50 | 5 => 5 | 9 => 9 | 66 => 114 | 70 => 118 | 76 => 131 | 77 => 132 | n => n, fun | n => n⟩
theorem Tryd.laysSlF06_f58 : Go.Proofs.SlLaysF0.n6 Tryd.prog Tryd.laysSlF06_f58_ren := {
  mixed := by kernel_rfl
  f6 := ⟨Tryd.f58.name, by decide, Tryd.func58.trans (congrArg some (by kernel_rfl))⟩
  f14 := ⟨Tryd.f78.name, by decide, Tryd.func78.trans (congrArg some (by kernel_rfl))⟩
  f15 := Tryd.func53.trans (congrArg some (by kernel_rfl))
  f20 := ⟨Tryd.f97.name, by decide, Tryd.func97.trans (congrArg some (by kernel_rfl))⟩
  f21 := ⟨Tryd.f98.name, by decide, Tryd.func98.trans (congrArg some (by kernel_rfl))⟩
  f22 := ⟨Tryd.f99.name, by decide, Tryd.func99.trans (congrArg some (by kernel_rfl))⟩
  f23 := ⟨Tryd.f100.name, by decide, Tryd.func100.trans (congrArg some (by kernel_rfl))⟩
  f24 := ⟨Tryd.f101.name, by decide, Tryd.func101.trans (congrArg some (by kernel_rfl))⟩
  f25 := ⟨Tryd.f102.name, by decide, Tryd.func102.trans (congrArg some (by kernel_rfl))⟩
  f26 := ⟨Tryd.f103.name, by decide, Tryd.func103.trans (congrArg some (by kernel_rfl))⟩
  f27 := ⟨Tryd.f104.name, by decide, Tryd.func104.trans (congrArg some (by kernel_rfl))⟩
  f28 := Tryd.func74.trans (congrArg some (by kernel_rfl))
  f29 := Tryd.func75.trans (congrArg some (by kernel_rfl))
  f46 := ⟨Tryd.f114.name, by decide, Tryd.func114.trans (congrArg some (by kernel_rfl))⟩
  f47 := Tryd.func92.trans (congrArg some (by kernel_rfl))
  f48 := Tryd.func93.trans (congrArg some (by kernel_rfl))
  f49 := ⟨Tryd.f115.name, by decide, Tryd.func115.trans (congrArg some (by kernel_rfl))⟩
  f50 := ⟨Tryd.f116.name, by decide, Tryd.func116.trans (congrArg some (by kernel_rfl))⟩
  f57 := ⟨Tryd.f123.name, by decide, Tryd.func123.trans (congrArg some (by kernel_rfl))⟩
  t0 := Tryd.underlying0
  a0 := Tryd.isAgg0
  z0 := Tryd.sizeOf0
  v0 := Tryd.zeroValue0
  t3 := Tryd.underlying3
  a3 := Tryd.isAgg3
  z3 := Tryd.sizeOf3
  v3 := Tryd.zeroValue3
  t4 := Tryd.underlying4
  a4 := Tryd.isAgg4
  z4 := Tryd.sizeOf4
  v4 := Tryd.zeroValue4
  t5 := Tryd.underlying5
  a5 := Tryd.isAgg5
  z5 := Tryd.sizeOf5
  v5 := Tryd.zeroValue5
  t9 := Tryd.underlying9
  a9 := Tryd.isAgg9
  z9 := Tryd.sizeOf9
  v9 := Tryd.zeroValue9
  t22 := Tryd.underlying30
  a22 := Tryd.isAgg30
  z22 := Tryd.sizeOf30
  v22 := Tryd.zeroValue30
  t25 := Tryd.underlying64
  a25 := Tryd.isAgg64
  z25 := Tryd.sizeOf64
  v25 := Tryd.zeroValue64
  t39 := Tryd.underlying80
  a39 := Tryd.isAgg80
  z39 := Tryd.sizeOf80
  v39 := Tryd.zeroValue80
  t45 := Tryd.underlying92
  a45 := Tryd.isAgg92
  z45 := Tryd.sizeOf92
  v45 := Tryd.zeroValue92
  t46 := Tryd.underlying93
  a46 := Tryd.isAgg93
  z46 := Tryd.sizeOf93
  v46 := Tryd.zeroValue93
  t50 := Tryd.underlying50
  a50 := Tryd.isAgg50
  z50 := Tryd.sizeOf50
  v50 := Tryd.zeroValue50
  t53 := Tryd.underlying99
  a53 := Tryd.isAgg99
  z53 := Tryd.sizeOf99
  v53 := Tryd.zeroValue99
  t55 := Tryd.underlying101
  a55 := Tryd.isAgg101
  z55 := Tryd.sizeOf101
  v55 := Tryd.zeroValue101
  t66 := Tryd.underlying114
  a66 := Tryd.isAgg114
  z66 := Tryd.sizeOf114
  v66 := Tryd.zeroValue114
  t70 := Tryd.underlying118
  a70 := Tryd.isAgg118
  z70 := Tryd.sizeOf118
  v70 := Tryd.zeroValue118
  t76 := Tryd.underlying131
  a76 := Tryd.isAgg131
  z76 := Tryd.sizeOf131
  v76 := Tryd.zeroValue131
  t77 := Tryd.underlying132
  a77 := Tryd.isAgg132
  z77 := Tryd.sizeOf132
  v77 := Tryd.zeroValue132 }
open Go.RowKit Go.Lib Go.Sort in
/-- **slices.SortFunc AT NO ELEMENT, A nil SLICE TOO: nothing turns.** (LAID AT THE INSTANCE 'slices.SortFunc[[]int,int]': no walk: one application.) -/
theorem Tryd.slices_SortFunc_none_f58 {α : Type} [Inhabited α] (p : Option Addr) (cap : Nat) (fv : Value) (w : World) :
    Calls Tryd.prog 58 #[.slice p 0 cap, fv] w fun e w' => e = .returned (.tuple #[]) ∧ w' = w := AnyF.slices_SortFunc_none Tryd.laysSlF06_f58 p cap fv w
open Go.RowKit Go.Lib Go.Sort in
/-- **slices.SortFunc AT ONE CELL, UNDER A 'cmp' THAT PARTS WHATEVER TWO THAT ARE NOT ONE: THE ROW HOLDS core's 'mergeSort'.** (LAID AT THE INSTANCE 'slices.SortFunc[[][]int,[]int]': no walk: one application.) -/
theorem Tryd.slices_SortFunc_total_f31 {α : Type} [Inhabited α] (enc : α → Value) (h1 : OneCell enc) (cf : α → α → Int) (hO : SWO (ltOf cf)) (g : Nat) (cb : Array Value) (blk off cap : Nat) (d : Array α) (w : World) (eg : ∀ args w, (callFunc g args).run Tryd.prog w = .ok (.enter g args) w) (hcmp : CmpLays1 Tryd.prog g cb enc cf blk off d.size w) (hH : Holds enc w blk off d) (hblk : blk < w.heap.size) (hsz : d.size < 4611686018427387904) (hT : ∀ x y, (ltOf cf) x y = false → (ltOf cf) y x = false → x = y) :
    Calls Tryd.prog 31 #[.slice (some ⟨blk, off, none⟩) d.size cap, .func (.func g) #[] cb] w fun e w' =>
      e = .returned (.tuple #[]) ∧ ∃ n os, w' = sortWorld enc w blk off n (d.toList.mergeSort fun x y => !(ltOf cf) y x).toArray os := Any.slices_SortFunc_total Tryd.laysSlF6_f31 enc h1 cf hO g cb blk off cap d w eg hcmp hH hblk hsz hT
open Go.RowKit Go.Lib Go.Sort in
/-- **slices.SortFunc AT ONE CELL, UNDER A 'cmp' THAT PARTS WHATEVER TWO THAT ARE NOT ONE: THE ROW HOLDS core's 'mergeSort'.** (LAID AT THE INSTANCE 'slices.SortFunc[[]int,int]': no walk: one application.) -/
theorem Tryd.slices_SortFunc_total_f58 {α : Type} [Inhabited α] (enc : α → Value) (h1 : OneCell enc) (cf : α → α → Int) (hO : SWO (ltOf cf)) (g : Nat) (cb : Array Value) (blk off cap : Nat) (d : Array α) (w : World) (eg : ∀ args w, (callFunc g args).run Tryd.prog w = .ok (.enter g args) w) (hcmp : CmpLays1 Tryd.prog g cb enc cf blk off d.size w) (hH : Holds enc w blk off d) (hblk : blk < w.heap.size) (hsz : d.size < 4611686018427387904) (hT : ∀ x y, (ltOf cf) x y = false → (ltOf cf) y x = false → x = y) :
    Calls Tryd.prog 58 #[.slice (some ⟨blk, off, none⟩) d.size cap, .func (.func g) #[] cb] w fun e w' =>
      e = .returned (.tuple #[]) ∧ ∃ n os, w' = sortWorld enc w blk off n (d.toList.mergeSort fun x y => !(ltOf cf) y x).toArray os := Any.slices_SortFunc_total Tryd.laysSlF6_f58 enc h1 cf hO g cb blk off cap d w eg hcmp hH hblk hsz hT
open Go.RowKit Go.Lib Go.Sort in
/-- .. at structs. (LAID AT THE INSTANCE 'slices.SortFunc[[][2]int,[2]int]': no walk: one application.) -/
theorem Tryd.slices_SortFunc_total {α : Type} [Inhabited α] (k : Nat) (aE : ∀ w, (isAgg 40).run Tryd.prog w = .ok true w) (zE : ∀ w, (Go.sizeOf 40).run Tryd.prog w = .ok k w) (enc : α → List Value) (hk : ∀ x, (enc x).length = k) (h1 : ∀ x, ∀ v ∈ enc x, v.oneCell' = true) (cf : α → α → Int) (hO : SWO (ltOf cf)) (g : Nat) (cb : Array Value) (blk off cap : Nat) (d : Array α) (w : World) (eg : ∀ args w, (callFunc g args).run Tryd.prog w = .ok (.enter g args) w) (hcmp : CmpLays Tryd.prog g cb enc k cf blk off d.size w) (hH : HoldsK enc k w blk off d) (hblk : blk < w.heap.size) (hsz : d.size < 4611686018427387904) (hT : ∀ x y, (ltOf cf) x y = false → (ltOf cf) y x = false → x = y) :
    Calls Tryd.prog 42 #[.slice (some ⟨blk, off, none⟩) d.size cap, .func (.func g) #[] cb] w fun e w' =>
      e = .returned (.tuple #[]) ∧ ∃ n os, w' = sortWorldK enc k w blk off n (d.toList.mergeSort fun x y => !(ltOf cf) y x).toArray os := AnyQ.slices_SortFunc_total Tryd.laysSlF06_f42 k aE zE enc hk h1 cf hO g cb blk off cap d w eg hcmp hH hblk hsz hT
end Go.Proofs

/- A row of the call's own whose elements are one cell each, laid before slices.SortFunc: what the sort asks of the row, and the row behind it, its elements permuted. -/
set_option linter.unusedVariables false
set_option linter.unusedSimpArgs false
namespace Go.Proofs.YtnllgjloimoebaaDoor.X
open Go.RowKit Go.Sort Go.Lib Go.Proofs.YtnllgjloimoebaaDoorW.PrintWords

section
variable {α : Type} [Inhabited α] {enc : α → Value} {w : World} {blk off m : Nat} {dk : Array α} {os : Array Obj}
theorem sw_size : (sortWorld enc w blk off m dk os).heap.size = w.heap.size + os.size := by
  unfold sortWorld Go.Sort.grow
  show (_ ++ os).size = _
  rw [Array.size_append, size_putRow]
  rfl
theorem sw_at (k : Nat) (hk : k < w.heap.size) : (sortWorld enc w blk off m dk os).heap[k]? = (w.heap.modify blk (onCells (putCells enc off dk)))[k]? := by
  show (_ ++ os)[k]? = _
  rw [Array.getElem?_append_left (by rw [size_putRow]; exact hk)]
  rfl
theorem sw_other (k : Nat) (hk : k < w.heap.size) (hne : k ≠ blk) : (sortWorld enc w blk off m dk os).heap[k]? = w.heap[k]? := by
  rw [sw_at k hk, Array.getElem?_modify, if_neg (fun h => hne h.symm)]
theorem sw_blk {c : Array Value} {e : TypeId} {fr : Nat × Nat} (hb : w.heap[blk]? = some (.cells c e fr)) : (sortWorld enc w blk off m dk os).heap[blk]? = some (.cells (putCells enc off dk c) e fr) := by
  rw [sw_at blk (Array.getElem?_eq_some_iff.1 hb).1, Array.getElem?_modify, if_pos rfl, hb]
  rfl
theorem sw_below {w0 : World} (h : Below w0.heap.size w0 w) (hblk : w0.heap.size ≤ blk) : Below w0.heap.size w0 (sortWorld enc w blk off m dk os) :=
  ⟨h.os, h.tape, h.output, by have := h.size; rw [sw_size]; omega, fun k hk => (sw_other k (by have := h.size; omega) (by omega)).trans (h.block k hk)⟩
end

theorem putCells_at {α : Type} [Inhabited α] (enc : α → Value) (d : Array α) (c : Array Value) (hd : d.size ≤ c.size) (j : Nat) (hj : j < d.size) : (putCells enc 0 d c)[j]? = some (enc d[j]!) := by
  unfold putCells
  rw [Array.getElem?_mapIdx, Array.getElem?_eq_getElem (by omega)]
  simp [hj]
theorem putCells_size {α : Type} [Inhabited α] (enc : α → Value) (d : Array α) (c : Array Value) : (putCells enc 0 d c).size = c.size := by simp [putCells]
theorem putCells_take {α : Type} [Inhabited α] (enc : α → Value) (d : Array α) (c : Array Value) (hd : d.size ≤ c.size) : (putCells enc 0 d c).toList.take d.size = d.toList.map enc := by
  apply List.ext_getElem?
  intro j
  rw [List.getElem?_take]
  split
  · rename_i hj
    rw [Array.getElem?_toList, putCells_at enc d c hd j hj, List.getElem?_map, Array.getElem?_toList, Array.getElem?_eq_getElem hj, getElem!_pos d j hj]
    rfl
  · rename_i hj
    rw [List.getElem?_eq_none (by simpa using hj)]

theorem sort_row {α : Type} {d : Kd α} (hsz : d.sz = 1) {e base g n cap m : Nat} {w : World} {ok : Nat → Prop} {xs : List α} (z : α) (h : Kd.S d e w base ok (.slice (some ⟨g, 0, none⟩) n cap) xs) (hl : xs.length = m + 1) :
    ∃ inn : Fin (m + 1) → Value, OneCell inn ∧ Holds inn w g 0 (List.finRange (m + 1)).toArray ∧ g < w.heap.size ∧ base ≤ g ∧ n = m + 1 ∧ (∀ i : Fin (m + 1), d.M w base (fun k => ok k ∧ k ≠ g) (xs.getD i.val z) [inn i]) ∧
      ∀ (q : Nat) (σ : List (Fin (m + 1))) (os : Array Obj), σ.Perm (List.finRange (m + 1)) → Kd.S d e (sortWorld inn w g 0 q σ.toArray os) base ok (.slice (some ⟨g, 0, none⟩) n cap) (σ.map fun i => xs.getD i.val z) := by
  have hn := (Kd.S_reads' h).1
  obtain ⟨f, h0, inner, ho, hr⟩ := h
  have hsz' : (Kd.tag f d).sz = 1 := hsz
  rw [hsz'] at hr ho
  obtain ⟨hin, ho⟩ := ho
  rw [List.length_zipIdx, Nat.mul_one] at hin
  rcases ho with ⟨hv, _⟩ | ⟨g', cap', cur, hv, hb, hheap, hnc, hcm, hcs, htk⟩
  · cases hv
  injection hv with ha _ hcap
  injection ha with ha
  injection ha with ha _
  subst ha
  subst hcap
  rw [List.length_zipIdx, Nat.mul_one] at htk
  rw [Nat.mul_one] at hcs
  rw [List.length_zipIdx] at hnc
  have hgo : (Value.slice (some ⟨g, 0, none⟩) n cap).ownBlock = some g := rfl
  have hglt : g < w.heap.size := (Array.getElem?_eq_some_iff.1 hheap).1
  have hcell : ∀ j, j < m + 1 → cur[j]? = some (inner.getD j (.slice none 0 0)) := by
    intro j hj
    rw [List.getD_eq_getElem?_getD, ← htk, List.getElem?_take, if_pos (by omega), Array.getElem?_toList, Array.getElem?_eq_getElem (by omega)]
    rfl
  have hseg : ∀ i : Fin (m + 1), (inner.drop (i.val * 1)).take 1 = [inner.getD i.val (.slice none 0 0)] := by
    intro i
    have hi : i.val < inner.length := by have := i.2; omega
    rw [Nat.mul_one, List.getD_eq_getElem?_getD, List.getElem?_eq_getElem hi, List.drop_eq_getElem_cons hi]
    rfl
  have hM : ∀ i : Fin (m + 1), d.M w base (fun k => (ok k ∧ k ≠ g) ∧ f k = i.val) (xs.getD i.val z) [inner.getD i.val (.slice none 0 0)] := by
    intro i
    have hi : i.val < xs.length := by have := i.2; omega
    have h1 := hr.2 i.val (xs.getD i.val z, i.val) (by rw [List.getD_eq_getElem?_getD, List.getElem?_eq_getElem hi]; exact Kd.zip_at (List.getElem?_eq_getElem hi))
    rw [hseg i] at h1
    exact d.M_mono (fun k hk => ⟨⟨hk.1.1, fun e => hk.1.2 (by rw [e]; rfl)⟩, hk.2⟩) h1
  refine ⟨fun i => inner.getD i.val (.slice none 0 0), ?_, ?_, hglt, hb, by omega, fun i => d.M_mono (fun k hk => hk.1) (hM i), ?_⟩
  · intro i
    have := d.K_one (d.K_of_M (hM i)) _ (List.mem_singleton.2 rfl)
    exact this
  · intro j hj
    have hj' : j < m + 1 := by simpa using hj
    refine ⟨?_, Lib.frozen_of_heap hheap _⟩
    rw [Lib.cell_of_heap hheap, Nat.zero_add, hcell j hj']
    congr 2
    rw [getElem!_pos _ j hj]
    simp
  · intro q σ os hσ
    have hlen : σ.length = m + 1 := by rw [hσ.length_eq, List.length_finRange]
    have hnd : σ.Nodup := hσ.nodup_iff.2 (List.nodup_finRange _)
    refine ⟨fun k => if hk : f k < m + 1 then σ.idxOf ⟨f k, hk⟩ else 0, h0, σ.map fun i => inner.getD i.val (.slice none 0 0), ?_, ?_, ?_⟩
    · show World.ownsRow _ base e d.sz _ _ _
      rw [hsz]
      refine ⟨by rw [List.length_map, List.length_zipIdx, List.length_map, Nat.mul_one], .inr ⟨g, cap, _, by rw [List.length_zipIdx, List.length_map, hlen]; congr 1; omega, hb, sw_blk hheap, by rw [List.length_zipIdx, List.length_map, hlen]; omega, hcm, by rw [putCells_size, hcs, Nat.mul_one], ?_⟩⟩
      rw [List.length_zipIdx, List.length_map, Nat.mul_one]
      have := putCells_take (fun i : Fin (m + 1) => inner.getD i.val (.slice none 0 0)) σ.toArray cur (by simp; omega)
      simpa using this
    · show _ = _ * d.sz
      rw [hsz, List.length_map, List.length_zipIdx, List.length_map, Nat.mul_one]
    · intro j p hj
      rw [List.getElem?_zipIdx, List.getElem?_map, Option.map_map] at hj
      obtain ⟨i, hi, rfl⟩ := Option.map_eq_some_iff.1 hj
      have hjl := (List.getElem?_eq_some_iff.1 hi).1
      have hs : ((σ.map fun i => inner.getD i.val (.slice none 0 0)).drop (j * (Kd.tag f d).sz)).take (Kd.tag f d).sz = [inner.getD i.val (.slice none 0 0)] := by
        rw [hsz', Nat.mul_one, List.drop_eq_getElem_cons (by simpa using hjl)]
        simp [(List.getElem?_eq_some_iff.1 hi).2]
      have hidx : σ.idxOf i = j := by
        have h3 := (List.getElem?_eq_some_iff.1 hi).2
        rw [← h3]
        exact hnd.idxOf_getElem j hjl
      show d.M _ base _ (xs.getD i.val z) _
      have h4 := d.M_move (w1 := sortWorld (fun i : Fin (m + 1) => inner.getD i.val (.slice none 0 0)) w g 0 q σ.toArray os) (ok := fun k => (((ok k ∧ k ≠ g) ∧ f k = i.val) ∧ k < w.heap.size)) (fun k hk => sw_other k hk.2 hk.1.1.2) (d.M_mono (fun k hk => ⟨hk.1, hk.2.2.1⟩) (d.M_bound (hM i)))
      change d.M _ base _ (xs.getD i.val z) (((σ.map fun i => inner.getD i.val (.slice none 0 0)).drop (j * (Kd.tag f d).sz)).take (Kd.tag f d).sz)
      rw [hs]
      refine d.M_mono (fun k hk => ⟨⟨hk.1.1.1, fun e => hk.1.1.2 (by rw [hgo] at e; injection e)⟩, ?_⟩) h4
      show (if hk : f k < m + 1 then σ.idxOf ⟨f k, hk⟩ else 0) = 0 + j
      have h5 : f k < m + 1 := by rw [hk.1.2]; exact i.2
      rw [dif_pos h5, Nat.zero_add, ← hidx]
      congr 1
      exact Fin.ext hk.1.2
end Go.Proofs.YtnllgjloimoebaaDoor.X

-- By xprint.py (this session's own program over the kit's print): not trusted: Lean checks it.
namespace Go.Proofs.YtnllgjloimoebaaDoor.X
open Go.RowKit Go.Proofs.YtnllgjloimoebaaDoorW.PrintWords Go.Proofs.YtnllgjloimoebaaDoorW.PrintLast Go.Proofs.YtnllgjloimoebaaDoorW.PrintMore
attribute [local go_sem] max2_int min2_int max_two min_two max_three min_three max_four min_four   -- for this text's walks alone
set_option linter.unusedVariables false
set_option linter.unusedSimpArgs false

/-! ### cmp_Or_int: function 44 -/
def cmp_Or_int.l0 : Nat → Int → List Int → Int → Int → Option (Int)
 | 0, _, _, _, _ => none
 | k + 1, x3, x6, x7, x8 => if x8 < x7 then (if 0 ≤ x8 then (if x8 < (x6.length : Int) then (if (rd x6 x8) = x3 then (cmp_Or_int.l0 k x3 x6 x7 (wrap64 (x8 + 1))) else (some (rd x6 x8))) else (none)) else (none)) else (some x3)
def cmp_Or_int.f (k : Nat) (l0 : List Int) : Option (Int) := cmp_Or_int.l0 k 0 l0 (l0.length : Int) 0
set_option maxHeartbeats 8000000 in
set_option maxRecDepth 100000 in
theorem cmp_Or_int.calls (k : Nat) (A0 : Option Addr) (c0 : Nat) (l0 : List Int) (r : Int) (w : World) (hr0 : Kd.C (Kd.int .i64) w A0 l0.length l0) (hc0 : l0.length ≤ c0) (h : cmp_Or_int.f k l0 = some r) :
  Calls Tryd.prog 44 #[.slice A0 l0.length c0] w fun e w' => e = .returned (.int .i64 r) ∧ Drawn0 w w' := by
 have HR0 := Aside0.mk hr0
 have HC0 := Aside0.mk hc0
 clear hr0 hc0
 have H : (cmp_Or_int.l0 k 0 l0 (l0.length : Int) 0) = some r := h
 clear h
 have H' := Aside0.mk H
 clear H
 go_enter Tryd.func44, Tryd.ntmps44
 go_wp2
 go_loopg [8] k (fun kq v8 w' => ∃ (x8_1 : Int), v8 = .int .i64 x8_1 ∧ Aside0 (cmp_Or_int.l0 kq 0 l0 (l0.length : Int) x8_1 = some r) ∧ Aside0 (kq ≤ k) ∧ Drawn0 w w')
 case atStart => exact ⟨(0), (by first | rfl | (simp; done) | (simp [*]; done)), H', ⟨Nat.le_refl _⟩, by repeat (first | exact Drawn0.refl _ | apply Drawn0.step)⟩
 case round =>
  clear H'
  obtain ⟨x8_1, rfl, HA, HK1, ⟨m1, rfl⟩⟩ := hrel
  cases gk with
  | zero => exact absurd HA.out (by simp [cmp_Or_int.l0])
  | succ k1 =>
   have H := HA.out
   clear HA
   simp only [cmp_Or_int.l0] at H
   by_cases c2 : x8_1 < (l0.length : Int)
   ·
    rw [if_pos c2] at H
    have c2b0 : decide (x8_1 < (l0.length : Int)) = true := decide_eq_true c2
    clear c2
    by_cases c3 : 0 ≤ x8_1
    ·
     rw [if_pos c3] at H
     have c3b0 : decide (0 ≤ x8_1) = true := decide_eq_true c3
     clear c3
     by_cases c4 : x8_1 < (l0.length : Int)
     ·
      rw [if_pos c4] at H
      have c4b0 : decide (x8_1 < (l0.length : Int)) = true := decide_eq_true c4
      clear c4
      by_cases c5 : (rd l0 x8_1) = 0
      ·
       rw [if_pos c5] at H
       have c5b0 : ((rd l0 x8_1) == 0) = true := beq_iff_eq.mpr c5
       have c5b1 : ((rd l0 x8_1) != 0) = false := bne_eq_false_iff_eq.mpr c5
       clear c5
       have H' := Aside0.mk H
       clear H
       have p323 : 0 ≤ (x8_1 : Int) := of_decide_eq_true (by first | (with_reducible assumption) | assumption)
       have q323 : x8_1 < (l0.length : Int) := of_decide_eq_true (by first | (with_reducible assumption) | assumption)
       obtain ⟨ad323, e323, hx323_0⟩ := Kd.at_int HR0.out x8_1 p323 q323
       cases e323
       replace p323 := eq_true p323
       replace q323 := eq_true q323
       go_wp2
       go_roundg k1
       case measure => have := HK1.out; omega
       case rel => exact ⟨(wrap64 (x8_1 + 1)), (by first | rfl | (simp; done) | (simp [*]; done)), H', ⟨by have := HK1.out; omega⟩, by repeat (first | exact Drawn0.refl _ | apply Drawn0.step)⟩
      ·
       rw [if_neg c5] at H
       have c5b0 : ((rd l0 x8_1) == 0) = false := beq_eq_false_iff_ne.mpr c5
       have c5b1 : ((rd l0 x8_1) != 0) = true := bne_iff_ne.mpr c5
       obtain rfl := Option.some.inj H
       have p323 : 0 ≤ (x8_1 : Int) := of_decide_eq_true (by first | (with_reducible assumption) | assumption)
       have q323 : x8_1 < (l0.length : Int) := of_decide_eq_true (by first | (with_reducible assumption) | assumption)
       obtain ⟨ad323, e323, hx323_0⟩ := Kd.at_int HR0.out x8_1 p323 q323
       cases e323
       replace p323 := eq_true p323
       replace q323 := eq_true q323
       go_wp2
       go_ret
       exact ⟨by first | rfl | (simp; done) | (simp [*]; done), by repeat (first | exact Drawn0.refl _ | apply Drawn0.step)⟩
     ·
      rw [if_neg c4] at H
      exact absurd H (by simp)
    ·
     rw [if_neg c3] at H
     exact absurd H (by simp)
   ·
    rw [if_neg c2] at H
    have c2b0 : decide (x8_1 < (l0.length : Int)) = false := decide_eq_false c2
    clear c2
    obtain rfl := Option.some.inj H
    go_wp2
    go_ret
    exact ⟨by first | rfl | (simp; done) | (simp [*]; done), by repeat (first | exact Drawn0.refl _ | apply Drawn0.step)⟩

end Go.Proofs.YtnllgjloimoebaaDoor.X

-- By xprint.py (this session's own program over the kit's print): not trusted: Lean checks it.
namespace Go.Proofs.YtnllgjloimoebaaDoor.X
open Go.RowKit Go.Proofs.YtnllgjloimoebaaDoorW.PrintWords Go.Proofs.YtnllgjloimoebaaDoorW.PrintLast Go.Proofs.YtnllgjloimoebaaDoorW.PrintMore
attribute [local go_sem] max2_int min2_int max_two min_two max_three min_three max_four min_four   -- for this text's walks alone
set_option linter.unusedVariables false
set_option linter.unusedSimpArgs false

/-! ### cmp_isNaN_int: function 61 -/
def cmp_isNaN_int.f (a0 : Int) : Option (Bool) := some (a0 != a0)
set_option maxHeartbeats 8000000 in
set_option maxRecDepth 100000 in
theorem cmp_isNaN_int.calls (a0 : Int) (r : Bool) (w : World) (h : cmp_isNaN_int.f a0 = some r) :
  Calls Tryd.prog 61 #[.int .i64 a0] w fun e w' => e = .returned (.bool r) ∧ Drawn0 w w' := by
 have H : (some (a0 != a0)) = some r := h
 clear h
 obtain rfl := Option.some.inj H
 go_enter Tryd.func61, Tryd.ntmps61
 go_wp2
 go_ret
 exact ⟨by first | rfl | (simp; done) | (simp [*]; done), by repeat (first | exact Drawn0.refl _ | apply Drawn0.step)⟩

end Go.Proofs.YtnllgjloimoebaaDoor.X

-- By xprint.py (this session's own program over the kit's print): not trusted: Lean checks it.
namespace Go.Proofs.YtnllgjloimoebaaDoor.X
open Go.RowKit Go.Proofs.YtnllgjloimoebaaDoorW.PrintWords Go.Proofs.YtnllgjloimoebaaDoorW.PrintLast Go.Proofs.YtnllgjloimoebaaDoorW.PrintMore
attribute [local go_sem] max2_int min2_int max_two min_two max_three min_three max_four min_four   -- for this text's walks alone
set_option linter.unusedVariables false
set_option linter.unusedSimpArgs false

/-! ### cmp_Compare_int: function 45 -/
def cmp_Compare_int.f (a0 : Int) (a1 : Int) : Option (Int) := (cmp_isNaN_int.f a0).bind fun t324 => ((cmp_isNaN_int.f a1).bind fun t325 => (if t324 = true then (if t325 = true then (some 0) else (some (-1))) else (if t325 = true then (some 1) else (if a0 < a1 then (some (-1)) else (if a0 > a1 then (some 1) else (some 0))))))
set_option maxHeartbeats 8000000 in
set_option maxRecDepth 100000 in
theorem cmp_Compare_int.calls (a0 : Int) (a1 : Int) (r : Int) (w : World) (h : cmp_Compare_int.f a0 a1 = some r) :
  Calls Tryd.prog 45 #[.int .i64 a0, .int .i64 a1] w fun e w' => e = .returned (.int .i64 r) ∧ Drawn0 w w' := by
 have H : ((cmp_isNaN_int.f a0).bind fun t324 => ((cmp_isNaN_int.f a1).bind fun t325 => (if t324 = true then (if t325 = true then (some 0) else (some (-1))) else (if t325 = true then (some 1) else (if a0 < a1 then (some (-1)) else (if a0 > a1 then (some 1) else (some 0))))))) = some r := h
 clear h
 replace H := Option.bind_eq_some_iff.mp H
 obtain ⟨t324, A30, H⟩ := H
 replace H : ((cmp_isNaN_int.f a1).bind fun t325 => (if t324 = true then (if t325 = true then (some 0) else (some (-1))) else (if t325 = true then (some 1) else (if a0 < a1 then (some (-1)) else (if a0 > a1 then (some 1) else (some 0)))))) = some r := H
 have A3 := Aside0.mk A30
 clear A30
 replace H := Option.bind_eq_some_iff.mp H
 obtain ⟨t325, A40, H⟩ := H
 replace H : (if t324 = true then (if t325 = true then (some 0) else (some (-1))) else (if t325 = true then (some 1) else (if a0 < a1 then (some (-1)) else (if a0 > a1 then (some 1) else (some 0))))) = some r := H
 have A4 := Aside0.mk A40
 clear A40
 by_cases c5 : t324 = true
 ·
  subst c5
  have H1 : (if t325 = true then (some 0) else (some (-1))) = some r := by rw [if_pos rfl] at H; exact H
  clear H
  have H := H1
  clear H1
  by_cases c6 : t325 = true
  ·
   subst c6
   have H1 : (some 0) = some r := by rw [if_pos rfl] at H; exact H
   clear H
   have H := H1
   clear H1
   obtain rfl := Option.some.inj H
   go_enter Tryd.func45, Tryd.ntmps45
   go_wp2_with (first | ((with_reducible refine gate_callee (f := 61) rfl ?_); refine goesL_ (some 8) rfl rfl Tryd.func61 (by kernel_rfl) rfl #[.int .i64 a0] rfl (by (try simp only [List.map_toArray, List.map_cons, List.map_nil]); first | done | rfl | (simp only [List.length_drop, List.length_take]; rfl)) ?_; (with_reducible refine (cmp_isNaN_int.calls a0 true _ A3.out).mono ?_); rintro e w' ⟨rfl, ⟨nd, rfl⟩⟩; refine ⟨_, rfl, ?_⟩) | ((with_reducible refine gate_callee (f := 61) rfl ?_); refine goesL_ (some 10) rfl rfl Tryd.func61 (by kernel_rfl) rfl #[.int .i64 a1] rfl (by (try simp only [List.map_toArray, List.map_cons, List.map_nil]); first | done | rfl | (simp only [List.length_drop, List.length_take]; rfl)) ?_; (with_reducible refine (cmp_isNaN_int.calls a1 true _ A4.out).mono ?_); rintro e w' ⟨rfl, ⟨nd, rfl⟩⟩; refine ⟨_, rfl, ?_⟩))
   go_ret
   exact ⟨by first | rfl | (simp; done) | (simp [*]; done), by repeat (first | exact Drawn0.refl _ | apply Drawn0.step)⟩
  ·
   replace c6 := Bool.eq_false_iff.mpr c6
   subst c6
   have H1 : (some (-1)) = some r := by rw [if_neg (show ¬ (false = true) by decide)] at H; exact H
   clear H
   have H := H1
   clear H1
   obtain rfl := Option.some.inj H
   go_enter Tryd.func45, Tryd.ntmps45
   go_wp2_with (first | ((with_reducible refine gate_callee (f := 61) rfl ?_); refine goesL_ (some 8) rfl rfl Tryd.func61 (by kernel_rfl) rfl #[.int .i64 a0] rfl (by (try simp only [List.map_toArray, List.map_cons, List.map_nil]); first | done | rfl | (simp only [List.length_drop, List.length_take]; rfl)) ?_; (with_reducible refine (cmp_isNaN_int.calls a0 true _ A3.out).mono ?_); rintro e w' ⟨rfl, ⟨nd, rfl⟩⟩; refine ⟨_, rfl, ?_⟩) | ((with_reducible refine gate_callee (f := 61) rfl ?_); refine goesL_ (some 10) rfl rfl Tryd.func61 (by kernel_rfl) rfl #[.int .i64 a1] rfl (by (try simp only [List.map_toArray, List.map_cons, List.map_nil]); first | done | rfl | (simp only [List.length_drop, List.length_take]; rfl)) ?_; (with_reducible refine (cmp_isNaN_int.calls a1 false _ A4.out).mono ?_); rintro e w' ⟨rfl, ⟨nd, rfl⟩⟩; refine ⟨_, rfl, ?_⟩))
   go_ret
   exact ⟨by first | rfl | (simp; done) | (simp [*]; done), by repeat (first | exact Drawn0.refl _ | apply Drawn0.step)⟩
 ·
  replace c5 := Bool.eq_false_iff.mpr c5
  subst c5
  have H1 : (if t325 = true then (some 1) else (if a0 < a1 then (some (-1)) else (if a0 > a1 then (some 1) else (some 0)))) = some r := by rw [if_neg (show ¬ (false = true) by decide)] at H; exact H
  clear H
  have H := H1
  clear H1
  by_cases c7 : t325 = true
  ·
   subst c7
   have H1 : (some 1) = some r := by rw [if_pos rfl] at H; exact H
   clear H
   have H := H1
   clear H1
   obtain rfl := Option.some.inj H
   go_enter Tryd.func45, Tryd.ntmps45
   go_wp2_with (first | ((with_reducible refine gate_callee (f := 61) rfl ?_); refine goesL_ (some 8) rfl rfl Tryd.func61 (by kernel_rfl) rfl #[.int .i64 a0] rfl (by (try simp only [List.map_toArray, List.map_cons, List.map_nil]); first | done | rfl | (simp only [List.length_drop, List.length_take]; rfl)) ?_; (with_reducible refine (cmp_isNaN_int.calls a0 false _ A3.out).mono ?_); rintro e w' ⟨rfl, ⟨nd, rfl⟩⟩; refine ⟨_, rfl, ?_⟩) | ((with_reducible refine gate_callee (f := 61) rfl ?_); refine goesL_ (some 10) rfl rfl Tryd.func61 (by kernel_rfl) rfl #[.int .i64 a1] rfl (by (try simp only [List.map_toArray, List.map_cons, List.map_nil]); first | done | rfl | (simp only [List.length_drop, List.length_take]; rfl)) ?_; (with_reducible refine (cmp_isNaN_int.calls a1 true _ A4.out).mono ?_); rintro e w' ⟨rfl, ⟨nd, rfl⟩⟩; refine ⟨_, rfl, ?_⟩))
   go_ret
   exact ⟨by first | rfl | (simp; done) | (simp [*]; done), by repeat (first | exact Drawn0.refl _ | apply Drawn0.step)⟩
  ·
   replace c7 := Bool.eq_false_iff.mpr c7
   subst c7
   have H1 : (if a0 < a1 then (some (-1)) else (if a0 > a1 then (some 1) else (some 0))) = some r := by rw [if_neg (show ¬ (false = true) by decide)] at H; exact H
   clear H
   have H := H1
   clear H1
   by_cases c8 : a0 < a1
   ·
    rw [if_pos c8] at H
    have c8b0 : decide (a0 < a1) = true := decide_eq_true c8
    clear c8
    obtain rfl := Option.some.inj H
    go_enter Tryd.func45, Tryd.ntmps45
    go_wp2_with (first | ((with_reducible refine gate_callee (f := 61) rfl ?_); refine goesL_ (some 8) rfl rfl Tryd.func61 (by kernel_rfl) rfl #[.int .i64 a0] rfl (by (try simp only [List.map_toArray, List.map_cons, List.map_nil]); first | done | rfl | (simp only [List.length_drop, List.length_take]; rfl)) ?_; (with_reducible refine (cmp_isNaN_int.calls a0 false _ A3.out).mono ?_); rintro e w' ⟨rfl, ⟨nd, rfl⟩⟩; refine ⟨_, rfl, ?_⟩) | ((with_reducible refine gate_callee (f := 61) rfl ?_); refine goesL_ (some 10) rfl rfl Tryd.func61 (by kernel_rfl) rfl #[.int .i64 a1] rfl (by (try simp only [List.map_toArray, List.map_cons, List.map_nil]); first | done | rfl | (simp only [List.length_drop, List.length_take]; rfl)) ?_; (with_reducible refine (cmp_isNaN_int.calls a1 false _ A4.out).mono ?_); rintro e w' ⟨rfl, ⟨nd, rfl⟩⟩; refine ⟨_, rfl, ?_⟩))
    go_ret
    exact ⟨by first | rfl | (simp; done) | (simp [*]; done), by repeat (first | exact Drawn0.refl _ | apply Drawn0.step)⟩
   ·
    rw [if_neg c8] at H
    have c8b0 : decide (a0 < a1) = false := decide_eq_false c8
    clear c8
    by_cases c9 : a0 > a1
    ·
     rw [if_pos c9] at H
     have c9b0 : decide (a1 < a0) = true := decide_eq_true c9
     clear c9
     obtain rfl := Option.some.inj H
     go_enter Tryd.func45, Tryd.ntmps45
     go_wp2_with (first | ((with_reducible refine gate_callee (f := 61) rfl ?_); refine goesL_ (some 8) rfl rfl Tryd.func61 (by kernel_rfl) rfl #[.int .i64 a0] rfl (by (try simp only [List.map_toArray, List.map_cons, List.map_nil]); first | done | rfl | (simp only [List.length_drop, List.length_take]; rfl)) ?_; (with_reducible refine (cmp_isNaN_int.calls a0 false _ A3.out).mono ?_); rintro e w' ⟨rfl, ⟨nd, rfl⟩⟩; refine ⟨_, rfl, ?_⟩) | ((with_reducible refine gate_callee (f := 61) rfl ?_); refine goesL_ (some 10) rfl rfl Tryd.func61 (by kernel_rfl) rfl #[.int .i64 a1] rfl (by (try simp only [List.map_toArray, List.map_cons, List.map_nil]); first | done | rfl | (simp only [List.length_drop, List.length_take]; rfl)) ?_; (with_reducible refine (cmp_isNaN_int.calls a1 false _ A4.out).mono ?_); rintro e w' ⟨rfl, ⟨nd, rfl⟩⟩; refine ⟨_, rfl, ?_⟩))
     go_ret
     exact ⟨by first | rfl | (simp; done) | (simp [*]; done), by repeat (first | exact Drawn0.refl _ | apply Drawn0.step)⟩
    ·
     rw [if_neg c9] at H
     have c9b0 : decide (a1 < a0) = false := decide_eq_false c9
     clear c9
     obtain rfl := Option.some.inj H
     go_enter Tryd.func45, Tryd.ntmps45
     go_wp2_with (first | ((with_reducible refine gate_callee (f := 61) rfl ?_); refine goesL_ (some 8) rfl rfl Tryd.func61 (by kernel_rfl) rfl #[.int .i64 a0] rfl (by (try simp only [List.map_toArray, List.map_cons, List.map_nil]); first | done | rfl | (simp only [List.length_drop, List.length_take]; rfl)) ?_; (with_reducible refine (cmp_isNaN_int.calls a0 false _ A3.out).mono ?_); rintro e w' ⟨rfl, ⟨nd, rfl⟩⟩; refine ⟨_, rfl, ?_⟩) | ((with_reducible refine gate_callee (f := 61) rfl ?_); refine goesL_ (some 10) rfl rfl Tryd.func61 (by kernel_rfl) rfl #[.int .i64 a1] rfl (by (try simp only [List.map_toArray, List.map_cons, List.map_nil]); first | done | rfl | (simp only [List.length_drop, List.length_take]; rfl)) ?_; (with_reducible refine (cmp_isNaN_int.calls a1 false _ A4.out).mono ?_); rintro e w' ⟨rfl, ⟨nd, rfl⟩⟩; refine ⟨_, rfl, ?_⟩))
     go_ret
     exact ⟨by first | rfl | (simp; done) | (simp [*]; done), by repeat (first | exact Drawn0.refl _ | apply Drawn0.step)⟩

end Go.Proofs.YtnllgjloimoebaaDoor.X

/- strings.Compare, in the form that the printed texts ask for. -/
namespace Go.Proofs.YtnllgjloimoebaaDoor.X
open Go.RowKit Go.Proofs.YtnllgjloimoebaaDoorW.PrintWords

def strings_Compare.f (a0 : ByteArray) (a1 : ByteArray) : Option Int := some (Lib.compareBytes a0.data.toList a1.data.toList)
theorem strings_Compare.calls (a0 : ByteArray) (a1 : ByteArray) (r : Int) (w : World) (h : strings_Compare.f a0 a1 = some r) :
    Calls Tryd.prog 54 #[.string a0, .string a1] w fun e w' => e = .returned (.int .i64 r) ∧ Drawn0 w w' := by
  cases h
  refine (Tryd.strings_Compare a0 a1 w).mono ?_
  rintro e w' ⟨rfl, rfl⟩
  exact ⟨rfl, Drawn0.refl _⟩
end Go.Proofs.YtnllgjloimoebaaDoor.X

-- By xprint.py (this session's own program over the kit's print): not trusted: Lean checks it.
namespace Go.Proofs.YtnllgjloimoebaaDoor.X
open Go.RowKit Go.Proofs.YtnllgjloimoebaaDoorW.PrintWords Go.Proofs.YtnllgjloimoebaaDoorW.PrintLast Go.Proofs.YtnllgjloimoebaaDoorW.PrintMore
attribute [local go_sem] max2_int min2_int max_two min_two max_three min_three max_four min_four   -- for this text's walks alone
set_option linter.unusedVariables false
set_option linter.unusedSimpArgs false

/-! ### value_Order: function 35 -/
def value_Order.f (k : Nat) (a0_0 : Int) (a0_1 : Int) (a0_2 : ByteArray) (a1_0 : Int) (a1_1 : Int) (a1_2 : ByteArray) : Option (Int) := (cmp_Compare_int.f a0_0 a1_0).bind fun t328 => ((cmp_Compare_int.f a0_1 a1_1).bind fun t329 => ((strings_Compare.f a0_2 a1_2).bind fun t330 => ((cmp_Or_int.f k (([t328, t329, t330] : List Int))).bind fun t334 => (some t334))))
def value_Order.T1 : Bool × List (List Nat × List Nat) := (true, [([], []), ([0], [0]), ([], []), ([2], [2]), ([1, 3], [1, 3]), ([], []), ([5], [5]), ([], []), ([7], [7]), ([6, 8, 4], [6, 8]), ([], []), ([10], [10]), ([], []), ([12], [12]), ([11, 13, 9], [11, 13]), ([4, 9, 14], [4, 9, 14]), ([15, 14], [15]), ([16, 16, 0, 1, 2, 3, 4, 5, 6, 7, 8, 9, 10, 11, 12, 13, 14, 15, 16], [16])])
def value_Order.B1 : List Nat := [0, 1, 0, 4, 15, 0, 32, 0, 128, 511, 0, 1024, 0, 4096, 16383, 32767, 65535, 131071]
theorem value_Order.tab1 : rtab .any (opsOf Tryd.f35 1) = value_Order.T1 := by kernel_rfl
theorem value_Order.bits1 : waitsOk value_Order.T1.2 value_Order.B1 = true := by kernel_rfl
end Go.Proofs.YtnllgjloimoebaaDoor.X

-- By xprint.py (this session's own program over the kit's print): not trusted: Lean checks it.
namespace Go.Proofs.YtnllgjloimoebaaDoor.X
open Go.RowKit Go.Proofs.YtnllgjloimoebaaDoorW.PrintWords Go.Proofs.YtnllgjloimoebaaDoorW.PrintLast Go.Proofs.YtnllgjloimoebaaDoorW.PrintMore
attribute [local go_sem] max2_int min2_int max_two min_two max_three min_three max_four min_four   -- for this text's walks alone
set_option linter.unusedVariables false
set_option linter.unusedSimpArgs false

/-! ### api_Value: function 34 -/
def api_Value.l0 : Nat → List (S44) → List (S44) → List (S44) → Int → Int → Option (Int)
 | 0, _, _, _, _, _ => none
 | k + 1, x0, x1, x11, x12, x13 => if x13 < x12 then (if 0 ≤ x13 then (if x13 < (x11.length : Int) then (if x13 ≥ (x1.length : Int) then (some 1) else (if x13 < (x1.length : Int) then ((value_Order.f k ((rd_T44 x11 x13).f0) ((rd_T44 x11 x13).f1) ((rd_T44 x11 x13).f2) ((rd_T44 x1 x13).f0) ((rd_T44 x1 x13).f1) ((rd_T44 x1 x13).f2)).bind fun t339 => (if t339 = 0 then (api_Value.l0 k x0 x1 x11 x12 (wrap64 (x13 + 1))) else (some t339))) else (none))) else (none)) else (none)) else (if (x0.length : Int) < (x1.length : Int) then (some (-1)) else (some 0))
def api_Value.f (k : Nat) (l0 : List (S44)) (l1 : List (S44)) (a2 : Unit) : Option (Int) := api_Value.l0 k l0 l1 l0 (l0.length : Int) 0
end Go.Proofs.YtnllgjloimoebaaDoor.X

-- By xprint.py (this session's own program over the kit's print): not trusted: Lean checks it.
namespace Go.Proofs.YtnllgjloimoebaaDoor.X
open Go.RowKit Go.Proofs.YtnllgjloimoebaaDoorW.PrintWords Go.Proofs.YtnllgjloimoebaaDoorW.PrintLast Go.Proofs.YtnllgjloimoebaaDoorW.PrintMore
attribute [local go_sem] max2_int min2_int max_two min_two max_three min_three max_four min_four   -- for this text's walks alone
set_option linter.unusedVariables false
set_option linter.unusedSimpArgs false

/-! ### value_Orders: function 18 -/
def value_Orders.f (k : Nat) (l0 : List (S44)) (l1 : List (S44)) : Option (Int) := (api_Value.f k l0 l1 ()).bind fun t340 => (some t340)
end Go.Proofs.YtnllgjloimoebaaDoor.X
