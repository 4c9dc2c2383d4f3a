/- The types of the seat, as rules for simp.
Conditions: none. -/
import Derived.Test.YthgfopohlhejdaaDoorRows
import Derived.Test.YthgfopohlhejdaaDoorRul
namespace Go.Proofs.YthgfopohlhejdaaDoor
set_option linter.all false
open Go Go.Awp

attribute [simp] Tryd.underlying0
@[simp] theorem ag0 : aggOf Tryd.prog 0 = some false := by kernel_rfl
@[simp] theorem sz0 : szOf Tryd.prog 0 = some 1 := by kernel_rfl
attribute [simp] Tryd.underlying1
@[simp] theorem ag1 : aggOf Tryd.prog 1 = some false := by kernel_rfl
@[simp] theorem sz1 : szOf Tryd.prog 1 = some 1 := by kernel_rfl
@[simp] theorem zr1 : zeroOf Tryd.prog 1 = some [.nilf] := by kernel_rfl
attribute [simp] Tryd.underlying2
@[simp] theorem ag2 : aggOf Tryd.prog 2 = some false := by kernel_rfl
@[simp] theorem sz2 : szOf Tryd.prog 2 = some 1 := by kernel_rfl
@[simp] theorem zr2 : zeroOf Tryd.prog 2 = some [.int .i64 0] := by kernel_rfl
attribute [simp] Tryd.underlying3
@[simp] theorem ag3 : aggOf Tryd.prog 3 = some false := by kernel_rfl
@[simp] theorem sz3 : szOf Tryd.prog 3 = some 1 := by kernel_rfl
@[simp] theorem zr3 : zeroOf Tryd.prog 3 = some [.int .i64 0] := by kernel_rfl
attribute [simp] Tryd.underlying4
@[simp] theorem ag4 : aggOf Tryd.prog 4 = some false := by kernel_rfl
@[simp] theorem sz4 : szOf Tryd.prog 4 = some 1 := by kernel_rfl
@[simp] theorem zr4 : zeroOf Tryd.prog 4 = some [.bool false] := by kernel_rfl
attribute [simp] Tryd.underlying5
@[simp] theorem ag5 : aggOf Tryd.prog 5 = some false := by kernel_rfl
@[simp] theorem sz5 : szOf Tryd.prog 5 = some 1 := by kernel_rfl
@[simp] theorem zr5 : zeroOf Tryd.prog 5 = some [.int .u8 0] := by kernel_rfl
attribute [simp] Tryd.underlying6
@[simp] theorem ag6 : aggOf Tryd.prog 6 = some false := by kernel_rfl
@[simp] theorem sz6 : szOf Tryd.prog 6 = some 1 := by kernel_rfl
@[simp] theorem zr6 : zeroOf Tryd.prog 6 = some [.int .u8 0] := by kernel_rfl
attribute [simp] Tryd.underlying7
@[simp] theorem ag7 : aggOf Tryd.prog 7 = some true := by kernel_rfl
@[simp] theorem sz7 : szOf Tryd.prog 7 = some 4 := by kernel_rfl
@[simp] theorem zr7 : zeroOf Tryd.prog 7 = some [.int .i64 0, .int .i64 0, .bool false, .int .u8 0] := by kernel_rfl
@[simp] theorem pl7 : placesOf Tryd.prog 7 = some (fun i => ([(0, 1), (1, 1), (2, 1), (3, 1)] : List (Nat × Nat))[i]?) := by kernel_rfl
attribute [simp] Tryd.underlying8
@[simp] theorem ag8 : aggOf Tryd.prog 8 = some true := by kernel_rfl
@[simp] theorem sz8 : szOf Tryd.prog 8 = some 4 := by kernel_rfl
@[simp] theorem zr8 : zeroOf Tryd.prog 8 = some [.int .i64 0, .int .i64 0, .bool false, .int .u8 0] := by kernel_rfl
@[simp] theorem pl8 : placesOf Tryd.prog 8 = some (fun i => ([(0, 1), (1, 1), (2, 1), (3, 1)] : List (Nat × Nat))[i]?) := by kernel_rfl
attribute [simp] Tryd.underlying9
@[simp] theorem ag9 : aggOf Tryd.prog 9 = some false := by kernel_rfl
@[simp] theorem sz9 : szOf Tryd.prog 9 = some 1 := by kernel_rfl
@[simp] theorem zr9 : zeroOf Tryd.prog 9 = some [.str ⟨#[]⟩] := by kernel_rfl
attribute [simp] Tryd.underlying10
@[simp] theorem ag10 : aggOf Tryd.prog 10 = some false := by kernel_rfl
@[simp] theorem sz10 : szOf Tryd.prog 10 = some 1 := by kernel_rfl
@[simp] theorem zr10 : zeroOf Tryd.prog 10 = some [.str ⟨#[]⟩] := by kernel_rfl
attribute [simp] Tryd.underlying11
@[simp] theorem ag11 : aggOf Tryd.prog 11 = some false := by kernel_rfl
@[simp] theorem sz11 : szOf Tryd.prog 11 = some 1 := by kernel_rfl
@[simp] theorem zr11 : zeroOf Tryd.prog 11 = some [.str ⟨#[]⟩] := by kernel_rfl
attribute [simp] Tryd.underlying12
@[simp] theorem ag12 : aggOf Tryd.prog 12 = some false := by kernel_rfl
@[simp] theorem sz12 : szOf Tryd.prog 12 = some 1 := by kernel_rfl
@[simp] theorem zr12 : zeroOf Tryd.prog 12 = some [.int .u64 0] := by kernel_rfl
attribute [simp] Tryd.underlying13
@[simp] theorem ag13 : aggOf Tryd.prog 13 = some true := by kernel_rfl
@[simp] theorem sz13 : szOf Tryd.prog 13 = some 2 := by kernel_rfl
@[simp] theorem zr13 : zeroOf Tryd.prog 13 = some [.str ⟨#[]⟩, .int .u64 0] := by kernel_rfl
@[simp] theorem pl13 : placesOf Tryd.prog 13 = some (fun i => ([(0, 1), (1, 1)] : List (Nat × Nat))[i]?) := by kernel_rfl
attribute [simp] Tryd.underlying14
@[simp] theorem ag14 : aggOf Tryd.prog 14 = some true := by kernel_rfl
@[simp] theorem sz14 : szOf Tryd.prog 14 = some 2 := by kernel_rfl
@[simp] theorem zr14 : zeroOf Tryd.prog 14 = some [.str ⟨#[]⟩, .int .u64 0] := by kernel_rfl
@[simp] theorem pl14 : placesOf Tryd.prog 14 = some (fun i => ([(0, 1), (1, 1)] : List (Nat × Nat))[i]?) := by kernel_rfl
attribute [simp] Tryd.underlying15
@[simp] theorem ag15 : aggOf Tryd.prog 15 = some false := by kernel_rfl
@[simp] theorem sz15 : szOf Tryd.prog 15 = some 1 := by kernel_rfl
@[simp] theorem zr15 : zeroOf Tryd.prog 15 = some [.nilp] := by kernel_rfl
attribute [simp] Tryd.underlying16
@[simp] theorem ag16 : aggOf Tryd.prog 16 = some false := by kernel_rfl
@[simp] theorem sz16 : szOf Tryd.prog 16 = some 1 := by kernel_rfl
@[simp] theorem zr16 : zeroOf Tryd.prog 16 = some [.nilp] := by kernel_rfl
attribute [simp] Tryd.underlying17
@[simp] theorem ag17 : aggOf Tryd.prog 17 = some false := by kernel_rfl
@[simp] theorem sz17 : szOf Tryd.prog 17 = some 1 := by kernel_rfl
@[simp] theorem zr17 : zeroOf Tryd.prog 17 = some [.nilp] := by kernel_rfl
attribute [simp] Tryd.underlying18
@[simp] theorem ag18 : aggOf Tryd.prog 18 = some true := by kernel_rfl
@[simp] theorem sz18 : szOf Tryd.prog 18 = some 1 := by kernel_rfl
@[simp] theorem zr18 : zeroOf Tryd.prog 18 = some [.nilp] := by kernel_rfl
@[simp] theorem pl18 : placesOf Tryd.prog 18 = some (fun i => ([(0, 1)] : List (Nat × Nat))[i]?) := by kernel_rfl
attribute [simp] Tryd.underlying19
@[simp] theorem ag19 : aggOf Tryd.prog 19 = some true := by kernel_rfl
@[simp] theorem sz19 : szOf Tryd.prog 19 = some 1 := by kernel_rfl
@[simp] theorem zr19 : zeroOf Tryd.prog 19 = some [.nilp] := by kernel_rfl
@[simp] theorem pl19 : placesOf Tryd.prog 19 = some (fun i => ([(0, 1)] : List (Nat × Nat))[i]?) := by kernel_rfl
attribute [simp] Tryd.underlying20
@[simp] theorem ag20 : aggOf Tryd.prog 20 = some false := by kernel_rfl
@[simp] theorem sz20 : szOf Tryd.prog 20 = some 1 := by kernel_rfl
@[simp] theorem zr20 : zeroOf Tryd.prog 20 = some [.ifc true] := by kernel_rfl
attribute [simp] Tryd.underlying21
@[simp] theorem ag21 : aggOf Tryd.prog 21 = some false := by kernel_rfl
@[simp] theorem sz21 : szOf Tryd.prog 21 = some 1 := by kernel_rfl
@[simp] theorem zr21 : zeroOf Tryd.prog 21 = some [.int .i32 0] := by kernel_rfl
attribute [simp] Tryd.underlying22
@[simp] theorem ag22 : aggOf Tryd.prog 22 = some false := by kernel_rfl
@[simp] theorem sz22 : szOf Tryd.prog 22 = some 1 := by kernel_rfl
@[simp] theorem zr22 : zeroOf Tryd.prog 22 = some [.nils] := by kernel_rfl
attribute [simp] Tryd.underlying23
@[simp] theorem ag23 : aggOf Tryd.prog 23 = some false := by kernel_rfl
@[simp] theorem sz23 : szOf Tryd.prog 23 = some 1 := by kernel_rfl
@[simp] theorem zr23 : zeroOf Tryd.prog 23 = some [.nilf] := by kernel_rfl
attribute [simp] Tryd.underlying24
@[simp] theorem ag24 : aggOf Tryd.prog 24 = some false := by kernel_rfl
@[simp] theorem sz24 : szOf Tryd.prog 24 = some 1 := by kernel_rfl
attribute [simp] Tryd.underlying25
@[simp] theorem ag25 : aggOf Tryd.prog 25 = some false := by kernel_rfl
@[simp] theorem sz25 : szOf Tryd.prog 25 = some 1 := by kernel_rfl
@[simp] theorem zr25 : zeroOf Tryd.prog 25 = some [.nilf] := by kernel_rfl
attribute [simp] Tryd.underlying26
@[simp] theorem ag26 : aggOf Tryd.prog 26 = some false := by kernel_rfl
@[simp] theorem sz26 : szOf Tryd.prog 26 = some 1 := by kernel_rfl
@[simp] theorem zr26 : zeroOf Tryd.prog 26 = some [.nilf] := by kernel_rfl
attribute [simp] Tryd.underlying27
@[simp] theorem ag27 : aggOf Tryd.prog 27 = some false := by kernel_rfl
@[simp] theorem sz27 : szOf Tryd.prog 27 = some 1 := by kernel_rfl
@[simp] theorem zr27 : zeroOf Tryd.prog 27 = some [.nilf] := by kernel_rfl
attribute [simp] Tryd.underlying28
@[simp] theorem ag28 : aggOf Tryd.prog 28 = some false := by kernel_rfl
@[simp] theorem sz28 : szOf Tryd.prog 28 = some 1 := by kernel_rfl
@[simp] theorem zr28 : zeroOf Tryd.prog 28 = some [.nilf] := by kernel_rfl
attribute [simp] Tryd.underlying29
@[simp] theorem ag29 : aggOf Tryd.prog 29 = some false := by kernel_rfl
@[simp] theorem sz29 : szOf Tryd.prog 29 = some 1 := by kernel_rfl
attribute [simp] Tryd.underlying30
@[simp] theorem ag30 : aggOf Tryd.prog 30 = some false := by kernel_rfl
@[simp] theorem sz30 : szOf Tryd.prog 30 = some 1 := by kernel_rfl
@[simp] theorem zr30 : zeroOf Tryd.prog 30 = some [.nilf] := by kernel_rfl
attribute [simp] Tryd.underlying31
@[simp] theorem ag31 : aggOf Tryd.prog 31 = some false := by kernel_rfl
@[simp] theorem sz31 : szOf Tryd.prog 31 = some 1 := by kernel_rfl
@[simp] theorem zr31 : zeroOf Tryd.prog 31 = some [.nilf] := by kernel_rfl
attribute [simp] Tryd.underlying32
@[simp] theorem ag32 : aggOf Tryd.prog 32 = some false := by kernel_rfl
@[simp] theorem sz32 : szOf Tryd.prog 32 = some 1 := by kernel_rfl
@[simp] theorem zr32 : zeroOf Tryd.prog 32 = some [.nils] := by kernel_rfl
attribute [simp] Tryd.underlying33
@[simp] theorem ag33 : aggOf Tryd.prog 33 = some false := by kernel_rfl
@[simp] theorem sz33 : szOf Tryd.prog 33 = some 1 := by kernel_rfl
@[simp] theorem zr33 : zeroOf Tryd.prog 33 = some [.nilf] := by kernel_rfl
attribute [simp] Tryd.underlying34
@[simp] theorem ag34 : aggOf Tryd.prog 34 = some false := by kernel_rfl
@[simp] theorem sz34 : szOf Tryd.prog 34 = some 1 := by kernel_rfl
@[simp] theorem zr34 : zeroOf Tryd.prog 34 = some [.nils] := by kernel_rfl
attribute [simp] Tryd.underlying35
@[simp] theorem ag35 : aggOf Tryd.prog 35 = some false := by kernel_rfl
@[simp] theorem sz35 : szOf Tryd.prog 35 = some 1 := by kernel_rfl
@[simp] theorem zr35 : zeroOf Tryd.prog 35 = some [.nilf] := by kernel_rfl
attribute [simp] Tryd.underlying36
@[simp] theorem ag36 : aggOf Tryd.prog 36 = some false := by kernel_rfl
@[simp] theorem sz36 : szOf Tryd.prog 36 = some 1 := by kernel_rfl
@[simp] theorem zr36 : zeroOf Tryd.prog 36 = some [.nilf] := by kernel_rfl
attribute [simp] Tryd.underlying37
@[simp] theorem ag37 : aggOf Tryd.prog 37 = some false := by kernel_rfl
@[simp] theorem sz37 : szOf Tryd.prog 37 = some 1 := by kernel_rfl
@[simp] theorem zr37 : zeroOf Tryd.prog 37 = some [.nilf] := by kernel_rfl
attribute [simp] Tryd.underlying38
@[simp] theorem ag38 : aggOf Tryd.prog 38 = some false := by kernel_rfl
@[simp] theorem sz38 : szOf Tryd.prog 38 = some 1 := by kernel_rfl
attribute [simp] Tryd.underlying39
@[simp] theorem ag39 : aggOf Tryd.prog 39 = some false := by kernel_rfl
@[simp] theorem sz39 : szOf Tryd.prog 39 = some 1 := by kernel_rfl
@[simp] theorem zr39 : zeroOf Tryd.prog 39 = some [.nilf] := by kernel_rfl
attribute [simp] Tryd.underlying40
@[simp] theorem ag40 : aggOf Tryd.prog 40 = some false := by kernel_rfl
@[simp] theorem sz40 : szOf Tryd.prog 40 = some 1 := by kernel_rfl
@[simp] theorem zr40 : zeroOf Tryd.prog 40 = some [.nilf] := by kernel_rfl
attribute [simp] Tryd.underlying41
@[simp] theorem ag41 : aggOf Tryd.prog 41 = some false := by kernel_rfl
@[simp] theorem sz41 : szOf Tryd.prog 41 = some 1 := by kernel_rfl
@[simp] theorem zr41 : zeroOf Tryd.prog 41 = some [.nils] := by kernel_rfl
attribute [simp] Tryd.underlying42
@[simp] theorem ag42 : aggOf Tryd.prog 42 = some false := by kernel_rfl
@[simp] theorem sz42 : szOf Tryd.prog 42 = some 1 := by kernel_rfl
@[simp] theorem zr42 : zeroOf Tryd.prog 42 = some [.nilf] := by kernel_rfl
attribute [simp] Tryd.underlying43
@[simp] theorem ag43 : aggOf Tryd.prog 43 = some false := by kernel_rfl
@[simp] theorem sz43 : szOf Tryd.prog 43 = some 1 := by kernel_rfl
attribute [simp] Tryd.underlying44
@[simp] theorem ag44 : aggOf Tryd.prog 44 = some false := by kernel_rfl
@[simp] theorem sz44 : szOf Tryd.prog 44 = some 1 := by kernel_rfl
@[simp] theorem zr44 : zeroOf Tryd.prog 44 = some [.nilf] := by kernel_rfl
attribute [simp] Tryd.underlying45
@[simp] theorem ag45 : aggOf Tryd.prog 45 = some false := by kernel_rfl
@[simp] theorem sz45 : szOf Tryd.prog 45 = some 1 := by kernel_rfl
@[simp] theorem zr45 : zeroOf Tryd.prog 45 = some [.nilf] := by kernel_rfl
attribute [simp] Tryd.underlying46
@[simp] theorem ag46 : aggOf Tryd.prog 46 = some false := by kernel_rfl
@[simp] theorem sz46 : szOf Tryd.prog 46 = some 1 := by kernel_rfl
@[simp] theorem zr46 : zeroOf Tryd.prog 46 = some [.nils] := by kernel_rfl
attribute [simp] Tryd.underlying47
@[simp] theorem ag47 : aggOf Tryd.prog 47 = some false := by kernel_rfl
@[simp] theorem sz47 : szOf Tryd.prog 47 = some 1 := by kernel_rfl
@[simp] theorem zr47 : zeroOf Tryd.prog 47 = some [.nils] := by kernel_rfl
attribute [simp] Tryd.underlying48
@[simp] theorem ag48 : aggOf Tryd.prog 48 = some true := by kernel_rfl
@[simp] theorem sz48 : szOf Tryd.prog 48 = some 2 := by kernel_rfl
@[simp] theorem zr48 : zeroOf Tryd.prog 48 = some [.nils, .nils] := by kernel_rfl
@[simp] theorem pl48 : placesOf Tryd.prog 48 = some (fun i => ([(0, 1), (1, 1)] : List (Nat × Nat))[i]?) := by kernel_rfl
attribute [simp] Tryd.underlying49
@[simp] theorem ag49 : aggOf Tryd.prog 49 = some true := by kernel_rfl
@[simp] theorem sz49 : szOf Tryd.prog 49 = some 2 := by kernel_rfl
@[simp] theorem zr49 : zeroOf Tryd.prog 49 = some [.nils, .nils] := by kernel_rfl
@[simp] theorem pl49 : placesOf Tryd.prog 49 = some (fun i => ([(0, 1), (1, 1)] : List (Nat × Nat))[i]?) := by kernel_rfl
attribute [simp] Tryd.underlying50
@[simp] theorem ag50 : aggOf Tryd.prog 50 = some false := by kernel_rfl
@[simp] theorem sz50 : szOf Tryd.prog 50 = some 1 := by kernel_rfl
@[simp] theorem zr50 : zeroOf Tryd.prog 50 = some [.nils] := by kernel_rfl
attribute [simp] Tryd.underlying51
@[simp] theorem ag51 : aggOf Tryd.prog 51 = some false := by kernel_rfl
@[simp] theorem sz51 : szOf Tryd.prog 51 = some 1 := by kernel_rfl
@[simp] theorem zr51 : zeroOf Tryd.prog 51 = some [.flt .f32 0] := by kernel_rfl
attribute [simp] Tryd.underlying52
@[simp] theorem ag52 : aggOf Tryd.prog 52 = some true := by kernel_rfl
@[simp] theorem sz52 : szOf Tryd.prog 52 = some 3 := by kernel_rfl
@[simp] theorem zr52 : zeroOf Tryd.prog 52 = some [.flt .f32 0, .flt .f32 0, .flt .f32 0] := by kernel_rfl
@[simp] theorem pl52 : placesOf Tryd.prog 52 = some (fun i => ([(0, 1), (1, 1), (2, 1)] : List (Nat × Nat))[i]?) := by kernel_rfl
attribute [simp] Tryd.underlying53
@[simp] theorem ag53 : aggOf Tryd.prog 53 = some true := by kernel_rfl
@[simp] theorem sz53 : szOf Tryd.prog 53 = some 3 := by kernel_rfl
@[simp] theorem zr53 : zeroOf Tryd.prog 53 = some [.flt .f32 0, .flt .f32 0, .flt .f32 0] := by kernel_rfl
@[simp] theorem pl53 : placesOf Tryd.prog 53 = some (fun i => ([(0, 1), (1, 1), (2, 1)] : List (Nat × Nat))[i]?) := by kernel_rfl
attribute [simp] Tryd.underlying54
@[simp] theorem ag54 : aggOf Tryd.prog 54 = some true := by kernel_rfl
@[simp] theorem sz54 : szOf Tryd.prog 54 = some 9 := by kernel_rfl
@[simp] theorem zr54 : zeroOf Tryd.prog 54 = some [.nils, .nils, .nils, .flt .f32 0, .flt .f32 0, .nils, .flt .f32 0, .flt .f32 0, .flt .f32 0] := by kernel_rfl
@[simp] theorem pl54 : placesOf Tryd.prog 54 = some (fun i => ([(0, 2), (2, 1), (3, 1), (4, 1), (5, 1), (6, 3)] : List (Nat × Nat))[i]?) := by kernel_rfl
attribute [simp] Tryd.underlying55
@[simp] theorem ag55 : aggOf Tryd.prog 55 = some true := by kernel_rfl
@[simp] theorem sz55 : szOf Tryd.prog 55 = some 9 := by kernel_rfl
@[simp] theorem zr55 : zeroOf Tryd.prog 55 = some [.nils, .nils, .nils, .flt .f32 0, .flt .f32 0, .nils, .flt .f32 0, .flt .f32 0, .flt .f32 0] := by kernel_rfl
@[simp] theorem pl55 : placesOf Tryd.prog 55 = some (fun i => ([(0, 2), (2, 1), (3, 1), (4, 1), (5, 1), (6, 3)] : List (Nat × Nat))[i]?) := by kernel_rfl
attribute [simp] Tryd.underlying56
@[simp] theorem ag56 : aggOf Tryd.prog 56 = some false := by kernel_rfl
@[simp] theorem sz56 : szOf Tryd.prog 56 = some 1 := by kernel_rfl
@[simp] theorem zr56 : zeroOf Tryd.prog 56 = some [.nilf] := by kernel_rfl
attribute [simp] Tryd.underlying57
@[simp] theorem ag57 : aggOf Tryd.prog 57 = some false := by kernel_rfl
@[simp] theorem sz57 : szOf Tryd.prog 57 = some 1 := by kernel_rfl
@[simp] theorem zr57 : zeroOf Tryd.prog 57 = some [.nilf] := by kernel_rfl
attribute [simp] Tryd.underlying58
@[simp] theorem ag58 : aggOf Tryd.prog 58 = some false := by kernel_rfl
@[simp] theorem sz58 : szOf Tryd.prog 58 = some 1 := by kernel_rfl
@[simp] theorem zr58 : zeroOf Tryd.prog 58 = some [.nils] := by kernel_rfl
attribute [simp] Tryd.underlying59
@[simp] theorem ag59 : aggOf Tryd.prog 59 = some true := by kernel_rfl
@[simp] theorem sz59 : szOf Tryd.prog 59 = some 2 := by kernel_rfl
@[simp] theorem zr59 : zeroOf Tryd.prog 59 = some [.nils, .nils] := by kernel_rfl
@[simp] theorem pl59 : placesOf Tryd.prog 59 = some (fun i => ([(0, 1), (1, 1)] : List (Nat × Nat))[i]?) := by kernel_rfl
attribute [simp] Tryd.underlying60
@[simp] theorem ag60 : aggOf Tryd.prog 60 = some true := by kernel_rfl
@[simp] theorem sz60 : szOf Tryd.prog 60 = some 2 := by kernel_rfl
@[simp] theorem zr60 : zeroOf Tryd.prog 60 = some [.nils, .nils] := by kernel_rfl
@[simp] theorem pl60 : placesOf Tryd.prog 60 = some (fun i => ([(0, 1), (1, 1)] : List (Nat × Nat))[i]?) := by kernel_rfl
attribute [simp] Tryd.underlying61
@[simp] theorem ag61 : aggOf Tryd.prog 61 = some false := by kernel_rfl
@[simp] theorem sz61 : szOf Tryd.prog 61 = some 1 := by kernel_rfl
@[simp] theorem zr61 : zeroOf Tryd.prog 61 = some [.nils] := by kernel_rfl
attribute [simp] Tryd.underlying62
@[simp] theorem ag62 : aggOf Tryd.prog 62 = some true := by kernel_rfl
@[simp] theorem sz62 : szOf Tryd.prog 62 = some 3 := by kernel_rfl
@[simp] theorem zr62 : zeroOf Tryd.prog 62 = some [.flt .f32 0, .flt .f32 0, .flt .f32 0] := by kernel_rfl
@[simp] theorem pl62 : placesOf Tryd.prog 62 = some (fun i => ([(0, 1), (1, 1), (2, 1)] : List (Nat × Nat))[i]?) := by kernel_rfl
attribute [simp] Tryd.underlying63
@[simp] theorem ag63 : aggOf Tryd.prog 63 = some true := by kernel_rfl
@[simp] theorem sz63 : szOf Tryd.prog 63 = some 9 := by kernel_rfl
@[simp] theorem zr63 : zeroOf Tryd.prog 63 = some [.nils, .nils, .nils, .flt .f32 0, .flt .f32 0, .nils, .flt .f32 0, .flt .f32 0, .flt .f32 0] := by kernel_rfl
@[simp] theorem pl63 : placesOf Tryd.prog 63 = some (fun i => ([(0, 2), (2, 1), (3, 1), (4, 1), (5, 1), (6, 3)] : List (Nat × Nat))[i]?) := by kernel_rfl
attribute [simp] Tryd.underlying64
@[simp] theorem ag64 : aggOf Tryd.prog 64 = some true := by kernel_rfl
@[simp] theorem sz64 : szOf Tryd.prog 64 = some 9 := by kernel_rfl
@[simp] theorem zr64 : zeroOf Tryd.prog 64 = some [.nils, .nils, .nils, .flt .f32 0, .flt .f32 0, .nils, .flt .f32 0, .flt .f32 0, .flt .f32 0] := by kernel_rfl
@[simp] theorem pl64 : placesOf Tryd.prog 64 = some (fun i => ([(0, 2), (2, 1), (3, 1), (4, 1), (5, 1), (6, 3)] : List (Nat × Nat))[i]?) := by kernel_rfl
attribute [simp] Tryd.underlying65
@[simp] theorem ag65 : aggOf Tryd.prog 65 = some false := by kernel_rfl
@[simp] theorem sz65 : szOf Tryd.prog 65 = some 1 := by kernel_rfl
@[simp] theorem zr65 : zeroOf Tryd.prog 65 = some [.nilf] := by kernel_rfl
attribute [simp] Tryd.underlying66
@[simp] theorem ag66 : aggOf Tryd.prog 66 = some false := by kernel_rfl
@[simp] theorem sz66 : szOf Tryd.prog 66 = some 1 := by kernel_rfl
@[simp] theorem zr66 : zeroOf Tryd.prog 66 = some [.nilf] := by kernel_rfl
attribute [simp] Tryd.underlying67
@[simp] theorem ag67 : aggOf Tryd.prog 67 = some false := by kernel_rfl
@[simp] theorem sz67 : szOf Tryd.prog 67 = some 1 := by kernel_rfl
@[simp] theorem zr67 : zeroOf Tryd.prog 67 = some [.nilf] := by kernel_rfl
attribute [simp] Tryd.underlying68
@[simp] theorem ag68 : aggOf Tryd.prog 68 = some false := by kernel_rfl
@[simp] theorem sz68 : szOf Tryd.prog 68 = some 1 := by kernel_rfl
@[simp] theorem zr68 : zeroOf Tryd.prog 68 = some [.nilf] := by kernel_rfl
attribute [simp] Tryd.underlying69
@[simp] theorem ag69 : aggOf Tryd.prog 69 = some true := by kernel_rfl
@[simp] theorem sz69 : szOf Tryd.prog 69 = some 10 := by kernel_rfl
@[simp] theorem zr69 : zeroOf Tryd.prog 69 = some [.nils, .nils, .nils, .flt .f32 0, .flt .f32 0, .nils, .flt .f32 0, .flt .f32 0, .flt .f32 0, .nils] := by kernel_rfl
@[simp] theorem pl69 : placesOf Tryd.prog 69 = some (fun i => ([(0, 9), (9, 1)] : List (Nat × Nat))[i]?) := by kernel_rfl
attribute [simp] Tryd.underlying70
@[simp] theorem ag70 : aggOf Tryd.prog 70 = some true := by kernel_rfl
@[simp] theorem sz70 : szOf Tryd.prog 70 = some 10 := by kernel_rfl
@[simp] theorem zr70 : zeroOf Tryd.prog 70 = some [.nils, .nils, .nils, .flt .f32 0, .flt .f32 0, .nils, .flt .f32 0, .flt .f32 0, .flt .f32 0, .nils] := by kernel_rfl
@[simp] theorem pl70 : placesOf Tryd.prog 70 = some (fun i => ([(0, 9), (9, 1)] : List (Nat × Nat))[i]?) := by kernel_rfl
attribute [simp] Tryd.underlying71
@[simp] theorem ag71 : aggOf Tryd.prog 71 = some false := by kernel_rfl
@[simp] theorem sz71 : szOf Tryd.prog 71 = some 1 := by kernel_rfl
@[simp] theorem zr71 : zeroOf Tryd.prog 71 = some [.nilf] := by kernel_rfl
attribute [simp] Tryd.underlying72
@[simp] theorem ag72 : aggOf Tryd.prog 72 = some false := by kernel_rfl
@[simp] theorem sz72 : szOf Tryd.prog 72 = some 1 := by kernel_rfl
@[simp] theorem zr72 : zeroOf Tryd.prog 72 = some [.nilf] := by kernel_rfl
attribute [simp] Tryd.underlying73
@[simp] theorem ag73 : aggOf Tryd.prog 73 = some false := by kernel_rfl
@[simp] theorem sz73 : szOf Tryd.prog 73 = some 1 := by kernel_rfl
@[simp] theorem zr73 : zeroOf Tryd.prog 73 = some [.nilp] := by kernel_rfl
attribute [simp] Tryd.underlying74
@[simp] theorem ag74 : aggOf Tryd.prog 74 = some true := by kernel_rfl
@[simp] theorem sz74 : szOf Tryd.prog 74 = some 2 := by kernel_rfl
@[simp] theorem zr74 : zeroOf Tryd.prog 74 = some [.nilp, .nils] := by kernel_rfl
@[simp] theorem pl74 : placesOf Tryd.prog 74 = some (fun i => ([(0, 1), (1, 1)] : List (Nat × Nat))[i]?) := by kernel_rfl
attribute [simp] Tryd.underlying75
@[simp] theorem ag75 : aggOf Tryd.prog 75 = some true := by kernel_rfl
@[simp] theorem sz75 : szOf Tryd.prog 75 = some 2 := by kernel_rfl
@[simp] theorem zr75 : zeroOf Tryd.prog 75 = some [.nilp, .nils] := by kernel_rfl
@[simp] theorem pl75 : placesOf Tryd.prog 75 = some (fun i => ([(0, 1), (1, 1)] : List (Nat × Nat))[i]?) := by kernel_rfl
attribute [simp] Tryd.underlying76
@[simp] theorem ag76 : aggOf Tryd.prog 76 = some false := by kernel_rfl
@[simp] theorem sz76 : szOf Tryd.prog 76 = some 1 := by kernel_rfl
@[simp] theorem zr76 : zeroOf Tryd.prog 76 = some [.nilf] := by kernel_rfl
attribute [simp] Tryd.underlying77
@[simp] theorem ag77 : aggOf Tryd.prog 77 = some false := by kernel_rfl
@[simp] theorem sz77 : szOf Tryd.prog 77 = some 1 := by kernel_rfl
attribute [simp] Tryd.underlying78
@[simp] theorem ag78 : aggOf Tryd.prog 78 = some false := by kernel_rfl
@[simp] theorem sz78 : szOf Tryd.prog 78 = some 1 := by kernel_rfl
@[simp] theorem zr78 : zeroOf Tryd.prog 78 = some [.nilf] := by kernel_rfl
attribute [simp] Tryd.underlying79
@[simp] theorem ag79 : aggOf Tryd.prog 79 = some false := by kernel_rfl
@[simp] theorem sz79 : szOf Tryd.prog 79 = some 1 := by kernel_rfl
@[simp] theorem zr79 : zeroOf Tryd.prog 79 = some [.ifc true] := by kernel_rfl
attribute [simp] Tryd.underlying80
@[simp] theorem ag80 : aggOf Tryd.prog 80 = some false := by kernel_rfl
@[simp] theorem sz80 : szOf Tryd.prog 80 = some 1 := by kernel_rfl
@[simp] theorem zr80 : zeroOf Tryd.prog 80 = some [.ifc true] := by kernel_rfl
attribute [simp] Tryd.underlying81
@[simp] theorem ag81 : aggOf Tryd.prog 81 = some false := by kernel_rfl
@[simp] theorem sz81 : szOf Tryd.prog 81 = some 1 := by kernel_rfl
attribute [simp] Tryd.underlying82
@[simp] theorem ag82 : aggOf Tryd.prog 82 = some false := by kernel_rfl
@[simp] theorem sz82 : szOf Tryd.prog 82 = some 1 := by kernel_rfl
@[simp] theorem zr82 : zeroOf Tryd.prog 82 = some [.nilf] := by kernel_rfl
attribute [simp] Tryd.underlying83
@[simp] theorem ag83 : aggOf Tryd.prog 83 = some false := by kernel_rfl
@[simp] theorem sz83 : szOf Tryd.prog 83 = some 1 := by kernel_rfl
@[simp] theorem zr83 : zeroOf Tryd.prog 83 = some [.nilf] := by kernel_rfl
attribute [simp] Tryd.underlying84
@[simp] theorem ag84 : aggOf Tryd.prog 84 = some false := by kernel_rfl
@[simp] theorem sz84 : szOf Tryd.prog 84 = some 1 := by kernel_rfl
@[simp] theorem zr84 : zeroOf Tryd.prog 84 = some [.nilf] := by kernel_rfl
attribute [simp] Tryd.underlying85
@[simp] theorem ag85 : aggOf Tryd.prog 85 = some false := by kernel_rfl
@[simp] theorem sz85 : szOf Tryd.prog 85 = some 1 := by kernel_rfl
@[simp] theorem zr85 : zeroOf Tryd.prog 85 = some [.nilf] := by kernel_rfl
attribute [simp] Tryd.underlying86
@[simp] theorem ag86 : aggOf Tryd.prog 86 = some false := by kernel_rfl
@[simp] theorem sz86 : szOf Tryd.prog 86 = some 1 := by kernel_rfl
attribute [simp] Tryd.underlying87
@[simp] theorem ag87 : aggOf Tryd.prog 87 = some false := by kernel_rfl
@[simp] theorem sz87 : szOf Tryd.prog 87 = some 1 := by kernel_rfl
@[simp] theorem zr87 : zeroOf Tryd.prog 87 = some [.nilf] := by kernel_rfl
attribute [simp] Tryd.underlying88
@[simp] theorem ag88 : aggOf Tryd.prog 88 = some false := by kernel_rfl
@[simp] theorem sz88 : szOf Tryd.prog 88 = some 1 := by kernel_rfl
@[simp] theorem zr88 : zeroOf Tryd.prog 88 = some [.nilf] := by kernel_rfl
attribute [simp] Tryd.underlying89
@[simp] theorem ag89 : aggOf Tryd.prog 89 = some false := by kernel_rfl
@[simp] theorem sz89 : szOf Tryd.prog 89 = some 1 := by kernel_rfl
attribute [simp] Tryd.underlying90
@[simp] theorem ag90 : aggOf Tryd.prog 90 = some false := by kernel_rfl
@[simp] theorem sz90 : szOf Tryd.prog 90 = some 1 := by kernel_rfl
@[simp] theorem zr90 : zeroOf Tryd.prog 90 = some [.nilf] := by kernel_rfl
attribute [simp] Tryd.underlying91
@[simp] theorem ag91 : aggOf Tryd.prog 91 = some false := by kernel_rfl
@[simp] theorem sz91 : szOf Tryd.prog 91 = some 1 := by kernel_rfl
@[simp] theorem zr91 : zeroOf Tryd.prog 91 = some [.nilf] := by kernel_rfl
attribute [simp] Tryd.underlying92
@[simp] theorem ag92 : aggOf Tryd.prog 92 = some false := by kernel_rfl
@[simp] theorem sz92 : szOf Tryd.prog 92 = some 1 := by kernel_rfl
@[simp] theorem zr92 : zeroOf Tryd.prog 92 = some [.nilp] := by kernel_rfl
attribute [simp] Tryd.underlying93
@[simp] theorem ag93 : aggOf Tryd.prog 93 = some false := by kernel_rfl
@[simp] theorem sz93 : szOf Tryd.prog 93 = some 1 := by kernel_rfl
@[simp] theorem zr93 : zeroOf Tryd.prog 93 = some [.nilf] := by kernel_rfl
attribute [simp] Tryd.underlying94
@[simp] theorem ag94 : aggOf Tryd.prog 94 = some false := by kernel_rfl
@[simp] theorem sz94 : szOf Tryd.prog 94 = some 1 := by kernel_rfl
@[simp] theorem zr94 : zeroOf Tryd.prog 94 = some [.nilf] := by kernel_rfl
attribute [simp] Tryd.underlying95
@[simp] theorem ag95 : aggOf Tryd.prog 95 = some false := by kernel_rfl
@[simp] theorem sz95 : szOf Tryd.prog 95 = some 1 := by kernel_rfl
@[simp] theorem zr95 : zeroOf Tryd.prog 95 = some [.nilf] := by kernel_rfl
attribute [simp] Tryd.underlying96
@[simp] theorem ag96 : aggOf Tryd.prog 96 = some false := by kernel_rfl
@[simp] theorem sz96 : szOf Tryd.prog 96 = some 1 := by kernel_rfl
@[simp] theorem zr96 : zeroOf Tryd.prog 96 = some [.nilf] := by kernel_rfl
attribute [simp] Tryd.underlying97
@[simp] theorem ag97 : aggOf Tryd.prog 97 = some false := by kernel_rfl
@[simp] theorem sz97 : szOf Tryd.prog 97 = some 1 := by kernel_rfl
@[simp] theorem zr97 : zeroOf Tryd.prog 97 = some [.nilf] := by kernel_rfl
attribute [simp] Tryd.underlying98
@[simp] theorem ag98 : aggOf Tryd.prog 98 = some false := by kernel_rfl
@[simp] theorem sz98 : szOf Tryd.prog 98 = some 1 := by kernel_rfl
@[simp] theorem zr98 : zeroOf Tryd.prog 98 = some [.nilf] := by kernel_rfl
attribute [simp] Tryd.underlying99
@[simp] theorem ag99 : aggOf Tryd.prog 99 = some false := by kernel_rfl
@[simp] theorem sz99 : szOf Tryd.prog 99 = some 1 := by kernel_rfl
@[simp] theorem zr99 : zeroOf Tryd.prog 99 = some [.nilf] := by kernel_rfl
attribute [simp] Tryd.underlying100
@[simp] theorem ag100 : aggOf Tryd.prog 100 = some false := by kernel_rfl
@[simp] theorem sz100 : szOf Tryd.prog 100 = some 1 := by kernel_rfl
@[simp] theorem zr100 : zeroOf Tryd.prog 100 = some [.nilf] := by kernel_rfl
attribute [simp] Tryd.underlying101
@[simp] theorem ag101 : aggOf Tryd.prog 101 = some false := by kernel_rfl
@[simp] theorem sz101 : szOf Tryd.prog 101 = some 1 := by kernel_rfl
@[simp] theorem zr101 : zeroOf Tryd.prog 101 = some [.nilf] := by kernel_rfl
attribute [simp] Tryd.underlying102
@[simp] theorem ag102 : aggOf Tryd.prog 102 = some false := by kernel_rfl
@[simp] theorem sz102 : szOf Tryd.prog 102 = some 1 := by kernel_rfl
@[simp] theorem zr102 : zeroOf Tryd.prog 102 = some [.nilf] := by kernel_rfl
attribute [simp] Tryd.underlying103
@[simp] theorem ag103 : aggOf Tryd.prog 103 = some false := by kernel_rfl
@[simp] theorem sz103 : szOf Tryd.prog 103 = some 1 := by kernel_rfl
@[simp] theorem zr103 : zeroOf Tryd.prog 103 = some [.nilf] := by kernel_rfl
attribute [simp] Tryd.underlying104
@[simp] theorem ag104 : aggOf Tryd.prog 104 = some false := by kernel_rfl
@[simp] theorem sz104 : szOf Tryd.prog 104 = some 1 := by kernel_rfl
@[simp] theorem zr104 : zeroOf Tryd.prog 104 = some [.nilf] := by kernel_rfl
attribute [simp] Tryd.underlying105
@[simp] theorem ag105 : aggOf Tryd.prog 105 = some false := by kernel_rfl
@[simp] theorem sz105 : szOf Tryd.prog 105 = some 1 := by kernel_rfl
@[simp] theorem zr105 : zeroOf Tryd.prog 105 = some [.nilp] := by kernel_rfl
attribute [simp] Tryd.underlying106
@[simp] theorem ag106 : aggOf Tryd.prog 106 = some false := by kernel_rfl
@[simp] theorem sz106 : szOf Tryd.prog 106 = some 1 := by kernel_rfl
@[simp] theorem zr106 : zeroOf Tryd.prog 106 = some [.nilf] := by kernel_rfl
attribute [simp] Tryd.underlying107
@[simp] theorem ag107 : aggOf Tryd.prog 107 = some false := by kernel_rfl
@[simp] theorem sz107 : szOf Tryd.prog 107 = some 1 := by kernel_rfl
@[simp] theorem zr107 : zeroOf Tryd.prog 107 = some [.nilf] := by kernel_rfl
attribute [simp] Tryd.underlying108
@[simp] theorem ag108 : aggOf Tryd.prog 108 = some false := by kernel_rfl
@[simp] theorem sz108 : szOf Tryd.prog 108 = some 1 := by kernel_rfl
@[simp] theorem zr108 : zeroOf Tryd.prog 108 = some [.nilf] := by kernel_rfl
attribute [simp] Tryd.underlying109
@[simp] theorem ag109 : aggOf Tryd.prog 109 = some false := by kernel_rfl
@[simp] theorem sz109 : szOf Tryd.prog 109 = some 1 := by kernel_rfl
@[simp] theorem zr109 : zeroOf Tryd.prog 109 = some [.nilf] := by kernel_rfl
attribute [simp] Tryd.underlying110
@[simp] theorem ag110 : aggOf Tryd.prog 110 = some false := by kernel_rfl
@[simp] theorem sz110 : szOf Tryd.prog 110 = some 1 := by kernel_rfl
@[simp] theorem zr110 : zeroOf Tryd.prog 110 = some [.nilf] := by kernel_rfl
attribute [simp] Tryd.underlying111
@[simp] theorem ag111 : aggOf Tryd.prog 111 = some false := by kernel_rfl
@[simp] theorem sz111 : szOf Tryd.prog 111 = some 1 := by kernel_rfl
@[simp] theorem zr111 : zeroOf Tryd.prog 111 = some [.nilf] := by kernel_rfl
attribute [simp] Tryd.underlying112
@[simp] theorem ag112 : aggOf Tryd.prog 112 = some false := by kernel_rfl
@[simp] theorem sz112 : szOf Tryd.prog 112 = some 1 := by kernel_rfl
@[simp] theorem zr112 : zeroOf Tryd.prog 112 = some [.nilf] := by kernel_rfl
attribute [simp] Tryd.underlying113
@[simp] theorem ag113 : aggOf Tryd.prog 113 = some false := by kernel_rfl
@[simp] theorem sz113 : szOf Tryd.prog 113 = some 1 := by kernel_rfl
@[simp] theorem zr113 : zeroOf Tryd.prog 113 = some [.nilf] := by kernel_rfl
attribute [simp] Tryd.underlying114
@[simp] theorem ag114 : aggOf Tryd.prog 114 = some false := by kernel_rfl
@[simp] theorem sz114 : szOf Tryd.prog 114 = some 1 := by kernel_rfl
@[simp] theorem zr114 : zeroOf Tryd.prog 114 = some [.nilf] := by kernel_rfl
attribute [simp] Tryd.underlying115
@[simp] theorem ag115 : aggOf Tryd.prog 115 = some false := by kernel_rfl
@[simp] theorem sz115 : szOf Tryd.prog 115 = some 1 := by kernel_rfl
@[simp] theorem zr115 : zeroOf Tryd.prog 115 = some [.nilf] := by kernel_rfl
attribute [simp] Tryd.underlying116
@[simp] theorem ag116 : aggOf Tryd.prog 116 = some true := by kernel_rfl
@[simp] theorem sz116 : szOf Tryd.prog 116 = some 4 := by kernel_rfl
@[simp] theorem zr116 : zeroOf Tryd.prog 116 = some [.int .i64 0, .int .i64 0, .flt .f32 0, .flt .f32 0] := by kernel_rfl
@[simp] theorem pl116 : placesOf Tryd.prog 116 = some (fun i => ([(0, 1), (1, 1), (2, 1), (3, 1)] : List (Nat × Nat))[i]?) := by kernel_rfl
attribute [simp] Tryd.underlying117
@[simp] theorem ag117 : aggOf Tryd.prog 117 = some true := by kernel_rfl
@[simp] theorem sz117 : szOf Tryd.prog 117 = some 4 := by kernel_rfl
@[simp] theorem zr117 : zeroOf Tryd.prog 117 = some [.int .i64 0, .int .i64 0, .flt .f32 0, .flt .f32 0] := by kernel_rfl
@[simp] theorem pl117 : placesOf Tryd.prog 117 = some (fun i => ([(0, 1), (1, 1), (2, 1), (3, 1)] : List (Nat × Nat))[i]?) := by kernel_rfl
attribute [simp] Tryd.underlying118
@[simp] theorem ag118 : aggOf Tryd.prog 118 = some false := by kernel_rfl
@[simp] theorem sz118 : szOf Tryd.prog 118 = some 1 := by kernel_rfl
@[simp] theorem zr118 : zeroOf Tryd.prog 118 = some [.nilf] := by kernel_rfl
attribute [simp] Tryd.underlying119
@[simp] theorem ag119 : aggOf Tryd.prog 119 = some false := by kernel_rfl
@[simp] theorem sz119 : szOf Tryd.prog 119 = some 1 := by kernel_rfl
@[simp] theorem zr119 : zeroOf Tryd.prog 119 = some [.nilf] := by kernel_rfl
attribute [simp] Tryd.underlying120
@[simp] theorem ag120 : aggOf Tryd.prog 120 = some false := by kernel_rfl
@[simp] theorem sz120 : szOf Tryd.prog 120 = some 1 := by kernel_rfl
@[simp] theorem zr120 : zeroOf Tryd.prog 120 = some [.nilf] := by kernel_rfl
attribute [simp] Tryd.underlying121
@[simp] theorem ag121 : aggOf Tryd.prog 121 = some false := by kernel_rfl
@[simp] theorem sz121 : szOf Tryd.prog 121 = some 1 := by kernel_rfl
@[simp] theorem zr121 : zeroOf Tryd.prog 121 = some [.nilf] := by kernel_rfl
attribute [simp] Tryd.underlying122
@[simp] theorem ag122 : aggOf Tryd.prog 122 = some false := by kernel_rfl
@[simp] theorem sz122 : szOf Tryd.prog 122 = some 1 := by kernel_rfl
@[simp] theorem zr122 : zeroOf Tryd.prog 122 = some [.nilf] := by kernel_rfl
attribute [simp] Tryd.underlying123
@[simp] theorem ag123 : aggOf Tryd.prog 123 = some false := by kernel_rfl
@[simp] theorem sz123 : szOf Tryd.prog 123 = some 1 := by kernel_rfl
@[simp] theorem zr123 : zeroOf Tryd.prog 123 = some [.flt .f64 0] := by kernel_rfl
attribute [simp] Tryd.underlying124
@[simp] theorem ag124 : aggOf Tryd.prog 124 = some false := by kernel_rfl
@[simp] theorem sz124 : szOf Tryd.prog 124 = some 1 := by kernel_rfl
@[simp] theorem zr124 : zeroOf Tryd.prog 124 = some [.nilf] := by kernel_rfl
attribute [simp] Tryd.underlying125
@[simp] theorem ag125 : aggOf Tryd.prog 125 = some false := by kernel_rfl
@[simp] theorem sz125 : szOf Tryd.prog 125 = some 1 := by kernel_rfl
@[simp] theorem zr125 : zeroOf Tryd.prog 125 = some [.nilf] := by kernel_rfl
attribute [simp] Tryd.underlying126
@[simp] theorem ag126 : aggOf Tryd.prog 126 = some false := by kernel_rfl
@[simp] theorem sz126 : szOf Tryd.prog 126 = some 1 := by kernel_rfl
@[simp] theorem zr126 : zeroOf Tryd.prog 126 = some [.nilf] := by kernel_rfl
attribute [simp] Tryd.underlying127
@[simp] theorem ag127 : aggOf Tryd.prog 127 = some false := by kernel_rfl
@[simp] theorem sz127 : szOf Tryd.prog 127 = some 1 := by kernel_rfl
@[simp] theorem zr127 : zeroOf Tryd.prog 127 = some [.nilp] := by kernel_rfl
attribute [simp] Tryd.underlying128
@[simp] theorem ag128 : aggOf Tryd.prog 128 = some false := by kernel_rfl
@[simp] theorem sz128 : szOf Tryd.prog 128 = some 1 := by kernel_rfl
@[simp] theorem zr128 : zeroOf Tryd.prog 128 = some [.nilf] := by kernel_rfl
attribute [simp] Tryd.underlying129
@[simp] theorem ag129 : aggOf Tryd.prog 129 = some false := by kernel_rfl
@[simp] theorem sz129 : szOf Tryd.prog 129 = some 1 := by kernel_rfl
@[simp] theorem zr129 : zeroOf Tryd.prog 129 = some [.nilf] := by kernel_rfl
attribute [simp] Tryd.underlying130
@[simp] theorem ag130 : aggOf Tryd.prog 130 = some false := by kernel_rfl
@[simp] theorem sz130 : szOf Tryd.prog 130 = some 1 := by kernel_rfl
@[simp] theorem zr130 : zeroOf Tryd.prog 130 = some [.nilf] := by kernel_rfl
attribute [simp] Tryd.underlying131
@[simp] theorem ag131 : aggOf Tryd.prog 131 = some false := by kernel_rfl
@[simp] theorem sz131 : szOf Tryd.prog 131 = some 1 := by kernel_rfl
@[simp] theorem zr131 : zeroOf Tryd.prog 131 = some [.nilf] := by kernel_rfl
attribute [simp] Tryd.underlying132
@[simp] theorem ag132 : aggOf Tryd.prog 132 = some false := by kernel_rfl
@[simp] theorem sz132 : szOf Tryd.prog 132 = some 1 := by kernel_rfl
@[simp] theorem zr132 : zeroOf Tryd.prog 132 = some [.nilp] := by kernel_rfl
attribute [simp] Tryd.underlying133
@[simp] theorem ag133 : aggOf Tryd.prog 133 = some false := by kernel_rfl
@[simp] theorem sz133 : szOf Tryd.prog 133 = some 1 := by kernel_rfl
@[simp] theorem zr133 : zeroOf Tryd.prog 133 = some [.nilf] := by kernel_rfl
attribute [simp] Tryd.underlying134
@[simp] theorem ag134 : aggOf Tryd.prog 134 = some false := by kernel_rfl
@[simp] theorem sz134 : szOf Tryd.prog 134 = some 1 := by kernel_rfl
@[simp] theorem zr134 : zeroOf Tryd.prog 134 = some [.nilf] := by kernel_rfl
attribute [simp] Tryd.underlying135
@[simp] theorem ag135 : aggOf Tryd.prog 135 = some false := by kernel_rfl
@[simp] theorem sz135 : szOf Tryd.prog 135 = some 1 := by kernel_rfl
attribute [simp] Tryd.underlying136
@[simp] theorem ag136 : aggOf Tryd.prog 136 = some false := by kernel_rfl
@[simp] theorem sz136 : szOf Tryd.prog 136 = some 1 := by kernel_rfl
@[simp] theorem zr136 : zeroOf Tryd.prog 136 = some [.nilf] := by kernel_rfl
attribute [simp] Tryd.underlying137
@[simp] theorem ag137 : aggOf Tryd.prog 137 = some false := by kernel_rfl
@[simp] theorem sz137 : szOf Tryd.prog 137 = some 1 := by kernel_rfl
@[simp] theorem zr137 : zeroOf Tryd.prog 137 = some [.int .u64 0] := by kernel_rfl
attribute [simp] Tryd.underlying138
@[simp] theorem ag138 : aggOf Tryd.prog 138 = some true := by kernel_rfl
@[simp] theorem sz138 : szOf Tryd.prog 138 = some 3 := by kernel_rfl
@[simp] theorem zr138 : zeroOf Tryd.prog 138 = some [.nils, .int .i64 0, .int .u64 0] := by kernel_rfl
@[simp] theorem pl138 : placesOf Tryd.prog 138 = some (fun i => ([(0, 1), (1, 1), (2, 1)] : List (Nat × Nat))[i]?) := by kernel_rfl
attribute [simp] Tryd.underlying139
@[simp] theorem ag139 : aggOf Tryd.prog 139 = some true := by kernel_rfl
@[simp] theorem sz139 : szOf Tryd.prog 139 = some 3 := by kernel_rfl
@[simp] theorem zr139 : zeroOf Tryd.prog 139 = some [.nils, .int .i64 0, .int .u64 0] := by kernel_rfl
@[simp] theorem pl139 : placesOf Tryd.prog 139 = some (fun i => ([(0, 1), (1, 1), (2, 1)] : List (Nat × Nat))[i]?) := by kernel_rfl
attribute [simp] Tryd.underlying140
@[simp] theorem ag140 : aggOf Tryd.prog 140 = some false := by kernel_rfl
@[simp] theorem sz140 : szOf Tryd.prog 140 = some 1 := by kernel_rfl
@[simp] theorem zr140 : zeroOf Tryd.prog 140 = some [.nilf] := by kernel_rfl
attribute [simp] Tryd.underlying141
@[simp] theorem ag141 : aggOf Tryd.prog 141 = some false := by kernel_rfl
@[simp] theorem sz141 : szOf Tryd.prog 141 = some 1 := by kernel_rfl
@[simp] theorem zr141 : zeroOf Tryd.prog 141 = some [.nilf] := by kernel_rfl
attribute [simp] Tryd.underlying142
@[simp] theorem ag142 : aggOf Tryd.prog 142 = some false := by kernel_rfl
@[simp] theorem sz142 : szOf Tryd.prog 142 = some 1 := by kernel_rfl
@[simp] theorem zr142 : zeroOf Tryd.prog 142 = some [.nilf] := by kernel_rfl
attribute [simp] Tryd.underlying143
@[simp] theorem ag143 : aggOf Tryd.prog 143 = some false := by kernel_rfl
@[simp] theorem sz143 : szOf Tryd.prog 143 = some 1 := by kernel_rfl
@[simp] theorem zr143 : zeroOf Tryd.prog 143 = some [.nilf] := by kernel_rfl
attribute [simp] Tryd.underlying144
@[simp] theorem ag144 : aggOf Tryd.prog 144 = some false := by kernel_rfl
@[simp] theorem sz144 : szOf Tryd.prog 144 = some 1 := by kernel_rfl
@[simp] theorem zr144 : zeroOf Tryd.prog 144 = some [.nilf] := by kernel_rfl
attribute [simp] Tryd.underlying145
@[simp] theorem ag145 : aggOf Tryd.prog 145 = some false := by kernel_rfl
@[simp] theorem sz145 : szOf Tryd.prog 145 = some 1 := by kernel_rfl
attribute [simp] Tryd.underlying146
@[simp] theorem ag146 : aggOf Tryd.prog 146 = some false := by kernel_rfl
@[simp] theorem sz146 : szOf Tryd.prog 146 = some 1 := by kernel_rfl
@[simp] theorem zr146 : zeroOf Tryd.prog 146 = some [.nilf] := by kernel_rfl
attribute [simp] Tryd.underlying147
@[simp] theorem ag147 : aggOf Tryd.prog 147 = some false := by kernel_rfl
@[simp] theorem sz147 : szOf Tryd.prog 147 = some 1 := by kernel_rfl
@[simp] theorem zr147 : zeroOf Tryd.prog 147 = some [.nilf] := by kernel_rfl
attribute [simp] Tryd.underlying148
@[simp] theorem ag148 : aggOf Tryd.prog 148 = some false := by kernel_rfl
@[simp] theorem sz148 : szOf Tryd.prog 148 = some 1 := by kernel_rfl
@[simp] theorem zr148 : zeroOf Tryd.prog 148 = some [.int .u32 0] := by kernel_rfl
attribute [simp] Tryd.underlying149
@[simp] theorem ag149 : aggOf Tryd.prog 149 = some false := by kernel_rfl
@[simp] theorem sz149 : szOf Tryd.prog 149 = some 1 := by kernel_rfl
@[simp] theorem zr149 : zeroOf Tryd.prog 149 = some [.nilf] := by kernel_rfl
attribute [simp] Tryd.underlying150
@[simp] theorem ag150 : aggOf Tryd.prog 150 = some false := by kernel_rfl
@[simp] theorem sz150 : szOf Tryd.prog 150 = some 1 := by kernel_rfl
@[simp] theorem zr150 : zeroOf Tryd.prog 150 = some [.nilf] := by kernel_rfl
attribute [simp] Tryd.underlying151
@[simp] theorem ag151 : aggOf Tryd.prog 151 = some false := by kernel_rfl
@[simp] theorem sz151 : szOf Tryd.prog 151 = some 1 := by kernel_rfl
@[simp] theorem zr151 : zeroOf Tryd.prog 151 = some [.nilf] := by kernel_rfl
attribute [simp] Tryd.underlying152
@[simp] theorem ag152 : aggOf Tryd.prog 152 = some false := by kernel_rfl
@[simp] theorem sz152 : szOf Tryd.prog 152 = some 1 := by kernel_rfl
@[simp] theorem zr152 : zeroOf Tryd.prog 152 = some [.nilf] := by kernel_rfl
attribute [simp] Tryd.underlying153
@[simp] theorem ag153 : aggOf Tryd.prog 153 = some false := by kernel_rfl
@[simp] theorem sz153 : szOf Tryd.prog 153 = some 1 := by kernel_rfl
@[simp] theorem zr153 : zeroOf Tryd.prog 153 = some [.nilp] := by kernel_rfl
attribute [simp] Tryd.underlying154
@[simp] theorem ag154 : aggOf Tryd.prog 154 = some false := by kernel_rfl
@[simp] theorem sz154 : szOf Tryd.prog 154 = some 1 := by kernel_rfl
@[simp] theorem zr154 : zeroOf Tryd.prog 154 = some [.nilf] := by kernel_rfl
attribute [simp] Tryd.underlying155
@[simp] theorem ag155 : aggOf Tryd.prog 155 = some false := by kernel_rfl
@[simp] theorem sz155 : szOf Tryd.prog 155 = some 1 := by kernel_rfl
@[simp] theorem zr155 : zeroOf Tryd.prog 155 = some [.nilp] := by kernel_rfl
attribute [simp] Tryd.underlying156
@[simp] theorem ag156 : aggOf Tryd.prog 156 = some false := by kernel_rfl
@[simp] theorem sz156 : szOf Tryd.prog 156 = some 1 := by kernel_rfl
@[simp] theorem zr156 : zeroOf Tryd.prog 156 = some [.nilf] := by kernel_rfl
attribute [simp] Tryd.underlying157
@[simp] theorem ag157 : aggOf Tryd.prog 157 = some false := by kernel_rfl
@[simp] theorem sz157 : szOf Tryd.prog 157 = some 1 := by kernel_rfl
@[simp] theorem zr157 : zeroOf Tryd.prog 157 = some [.nilf] := by kernel_rfl
attribute [simp] Tryd.underlying158
@[simp] theorem ag158 : aggOf Tryd.prog 158 = some false := by kernel_rfl
@[simp] theorem sz158 : szOf Tryd.prog 158 = some 1 := by kernel_rfl
@[simp] theorem zr158 : zeroOf Tryd.prog 158 = some [.nilf] := by kernel_rfl
attribute [simp] Tryd.underlying159
@[simp] theorem ag159 : aggOf Tryd.prog 159 = some false := by kernel_rfl
@[simp] theorem sz159 : szOf Tryd.prog 159 = some 1 := by kernel_rfl
@[simp] theorem zr159 : zeroOf Tryd.prog 159 = some [.nilf] := by kernel_rfl
attribute [simp] Tryd.underlying160
@[simp] theorem ag160 : aggOf Tryd.prog 160 = some true := by kernel_rfl
@[simp] theorem sz160 : szOf Tryd.prog 160 = some 4 := by kernel_rfl
@[simp] theorem zr160 : zeroOf Tryd.prog 160 = some [.int .i64 0, .int .i64 0, .flt .f32 0, .flt .f32 0] := by kernel_rfl
@[simp] theorem pl160 : placesOf Tryd.prog 160 = some (fun i => ([(0, 1), (1, 1), (2, 1), (3, 1)] : List (Nat × Nat))[i]?) := by kernel_rfl
attribute [simp] Tryd.underlying161
@[simp] theorem ag161 : aggOf Tryd.prog 161 = some false := by kernel_rfl
@[simp] theorem sz161 : szOf Tryd.prog 161 = some 1 := by kernel_rfl
@[simp] theorem zr161 : zeroOf Tryd.prog 161 = some [.nilf] := by kernel_rfl
attribute [simp] Tryd.underlying162
@[simp] theorem ag162 : aggOf Tryd.prog 162 = some false := by kernel_rfl
@[simp] theorem sz162 : szOf Tryd.prog 162 = some 1 := by kernel_rfl
@[simp] theorem zr162 : zeroOf Tryd.prog 162 = some [.nilf] := by kernel_rfl
attribute [simp] Tryd.underlying163
@[simp] theorem ag163 : aggOf Tryd.prog 163 = some false := by kernel_rfl
@[simp] theorem sz163 : szOf Tryd.prog 163 = some 1 := by kernel_rfl
@[simp] theorem zr163 : zeroOf Tryd.prog 163 = some [.nilf] := by kernel_rfl
attribute [simp] Tryd.underlying164
@[simp] theorem ag164 : aggOf Tryd.prog 164 = some false := by kernel_rfl
@[simp] theorem sz164 : szOf Tryd.prog 164 = some 1 := by kernel_rfl
@[simp] theorem zr164 : zeroOf Tryd.prog 164 = some [.nilf] := by kernel_rfl
attribute [simp] Tryd.underlying165
@[simp] theorem ag165 : aggOf Tryd.prog 165 = some false := by kernel_rfl
@[simp] theorem sz165 : szOf Tryd.prog 165 = some 1 := by kernel_rfl
@[simp] theorem zr165 : zeroOf Tryd.prog 165 = some [.nilf] := by kernel_rfl
attribute [simp] Tryd.underlying166
@[simp] theorem ag166 : aggOf Tryd.prog 166 = some false := by kernel_rfl
@[simp] theorem sz166 : szOf Tryd.prog 166 = some 1 := by kernel_rfl
@[simp] theorem zr166 : zeroOf Tryd.prog 166 = some [.nilf] := by kernel_rfl
attribute [simp] Tryd.underlying167
@[simp] theorem ag167 : aggOf Tryd.prog 167 = some false := by kernel_rfl
@[simp] theorem sz167 : szOf Tryd.prog 167 = some 1 := by kernel_rfl
@[simp] theorem zr167 : zeroOf Tryd.prog 167 = some [.nilf] := by kernel_rfl
attribute [simp] Tryd.underlying168
@[simp] theorem ag168 : aggOf Tryd.prog 168 = some false := by kernel_rfl
@[simp] theorem sz168 : szOf Tryd.prog 168 = some 1 := by kernel_rfl
@[simp] theorem zr168 : zeroOf Tryd.prog 168 = some [.nilf] := by kernel_rfl
attribute [simp] Tryd.underlying169
@[simp] theorem ag169 : aggOf Tryd.prog 169 = some false := by kernel_rfl
@[simp] theorem sz169 : szOf Tryd.prog 169 = some 1 := by kernel_rfl
@[simp] theorem zr169 : zeroOf Tryd.prog 169 = some [.nilf] := by kernel_rfl
attribute [simp] Tryd.underlying170
@[simp] theorem ag170 : aggOf Tryd.prog 170 = some false := by kernel_rfl
@[simp] theorem sz170 : szOf Tryd.prog 170 = some 1 := by kernel_rfl
@[simp] theorem zr170 : zeroOf Tryd.prog 170 = some [.nilf] := by kernel_rfl
attribute [simp] Tryd.underlying171
@[simp] theorem ag171 : aggOf Tryd.prog 171 = some false := by kernel_rfl
@[simp] theorem sz171 : szOf Tryd.prog 171 = some 1 := by kernel_rfl
@[simp] theorem zr171 : zeroOf Tryd.prog 171 = some [.nilf] := by kernel_rfl
attribute [simp] Tryd.underlying172
@[simp] theorem ag172 : aggOf Tryd.prog 172 = some false := by kernel_rfl
@[simp] theorem sz172 : szOf Tryd.prog 172 = some 1 := by kernel_rfl
@[simp] theorem zr172 : zeroOf Tryd.prog 172 = some [.nilp] := by kernel_rfl
attribute [simp] Tryd.underlying173
@[simp] theorem ag173 : aggOf Tryd.prog 173 = some false := by kernel_rfl
@[simp] theorem sz173 : szOf Tryd.prog 173 = some 1 := by kernel_rfl
@[simp] theorem zr173 : zeroOf Tryd.prog 173 = some [.nilf] := by kernel_rfl
attribute [simp] Tryd.underlying174
@[simp] theorem ag174 : aggOf Tryd.prog 174 = some false := by kernel_rfl
@[simp] theorem sz174 : szOf Tryd.prog 174 = some 1 := by kernel_rfl
@[simp] theorem zr174 : zeroOf Tryd.prog 174 = some [.nilf] := by kernel_rfl
attribute [simp] Tryd.underlying175
@[simp] theorem ag175 : aggOf Tryd.prog 175 = some false := by kernel_rfl
@[simp] theorem sz175 : szOf Tryd.prog 175 = some 1 := by kernel_rfl
@[simp] theorem zr175 : zeroOf Tryd.prog 175 = some [.nilf] := by kernel_rfl
attribute [simp] Tryd.underlying176
@[simp] theorem ag176 : aggOf Tryd.prog 176 = some false := by kernel_rfl
@[simp] theorem sz176 : szOf Tryd.prog 176 = some 1 := by kernel_rfl
@[simp] theorem zr176 : zeroOf Tryd.prog 176 = some [.nilf] := by kernel_rfl
attribute [simp] Tryd.underlying177
@[simp] theorem ag177 : aggOf Tryd.prog 177 = some false := by kernel_rfl
@[simp] theorem sz177 : szOf Tryd.prog 177 = some 1 := by kernel_rfl
@[simp] theorem zr177 : zeroOf Tryd.prog 177 = some [.int .u64 0] := by kernel_rfl
attribute [simp] Tryd.underlying178
@[simp] theorem ag178 : aggOf Tryd.prog 178 = some false := by kernel_rfl
@[simp] theorem sz178 : szOf Tryd.prog 178 = some 1 := by kernel_rfl
attribute [simp] Tryd.underlying179
@[simp] theorem ag179 : aggOf Tryd.prog 179 = some false := by kernel_rfl
@[simp] theorem sz179 : szOf Tryd.prog 179 = some 1 := by kernel_rfl
@[simp] theorem zr179 : zeroOf Tryd.prog 179 = some [.nilf] := by kernel_rfl
attribute [simp] Tryd.underlying180
@[simp] theorem ag180 : aggOf Tryd.prog 180 = some false := by kernel_rfl
@[simp] theorem sz180 : szOf Tryd.prog 180 = some 1 := by kernel_rfl
@[simp] theorem zr180 : zeroOf Tryd.prog 180 = some [.nilf] := by kernel_rfl
attribute [simp] Tryd.underlying181
@[simp] theorem ag181 : aggOf Tryd.prog 181 = some false := by kernel_rfl
@[simp] theorem sz181 : szOf Tryd.prog 181 = some 1 := by kernel_rfl
@[simp] theorem zr181 : zeroOf Tryd.prog 181 = some [.nilf] := by kernel_rfl
attribute [simp] Tryd.underlying182
@[simp] theorem ag182 : aggOf Tryd.prog 182 = some false := by kernel_rfl
@[simp] theorem sz182 : szOf Tryd.prog 182 = some 1 := by kernel_rfl
attribute [simp] Tryd.underlying183
@[simp] theorem ag183 : aggOf Tryd.prog 183 = some false := by kernel_rfl
@[simp] theorem sz183 : szOf Tryd.prog 183 = some 1 := by kernel_rfl
@[simp] theorem zr183 : zeroOf Tryd.prog 183 = some [.nilf] := by kernel_rfl
attribute [simp] Tryd.underlying184
@[simp] theorem ag184 : aggOf Tryd.prog 184 = some false := by kernel_rfl
@[simp] theorem sz184 : szOf Tryd.prog 184 = some 1 := by kernel_rfl
@[simp] theorem zr184 : zeroOf Tryd.prog 184 = some [.nilf] := by kernel_rfl
attribute [simp] Tryd.underlying185
@[simp] theorem ag185 : aggOf Tryd.prog 185 = some false := by kernel_rfl
@[simp] theorem sz185 : szOf Tryd.prog 185 = some 1 := by kernel_rfl
@[simp] theorem zr185 : zeroOf Tryd.prog 185 = some [.nilf] := by kernel_rfl
attribute [simp] Tryd.underlying186
@[simp] theorem ag186 : aggOf Tryd.prog 186 = some false := by kernel_rfl
@[simp] theorem sz186 : szOf Tryd.prog 186 = some 1 := by kernel_rfl
@[simp] theorem zr186 : zeroOf Tryd.prog 186 = some [.nilf] := by kernel_rfl
attribute [simp] Tryd.underlying187
@[simp] theorem ag187 : aggOf Tryd.prog 187 = some false := by kernel_rfl
@[simp] theorem sz187 : szOf Tryd.prog 187 = some 1 := by kernel_rfl
@[simp] theorem zr187 : zeroOf Tryd.prog 187 = some [.nilf] := by kernel_rfl
attribute [simp] Tryd.underlying188
@[simp] theorem ag188 : aggOf Tryd.prog 188 = some false := by kernel_rfl
@[simp] theorem sz188 : szOf Tryd.prog 188 = some 1 := by kernel_rfl
@[simp] theorem zr188 : zeroOf Tryd.prog 188 = some [.nilf] := by kernel_rfl
attribute [simp] Tryd.underlying189
@[simp] theorem ag189 : aggOf Tryd.prog 189 = some false := by kernel_rfl
@[simp] theorem sz189 : szOf Tryd.prog 189 = some 1 := by kernel_rfl
@[simp] theorem zr189 : zeroOf Tryd.prog 189 = some [.nilf] := by kernel_rfl
attribute [simp] Tryd.underlying190
@[simp] theorem ag190 : aggOf Tryd.prog 190 = some false := by kernel_rfl
@[simp] theorem sz190 : szOf Tryd.prog 190 = some 1 := by kernel_rfl
@[simp] theorem zr190 : zeroOf Tryd.prog 190 = some [.nilf] := by kernel_rfl
attribute [simp] Tryd.underlying191
@[simp] theorem ag191 : aggOf Tryd.prog 191 = some false := by kernel_rfl
@[simp] theorem sz191 : szOf Tryd.prog 191 = some 1 := by kernel_rfl
@[simp] theorem zr191 : zeroOf Tryd.prog 191 = some [.nilf] := by kernel_rfl
attribute [simp] Tryd.underlying192
@[simp] theorem ag192 : aggOf Tryd.prog 192 = some true := by kernel_rfl
@[simp] theorem sz192 : szOf Tryd.prog 192 = some 24 := by kernel_rfl
@[simp] theorem zr192 : zeroOf Tryd.prog 192 = some [.int .u8 0, .int .u8 0, .int .u8 0, .int .u8 0, .int .u8 0, .int .u8 0, .int .u8 0, .int .u8 0, .int .u8 0, .int .u8 0, .int .u8 0, .int .u8 0, .int .u8 0, .int .u8 0, .int .u8 0, .int .u8 0, .int .u8 0, .int .u8 0, .int .u8 0, .int .u8 0, .int .u8 0, .int .u8 0, .int .u8 0, .int .u8 0] := by kernel_rfl
@[simp] theorem pl192 : placesOf Tryd.prog 192 = some (fun i => some (i * 1, 1)) := by kernel_rfl
attribute [simp] Tryd.underlying193
@[simp] theorem ag193 : aggOf Tryd.prog 193 = some false := by kernel_rfl
@[simp] theorem sz193 : szOf Tryd.prog 193 = some 1 := by kernel_rfl
@[simp] theorem zr193 : zeroOf Tryd.prog 193 = some [.nilf] := by kernel_rfl
attribute [simp] Tryd.underlying194
@[simp] theorem ag194 : aggOf Tryd.prog 194 = some false := by kernel_rfl
@[simp] theorem sz194 : szOf Tryd.prog 194 = some 1 := by kernel_rfl
@[simp] theorem zr194 : zeroOf Tryd.prog 194 = some [.nilf] := by kernel_rfl
attribute [simp] Tryd.underlying195
@[simp] theorem ag195 : aggOf Tryd.prog 195 = some false := by kernel_rfl
@[simp] theorem sz195 : szOf Tryd.prog 195 = some 1 := by kernel_rfl
attribute [simp] Tryd.underlying196
@[simp] theorem ag196 : aggOf Tryd.prog 196 = some false := by kernel_rfl
@[simp] theorem sz196 : szOf Tryd.prog 196 = some 1 := by kernel_rfl
@[simp] theorem zr196 : zeroOf Tryd.prog 196 = some [.nilf] := by kernel_rfl
attribute [simp] Tryd.underlying197
@[simp] theorem ag197 : aggOf Tryd.prog 197 = some false := by kernel_rfl
@[simp] theorem sz197 : szOf Tryd.prog 197 = some 1 := by kernel_rfl
attribute [simp] Tryd.underlying198
@[simp] theorem ag198 : aggOf Tryd.prog 198 = some false := by kernel_rfl
@[simp] theorem sz198 : szOf Tryd.prog 198 = some 1 := by kernel_rfl
@[simp] theorem zr198 : zeroOf Tryd.prog 198 = some [.nilf] := by kernel_rfl
attribute [simp] Tryd.underlying199
@[simp] theorem ag199 : aggOf Tryd.prog 199 = some false := by kernel_rfl
@[simp] theorem sz199 : szOf Tryd.prog 199 = some 1 := by kernel_rfl
attribute [simp] Tryd.underlying200
@[simp] theorem ag200 : aggOf Tryd.prog 200 = some false := by kernel_rfl
@[simp] theorem sz200 : szOf Tryd.prog 200 = some 1 := by kernel_rfl
@[simp] theorem zr200 : zeroOf Tryd.prog 200 = some [.nilf] := by kernel_rfl
attribute [simp] Tryd.underlying201
@[simp] theorem ag201 : aggOf Tryd.prog 201 = some false := by kernel_rfl
@[simp] theorem sz201 : szOf Tryd.prog 201 = some 1 := by kernel_rfl
@[simp] theorem zr201 : zeroOf Tryd.prog 201 = some [.nilf] := by kernel_rfl
attribute [simp] Tryd.underlying202
@[simp] theorem ag202 : aggOf Tryd.prog 202 = some false := by kernel_rfl
@[simp] theorem sz202 : szOf Tryd.prog 202 = some 1 := by kernel_rfl
@[simp] theorem zr202 : zeroOf Tryd.prog 202 = some [.int .i64 0] := by kernel_rfl
attribute [simp] Tryd.underlying203
@[simp] theorem ag203 : aggOf Tryd.prog 203 = some false := by kernel_rfl
@[simp] theorem sz203 : szOf Tryd.prog 203 = some 1 := by kernel_rfl
@[simp] theorem zr203 : zeroOf Tryd.prog 203 = some [.nilf] := by kernel_rfl
attribute [simp] Tryd.underlying204
@[simp] theorem ag204 : aggOf Tryd.prog 204 = some false := by kernel_rfl
@[simp] theorem sz204 : szOf Tryd.prog 204 = some 1 := by kernel_rfl
@[simp] theorem zr204 : zeroOf Tryd.prog 204 = some [.nilp] := by kernel_rfl
attribute [simp] Tryd.underlying205
@[simp] theorem ag205 : aggOf Tryd.prog 205 = some false := by kernel_rfl
@[simp] theorem sz205 : szOf Tryd.prog 205 = some 1 := by kernel_rfl
@[simp] theorem zr205 : zeroOf Tryd.prog 205 = some [.nilf] := by kernel_rfl
attribute [simp] Tryd.underlying206
@[simp] theorem ag206 : aggOf Tryd.prog 206 = some false := by kernel_rfl
@[simp] theorem sz206 : szOf Tryd.prog 206 = some 1 := by kernel_rfl
@[simp] theorem zr206 : zeroOf Tryd.prog 206 = some [.nilf] := by kernel_rfl
attribute [simp] Tryd.underlying207
@[simp] theorem ag207 : aggOf Tryd.prog 207 = some false := by kernel_rfl
@[simp] theorem sz207 : szOf Tryd.prog 207 = some 1 := by kernel_rfl
@[simp] theorem zr207 : zeroOf Tryd.prog 207 = some [.nilf] := by kernel_rfl
attribute [simp] Tryd.underlying208
@[simp] theorem ag208 : aggOf Tryd.prog 208 = some false := by kernel_rfl
@[simp] theorem sz208 : szOf Tryd.prog 208 = some 1 := by kernel_rfl
@[simp] theorem zr208 : zeroOf Tryd.prog 208 = some [.nilf] := by kernel_rfl
attribute [simp] Tryd.underlying209
@[simp] theorem ag209 : aggOf Tryd.prog 209 = some false := by kernel_rfl
@[simp] theorem sz209 : szOf Tryd.prog 209 = some 1 := by kernel_rfl
@[simp] theorem zr209 : zeroOf Tryd.prog 209 = some [.nilf] := by kernel_rfl
attribute [simp] Tryd.underlying210
@[simp] theorem ag210 : aggOf Tryd.prog 210 = some false := by kernel_rfl
@[simp] theorem sz210 : szOf Tryd.prog 210 = some 1 := by kernel_rfl
attribute [simp] Tryd.underlying211
@[simp] theorem ag211 : aggOf Tryd.prog 211 = some false := by kernel_rfl
@[simp] theorem sz211 : szOf Tryd.prog 211 = some 1 := by kernel_rfl
@[simp] theorem zr211 : zeroOf Tryd.prog 211 = some [.nilf] := by kernel_rfl
attribute [simp] Tryd.underlying212
@[simp] theorem ag212 : aggOf Tryd.prog 212 = some false := by kernel_rfl
@[simp] theorem sz212 : szOf Tryd.prog 212 = some 1 := by kernel_rfl
@[simp] theorem zr212 : zeroOf Tryd.prog 212 = some [.nilf] := by kernel_rfl
attribute [simp] Tryd.underlying213
@[simp] theorem ag213 : aggOf Tryd.prog 213 = some false := by kernel_rfl
@[simp] theorem sz213 : szOf Tryd.prog 213 = some 1 := by kernel_rfl
@[simp] theorem zr213 : zeroOf Tryd.prog 213 = some [.nilf] := by kernel_rfl
attribute [simp] Tryd.underlying214
@[simp] theorem ag214 : aggOf Tryd.prog 214 = some false := by kernel_rfl
@[simp] theorem sz214 : szOf Tryd.prog 214 = some 1 := by kernel_rfl
@[simp] theorem zr214 : zeroOf Tryd.prog 214 = some [.nilf] := by kernel_rfl
attribute [simp] Tryd.underlying215
@[simp] theorem ag215 : aggOf Tryd.prog 215 = some false := by kernel_rfl
@[simp] theorem sz215 : szOf Tryd.prog 215 = some 1 := by kernel_rfl
@[simp] theorem zr215 : zeroOf Tryd.prog 215 = some [.nilf] := by kernel_rfl
attribute [simp] Tryd.underlying216
@[simp] theorem ag216 : aggOf Tryd.prog 216 = some false := by kernel_rfl
@[simp] theorem sz216 : szOf Tryd.prog 216 = some 1 := by kernel_rfl
@[simp] theorem zr216 : zeroOf Tryd.prog 216 = some [.nilf] := by kernel_rfl
attribute [simp] Tryd.underlying217
@[simp] theorem ag217 : aggOf Tryd.prog 217 = some true := by kernel_rfl
@[simp] theorem sz217 : szOf Tryd.prog 217 = some 20 := by kernel_rfl
@[simp] theorem zr217 : zeroOf Tryd.prog 217 = some [.int .u64 0, .int .u64 0, .int .u64 0, .int .u64 0, .int .u64 0, .int .u64 0, .int .u64 0, .int .u64 0, .int .u64 0, .int .u64 0, .int .u64 0, .int .u64 0, .int .u64 0, .int .u64 0, .int .u64 0, .int .u64 0, .int .u64 0, .int .u64 0, .int .u64 0, .int .u64 0] := by kernel_rfl
@[simp] theorem pl217 : placesOf Tryd.prog 217 = some (fun i => some (i * 1, 1)) := by kernel_rfl
attribute [simp] Tryd.underlying218
@[simp] theorem ag218 : aggOf Tryd.prog 218 = some true := by kernel_rfl
@[simp] theorem sz218 : szOf Tryd.prog 218 = some 65 := by kernel_rfl
@[simp] theorem pl218 : placesOf Tryd.prog 218 = some (fun i => some (i * 1, 1)) := by kernel_rfl
attribute [simp] Tryd.underlying219
@[simp] theorem ag219 : aggOf Tryd.prog 219 = some false := by kernel_rfl
@[simp] theorem sz219 : szOf Tryd.prog 219 = some 1 := by kernel_rfl
@[simp] theorem zr219 : zeroOf Tryd.prog 219 = some [.nilf] := by kernel_rfl
attribute [simp] Tryd.underlying220
@[simp] theorem ag220 : aggOf Tryd.prog 220 = some false := by kernel_rfl
@[simp] theorem sz220 : szOf Tryd.prog 220 = some 1 := by kernel_rfl
@[simp] theorem zr220 : zeroOf Tryd.prog 220 = some [.nilf] := by kernel_rfl
attribute [simp] Tryd.underlying221
@[simp] theorem ag221 : aggOf Tryd.prog 221 = some false := by kernel_rfl
@[simp] theorem sz221 : szOf Tryd.prog 221 = some 1 := by kernel_rfl
@[simp] theorem zr221 : zeroOf Tryd.prog 221 = some [.nilf] := by kernel_rfl
attribute [simp] Tryd.underlying222
@[simp] theorem ag222 : aggOf Tryd.prog 222 = some false := by kernel_rfl
@[simp] theorem sz222 : szOf Tryd.prog 222 = some 1 := by kernel_rfl
attribute [simp] Tryd.underlying223
@[simp] theorem ag223 : aggOf Tryd.prog 223 = some false := by kernel_rfl
@[simp] theorem sz223 : szOf Tryd.prog 223 = some 1 := by kernel_rfl
@[simp] theorem zr223 : zeroOf Tryd.prog 223 = some [.nilf] := by kernel_rfl
attribute [simp] Tryd.underlying224
@[simp] theorem ag224 : aggOf Tryd.prog 224 = some false := by kernel_rfl
@[simp] theorem sz224 : szOf Tryd.prog 224 = some 1 := by kernel_rfl
@[simp] theorem zr224 : zeroOf Tryd.prog 224 = some [.nilf] := by kernel_rfl
attribute [simp] Tryd.underlying226
@[simp] theorem ag226 : aggOf Tryd.prog 226 = some true := by kernel_rfl
@[simp] theorem sz226 : szOf Tryd.prog 226 = some 3 := by kernel_rfl
@[simp] theorem zr226 : zeroOf Tryd.prog 226 = some [.str ⟨#[]⟩, .str ⟨#[]⟩, .ifc true] := by kernel_rfl
@[simp] theorem pl226 : placesOf Tryd.prog 226 = some (fun i => ([(0, 1), (1, 1), (2, 1)] : List (Nat × Nat))[i]?) := by kernel_rfl
attribute [simp] Tryd.underlying227
@[simp] theorem ag227 : aggOf Tryd.prog 227 = some false := by kernel_rfl
@[simp] theorem sz227 : szOf Tryd.prog 227 = some 1 := by kernel_rfl
@[simp] theorem zr227 : zeroOf Tryd.prog 227 = some [.nilf] := by kernel_rfl
attribute [simp] Tryd.underlying228
@[simp] theorem ag228 : aggOf Tryd.prog 228 = some false := by kernel_rfl
@[simp] theorem sz228 : szOf Tryd.prog 228 = some 1 := by kernel_rfl
@[simp] theorem zr228 : zeroOf Tryd.prog 228 = some [.nilf] := by kernel_rfl
attribute [simp] Tryd.underlying229
@[simp] theorem ag229 : aggOf Tryd.prog 229 = some false := by kernel_rfl
@[simp] theorem sz229 : szOf Tryd.prog 229 = some 1 := by kernel_rfl
@[simp] theorem zr229 : zeroOf Tryd.prog 229 = some [.nilf] := by kernel_rfl
attribute [simp] Tryd.underlying230
@[simp] theorem ag230 : aggOf Tryd.prog 230 = some false := by kernel_rfl
@[simp] theorem sz230 : szOf Tryd.prog 230 = some 1 := by kernel_rfl
@[simp] theorem zr230 : zeroOf Tryd.prog 230 = some [.nilf] := by kernel_rfl
attribute [simp] Tryd.underlying231
@[simp] theorem ag231 : aggOf Tryd.prog 231 = some false := by kernel_rfl
@[simp] theorem sz231 : szOf Tryd.prog 231 = some 1 := by kernel_rfl
@[simp] theorem zr231 : zeroOf Tryd.prog 231 = some [.nilf] := by kernel_rfl
attribute [simp] Tryd.underlying232
@[simp] theorem ag232 : aggOf Tryd.prog 232 = some false := by kernel_rfl
@[simp] theorem sz232 : szOf Tryd.prog 232 = some 1 := by kernel_rfl
@[simp] theorem zr232 : zeroOf Tryd.prog 232 = some [.nilf] := by kernel_rfl
attribute [simp] Tryd.underlying233
@[simp] theorem ag233 : aggOf Tryd.prog 233 = some false := by kernel_rfl
@[simp] theorem sz233 : szOf Tryd.prog 233 = some 1 := by kernel_rfl
@[simp] theorem zr233 : zeroOf Tryd.prog 233 = some [.nilf] := by kernel_rfl
attribute [simp] Tryd.underlying234
@[simp] theorem ag234 : aggOf Tryd.prog 234 = some false := by kernel_rfl
@[simp] theorem sz234 : szOf Tryd.prog 234 = some 1 := by kernel_rfl
@[simp] theorem zr234 : zeroOf Tryd.prog 234 = some [.nilf] := by kernel_rfl
attribute [simp] Tryd.underlying235
@[simp] theorem ag235 : aggOf Tryd.prog 235 = some false := by kernel_rfl
@[simp] theorem sz235 : szOf Tryd.prog 235 = some 1 := by kernel_rfl
@[simp] theorem zr235 : zeroOf Tryd.prog 235 = some [.nilp] := by kernel_rfl
attribute [simp] Tryd.underlying237
@[simp] theorem ag237 : aggOf Tryd.prog 237 = some true := by kernel_rfl
@[simp] theorem sz237 : szOf Tryd.prog 237 = some 1 := by kernel_rfl
@[simp] theorem zr237 : zeroOf Tryd.prog 237 = some [.str ⟨#[]⟩] := by kernel_rfl
attribute [simp] Tryd.underlying238
@[simp] theorem ag238 : aggOf Tryd.prog 238 = some false := by kernel_rfl
@[simp] theorem sz238 : szOf Tryd.prog 238 = some 1 := by kernel_rfl
@[simp] theorem zr238 : zeroOf Tryd.prog 238 = some [.nilf] := by kernel_rfl
attribute [simp] Tryd.underlying239
@[simp] theorem ag239 : aggOf Tryd.prog 239 = some false := by kernel_rfl
@[simp] theorem sz239 : szOf Tryd.prog 239 = some 1 := by kernel_rfl
@[simp] theorem zr239 : zeroOf Tryd.prog 239 = some [.nilf] := by kernel_rfl
attribute [simp] Tryd.underlying240
@[simp] theorem ag240 : aggOf Tryd.prog 240 = some false := by kernel_rfl
@[simp] theorem sz240 : szOf Tryd.prog 240 = some 1 := by kernel_rfl
@[simp] theorem zr240 : zeroOf Tryd.prog 240 = some [.nils] := by kernel_rfl
attribute [simp] Tryd.underlying241
@[simp] theorem ag241 : aggOf Tryd.prog 241 = some false := by kernel_rfl
@[simp] theorem sz241 : szOf Tryd.prog 241 = some 1 := by kernel_rfl
@[simp] theorem zr241 : zeroOf Tryd.prog 241 = some [.nilf] := by kernel_rfl
attribute [simp] Tryd.underlying242
@[simp] theorem ag242 : aggOf Tryd.prog 242 = some true := by kernel_rfl
@[simp] theorem sz242 : szOf Tryd.prog 242 = some 32 := by kernel_rfl
@[simp] theorem zr242 : zeroOf Tryd.prog 242 = some [.int .u8 0, .int .u8 0, .int .u8 0, .int .u8 0, .int .u8 0, .int .u8 0, .int .u8 0, .int .u8 0, .int .u8 0, .int .u8 0, .int .u8 0, .int .u8 0, .int .u8 0, .int .u8 0, .int .u8 0, .int .u8 0, .int .u8 0, .int .u8 0, .int .u8 0, .int .u8 0, .int .u8 0, .int .u8 0, .int .u8 0, .int .u8 0, .int .u8 0, .int .u8 0, .int .u8 0, .int .u8 0, .int .u8 0, .int .u8 0, .int .u8 0, .int .u8 0] := by kernel_rfl
@[simp] theorem pl242 : placesOf Tryd.prog 242 = some (fun i => some (i * 1, 1)) := by kernel_rfl
attribute [simp] Tryd.underlying243
@[simp] theorem ag243 : aggOf Tryd.prog 243 = some true := by kernel_rfl
@[simp] theorem sz243 : szOf Tryd.prog 243 = some 64 := by kernel_rfl
@[simp] theorem zr243 : zeroOf Tryd.prog 243 = some [.int .u8 0, .int .u8 0, .int .u8 0, .int .u8 0, .int .u8 0, .int .u8 0, .int .u8 0, .int .u8 0, .int .u8 0, .int .u8 0, .int .u8 0, .int .u8 0, .int .u8 0, .int .u8 0, .int .u8 0, .int .u8 0, .int .u8 0, .int .u8 0, .int .u8 0, .int .u8 0, .int .u8 0, .int .u8 0, .int .u8 0, .int .u8 0, .int .u8 0, .int .u8 0, .int .u8 0, .int .u8 0, .int .u8 0, .int .u8 0, .int .u8 0, .int .u8 0, .int .u8 0, .int .u8 0, .int .u8 0, .int .u8 0, .int .u8 0, .int .u8 0, .int .u8 0, .int .u8 0, .int .u8 0, .int .u8 0, .int .u8 0, .int .u8 0, .int .u8 0, .int .u8 0, .int .u8 0, .int .u8 0, .int .u8 0, .int .u8 0, .int .u8 0, .int .u8 0, .int .u8 0, .int .u8 0, .int .u8 0, .int .u8 0, .int .u8 0, .int .u8 0, .int .u8 0, .int .u8 0, .int .u8 0, .int .u8 0, .int .u8 0, .int .u8 0] := by kernel_rfl
@[simp] theorem pl243 : placesOf Tryd.prog 243 = some (fun i => some (i * 1, 1)) := by kernel_rfl
attribute [simp] Tryd.underlying244
@[simp] theorem ag244 : aggOf Tryd.prog 244 = some true := by kernel_rfl
@[simp] theorem sz244 : szOf Tryd.prog 244 = some 256 := by kernel_rfl
@[simp] theorem pl244 : placesOf Tryd.prog 244 = some (fun i => some (i * 1, 1)) := by kernel_rfl
attribute [simp] Tryd.underlying245
@[simp] theorem ag245 : aggOf Tryd.prog 245 = some true := by kernel_rfl
@[simp] theorem sz245 : szOf Tryd.prog 245 = some 2 := by kernel_rfl
@[simp] theorem zr245 : zeroOf Tryd.prog 245 = some [.int .u8 0, .int .u8 0] := by kernel_rfl
@[simp] theorem pl245 : placesOf Tryd.prog 245 = some (fun i => ([(0, 1), (1, 1)] : List (Nat × Nat))[i]?) := by kernel_rfl
attribute [simp] Tryd.underlying246
@[simp] theorem ag246 : aggOf Tryd.prog 246 = some true := by kernel_rfl
@[simp] theorem sz246 : szOf Tryd.prog 246 = some 2 := by kernel_rfl
@[simp] theorem zr246 : zeroOf Tryd.prog 246 = some [.int .u8 0, .int .u8 0] := by kernel_rfl
@[simp] theorem pl246 : placesOf Tryd.prog 246 = some (fun i => ([(0, 1), (1, 1)] : List (Nat × Nat))[i]?) := by kernel_rfl
attribute [simp] Tryd.underlying247
@[simp] theorem ag247 : aggOf Tryd.prog 247 = some true := by kernel_rfl
@[simp] theorem sz247 : szOf Tryd.prog 247 = some 32 := by kernel_rfl
@[simp] theorem zr247 : zeroOf Tryd.prog 247 = some [.int .u8 0, .int .u8 0, .int .u8 0, .int .u8 0, .int .u8 0, .int .u8 0, .int .u8 0, .int .u8 0, .int .u8 0, .int .u8 0, .int .u8 0, .int .u8 0, .int .u8 0, .int .u8 0, .int .u8 0, .int .u8 0, .int .u8 0, .int .u8 0, .int .u8 0, .int .u8 0, .int .u8 0, .int .u8 0, .int .u8 0, .int .u8 0, .int .u8 0, .int .u8 0, .int .u8 0, .int .u8 0, .int .u8 0, .int .u8 0, .int .u8 0, .int .u8 0] := by kernel_rfl
@[simp] theorem pl247 : placesOf Tryd.prog 247 = some (fun i => some (i * 2, 2)) := by kernel_rfl
attribute [simp] Tryd.underlying248
@[simp] theorem ag248 : aggOf Tryd.prog 248 = some false := by kernel_rfl
@[simp] theorem sz248 : szOf Tryd.prog 248 = some 1 := by kernel_rfl
@[simp] theorem zr248 : zeroOf Tryd.prog 248 = some [.nilf] := by kernel_rfl
attribute [simp] Tryd.underlying249
@[simp] theorem ag249 : aggOf Tryd.prog 249 = some false := by kernel_rfl
@[simp] theorem sz249 : szOf Tryd.prog 249 = some 1 := by kernel_rfl
@[simp] theorem zr249 : zeroOf Tryd.prog 249 = some [.nilf] := by kernel_rfl
attribute [simp] Tryd.underlying250
@[simp] theorem ag250 : aggOf Tryd.prog 250 = some true := by kernel_rfl
@[simp] theorem sz250 : szOf Tryd.prog 250 = some 4 := by kernel_rfl
@[simp] theorem zr250 : zeroOf Tryd.prog 250 = some [.nilp, .nilp, .nilp, .str ⟨#[]⟩] := by kernel_rfl
@[simp] theorem pl250 : placesOf Tryd.prog 250 = some (fun i => ([(0, 1), (1, 1), (2, 1), (3, 1)] : List (Nat × Nat))[i]?) := by kernel_rfl
attribute [simp] Tryd.underlying251
@[simp] theorem ag251 : aggOf Tryd.prog 251 = some true := by kernel_rfl
@[simp] theorem sz251 : szOf Tryd.prog 251 = some 4 := by kernel_rfl
@[simp] theorem zr251 : zeroOf Tryd.prog 251 = some [.nilp, .nilp, .nilp, .str ⟨#[]⟩] := by kernel_rfl
@[simp] theorem pl251 : placesOf Tryd.prog 251 = some (fun i => ([(0, 1), (1, 1), (2, 1), (3, 1)] : List (Nat × Nat))[i]?) := by kernel_rfl
attribute [simp] Tryd.underlying252
@[simp] theorem ag252 : aggOf Tryd.prog 252 = some true := by kernel_rfl
@[simp] theorem sz252 : szOf Tryd.prog 252 = some 0 := by kernel_rfl
@[simp] theorem zr252 : zeroOf Tryd.prog 252 = some [] := by kernel_rfl
@[simp] theorem pl252 : placesOf Tryd.prog 252 = some (fun i => some (i * 1, 1)) := by kernel_rfl
attribute [simp] Tryd.underlying253
@[simp] theorem ag253 : aggOf Tryd.prog 253 = some true := by kernel_rfl
@[simp] theorem sz253 : szOf Tryd.prog 253 = some 0 := by kernel_rfl
@[simp] theorem zr253 : zeroOf Tryd.prog 253 = some [] := by kernel_rfl
@[simp] theorem pl253 : placesOf Tryd.prog 253 = some (fun i => ([(0, 0)] : List (Nat × Nat))[i]?) := by kernel_rfl
attribute [simp] Tryd.underlying254
@[simp] theorem ag254 : aggOf Tryd.prog 254 = some true := by kernel_rfl
@[simp] theorem sz254 : szOf Tryd.prog 254 = some 0 := by kernel_rfl
@[simp] theorem zr254 : zeroOf Tryd.prog 254 = some [] := by kernel_rfl
@[simp] theorem pl254 : placesOf Tryd.prog 254 = some (fun i => ([(0, 0)] : List (Nat × Nat))[i]?) := by kernel_rfl
attribute [simp] Tryd.underlying255
@[simp] theorem ag255 : aggOf Tryd.prog 255 = some false := by kernel_rfl
@[simp] theorem sz255 : szOf Tryd.prog 255 = some 1 := by kernel_rfl
@[simp] theorem zr255 : zeroOf Tryd.prog 255 = some [.int .u8 0] := by kernel_rfl
attribute [simp] Tryd.underlying256
@[simp] theorem ag256 : aggOf Tryd.prog 256 = some false := by kernel_rfl
@[simp] theorem sz256 : szOf Tryd.prog 256 = some 1 := by kernel_rfl
@[simp] theorem zr256 : zeroOf Tryd.prog 256 = some [.int .u8 0] := by kernel_rfl
attribute [simp] Tryd.underlying257
@[simp] theorem ag257 : aggOf Tryd.prog 257 = some false := by kernel_rfl
@[simp] theorem sz257 : szOf Tryd.prog 257 = some 1 := by kernel_rfl
@[simp] theorem zr257 : zeroOf Tryd.prog 257 = some [.nilf] := by kernel_rfl
attribute [simp] Tryd.underlying258
@[simp] theorem ag258 : aggOf Tryd.prog 258 = some false := by kernel_rfl
@[simp] theorem sz258 : szOf Tryd.prog 258 = some 1 := by kernel_rfl
@[simp] theorem zr258 : zeroOf Tryd.prog 258 = some [.int .i32 0] := by kernel_rfl
attribute [simp] Tryd.underlying259
@[simp] theorem ag259 : aggOf Tryd.prog 259 = some false := by kernel_rfl
@[simp] theorem sz259 : szOf Tryd.prog 259 = some 1 := by kernel_rfl
@[simp] theorem zr259 : zeroOf Tryd.prog 259 = some [.int .i32 0] := by kernel_rfl
attribute [simp] Tryd.underlying260
@[simp] theorem ag260 : aggOf Tryd.prog 260 = some true := by kernel_rfl
@[simp] theorem sz260 : szOf Tryd.prog 260 = some 11 := by kernel_rfl
@[simp] theorem zr260 : zeroOf Tryd.prog 260 = some [.int .u64 0, .int .u64 0, .int .u32 0, .int .u8 0, .int .u8 0, .int .u8 0, .int .u8 0, .nilf, .nilp, .int .i32 0, .int .i32 0] := by kernel_rfl
@[simp] theorem pl260 : placesOf Tryd.prog 260 = some (fun i => ([(0, 1), (1, 1), (2, 1), (3, 1), (4, 1), (5, 1), (6, 1), (7, 1), (8, 1), (9, 1), (10, 1)] : List (Nat × Nat))[i]?) := by kernel_rfl
attribute [simp] Tryd.underlying261
@[simp] theorem ag261 : aggOf Tryd.prog 261 = some true := by kernel_rfl
@[simp] theorem sz261 : szOf Tryd.prog 261 = some 11 := by kernel_rfl
@[simp] theorem zr261 : zeroOf Tryd.prog 261 = some [.int .u64 0, .int .u64 0, .int .u32 0, .int .u8 0, .int .u8 0, .int .u8 0, .int .u8 0, .nilf, .nilp, .int .i32 0, .int .i32 0] := by kernel_rfl
@[simp] theorem pl261 : placesOf Tryd.prog 261 = some (fun i => ([(0, 1), (1, 1), (2, 1), (3, 1), (4, 1), (5, 1), (6, 1), (7, 1), (8, 1), (9, 1), (10, 1)] : List (Nat × Nat))[i]?) := by kernel_rfl
@[simp] theorem by0 : bytesOf Tryd.prog 0 = some 0 := by kernel_rfl
@[simp] theorem by1 : bytesOf Tryd.prog 1 = some 8 := by kernel_rfl
@[simp] theorem by2 : bytesOf Tryd.prog 2 = some 8 := by kernel_rfl
@[simp] theorem by3 : bytesOf Tryd.prog 3 = some 8 := by kernel_rfl
@[simp] theorem by4 : bytesOf Tryd.prog 4 = some 1 := by kernel_rfl
@[simp] theorem by5 : bytesOf Tryd.prog 5 = some 1 := by kernel_rfl
@[simp] theorem by6 : bytesOf Tryd.prog 6 = some 1 := by kernel_rfl
@[simp] theorem by7 : bytesOf Tryd.prog 7 = some 24 := by kernel_rfl
@[simp] theorem by8 : bytesOf Tryd.prog 8 = some 24 := by kernel_rfl
@[simp] theorem by9 : bytesOf Tryd.prog 9 = some 16 := by kernel_rfl
@[simp] theorem by10 : bytesOf Tryd.prog 10 = some 16 := by kernel_rfl
@[simp] theorem by11 : bytesOf Tryd.prog 11 = some 16 := by kernel_rfl
@[simp] theorem by12 : bytesOf Tryd.prog 12 = some 8 := by kernel_rfl
@[simp] theorem by13 : bytesOf Tryd.prog 13 = some 24 := by kernel_rfl
@[simp] theorem by14 : bytesOf Tryd.prog 14 = some 24 := by kernel_rfl
@[simp] theorem by15 : bytesOf Tryd.prog 15 = some 8 := by kernel_rfl
@[simp] theorem by16 : bytesOf Tryd.prog 16 = some 8 := by kernel_rfl
@[simp] theorem by17 : bytesOf Tryd.prog 17 = some 8 := by kernel_rfl
@[simp] theorem by18 : bytesOf Tryd.prog 18 = some 8 := by kernel_rfl
@[simp] theorem by19 : bytesOf Tryd.prog 19 = some 8 := by kernel_rfl
@[simp] theorem by20 : bytesOf Tryd.prog 20 = some 16 := by kernel_rfl
@[simp] theorem by21 : bytesOf Tryd.prog 21 = some 4 := by kernel_rfl
@[simp] theorem by22 : bytesOf Tryd.prog 22 = some 24 := by kernel_rfl
@[simp] theorem by23 : bytesOf Tryd.prog 23 = some 8 := by kernel_rfl
@[simp] theorem by24 : bytesOf Tryd.prog 24 = some 0 := by kernel_rfl
@[simp] theorem by25 : bytesOf Tryd.prog 25 = some 8 := by kernel_rfl
@[simp] theorem by26 : bytesOf Tryd.prog 26 = some 8 := by kernel_rfl
@[simp] theorem by27 : bytesOf Tryd.prog 27 = some 8 := by kernel_rfl
@[simp] theorem by28 : bytesOf Tryd.prog 28 = some 8 := by kernel_rfl
@[simp] theorem by29 : bytesOf Tryd.prog 29 = some 0 := by kernel_rfl
@[simp] theorem by30 : bytesOf Tryd.prog 30 = some 8 := by kernel_rfl
@[simp] theorem by31 : bytesOf Tryd.prog 31 = some 8 := by kernel_rfl
@[simp] theorem by32 : bytesOf Tryd.prog 32 = some 24 := by kernel_rfl
@[simp] theorem by33 : bytesOf Tryd.prog 33 = some 8 := by kernel_rfl
@[simp] theorem by34 : bytesOf Tryd.prog 34 = some 24 := by kernel_rfl
@[simp] theorem by35 : bytesOf Tryd.prog 35 = some 8 := by kernel_rfl
@[simp] theorem by36 : bytesOf Tryd.prog 36 = some 8 := by kernel_rfl
@[simp] theorem by37 : bytesOf Tryd.prog 37 = some 8 := by kernel_rfl
@[simp] theorem by38 : bytesOf Tryd.prog 38 = some 0 := by kernel_rfl
@[simp] theorem by39 : bytesOf Tryd.prog 39 = some 8 := by kernel_rfl
@[simp] theorem by40 : bytesOf Tryd.prog 40 = some 8 := by kernel_rfl
@[simp] theorem by41 : bytesOf Tryd.prog 41 = some 24 := by kernel_rfl
@[simp] theorem by42 : bytesOf Tryd.prog 42 = some 8 := by kernel_rfl
@[simp] theorem by43 : bytesOf Tryd.prog 43 = some 0 := by kernel_rfl
@[simp] theorem by44 : bytesOf Tryd.prog 44 = some 8 := by kernel_rfl
@[simp] theorem by45 : bytesOf Tryd.prog 45 = some 8 := by kernel_rfl
@[simp] theorem by46 : bytesOf Tryd.prog 46 = some 24 := by kernel_rfl
@[simp] theorem by47 : bytesOf Tryd.prog 47 = some 24 := by kernel_rfl
@[simp] theorem by48 : bytesOf Tryd.prog 48 = some 48 := by kernel_rfl
@[simp] theorem by49 : bytesOf Tryd.prog 49 = some 48 := by kernel_rfl
@[simp] theorem by50 : bytesOf Tryd.prog 50 = some 24 := by kernel_rfl
@[simp] theorem by51 : bytesOf Tryd.prog 51 = some 4 := by kernel_rfl
@[simp] theorem by52 : bytesOf Tryd.prog 52 = some 12 := by kernel_rfl
@[simp] theorem by53 : bytesOf Tryd.prog 53 = some 12 := by kernel_rfl
@[simp] theorem by54 : bytesOf Tryd.prog 54 = some 120 := by kernel_rfl
@[simp] theorem by55 : bytesOf Tryd.prog 55 = some 120 := by kernel_rfl
@[simp] theorem by56 : bytesOf Tryd.prog 56 = some 8 := by kernel_rfl
@[simp] theorem by57 : bytesOf Tryd.prog 57 = some 8 := by kernel_rfl
@[simp] theorem by58 : bytesOf Tryd.prog 58 = some 24 := by kernel_rfl
@[simp] theorem by59 : bytesOf Tryd.prog 59 = some 48 := by kernel_rfl
@[simp] theorem by60 : bytesOf Tryd.prog 60 = some 48 := by kernel_rfl
@[simp] theorem by61 : bytesOf Tryd.prog 61 = some 24 := by kernel_rfl
@[simp] theorem by62 : bytesOf Tryd.prog 62 = some 12 := by kernel_rfl
@[simp] theorem by63 : bytesOf Tryd.prog 63 = some 120 := by kernel_rfl
@[simp] theorem by64 : bytesOf Tryd.prog 64 = some 120 := by kernel_rfl
@[simp] theorem by65 : bytesOf Tryd.prog 65 = some 8 := by kernel_rfl
@[simp] theorem by66 : bytesOf Tryd.prog 66 = some 8 := by kernel_rfl
@[simp] theorem by67 : bytesOf Tryd.prog 67 = some 8 := by kernel_rfl
@[simp] theorem by68 : bytesOf Tryd.prog 68 = some 8 := by kernel_rfl
@[simp] theorem by69 : bytesOf Tryd.prog 69 = some 144 := by kernel_rfl
@[simp] theorem by70 : bytesOf Tryd.prog 70 = some 144 := by kernel_rfl
@[simp] theorem by71 : bytesOf Tryd.prog 71 = some 8 := by kernel_rfl
@[simp] theorem by72 : bytesOf Tryd.prog 72 = some 8 := by kernel_rfl
@[simp] theorem by73 : bytesOf Tryd.prog 73 = some 8 := by kernel_rfl
@[simp] theorem by74 : bytesOf Tryd.prog 74 = some 32 := by kernel_rfl
@[simp] theorem by75 : bytesOf Tryd.prog 75 = some 32 := by kernel_rfl
@[simp] theorem by76 : bytesOf Tryd.prog 76 = some 8 := by kernel_rfl
@[simp] theorem by77 : bytesOf Tryd.prog 77 = some 0 := by kernel_rfl
@[simp] theorem by78 : bytesOf Tryd.prog 78 = some 8 := by kernel_rfl
@[simp] theorem by79 : bytesOf Tryd.prog 79 = some 16 := by kernel_rfl
@[simp] theorem by80 : bytesOf Tryd.prog 80 = some 16 := by kernel_rfl
@[simp] theorem by81 : bytesOf Tryd.prog 81 = some 0 := by kernel_rfl
@[simp] theorem by82 : bytesOf Tryd.prog 82 = some 8 := by kernel_rfl
@[simp] theorem by83 : bytesOf Tryd.prog 83 = some 8 := by kernel_rfl
@[simp] theorem by84 : bytesOf Tryd.prog 84 = some 8 := by kernel_rfl
@[simp] theorem by85 : bytesOf Tryd.prog 85 = some 8 := by kernel_rfl
@[simp] theorem by86 : bytesOf Tryd.prog 86 = some 0 := by kernel_rfl
@[simp] theorem by87 : bytesOf Tryd.prog 87 = some 8 := by kernel_rfl
@[simp] theorem by88 : bytesOf Tryd.prog 88 = some 8 := by kernel_rfl
@[simp] theorem by89 : bytesOf Tryd.prog 89 = some 0 := by kernel_rfl
@[simp] theorem by90 : bytesOf Tryd.prog 90 = some 8 := by kernel_rfl
@[simp] theorem by91 : bytesOf Tryd.prog 91 = some 8 := by kernel_rfl
@[simp] theorem by92 : bytesOf Tryd.prog 92 = some 8 := by kernel_rfl
@[simp] theorem by93 : bytesOf Tryd.prog 93 = some 8 := by kernel_rfl
@[simp] theorem by94 : bytesOf Tryd.prog 94 = some 8 := by kernel_rfl
@[simp] theorem by95 : bytesOf Tryd.prog 95 = some 8 := by kernel_rfl
@[simp] theorem by96 : bytesOf Tryd.prog 96 = some 8 := by kernel_rfl
@[simp] theorem by97 : bytesOf Tryd.prog 97 = some 8 := by kernel_rfl
@[simp] theorem by98 : bytesOf Tryd.prog 98 = some 8 := by kernel_rfl
@[simp] theorem by99 : bytesOf Tryd.prog 99 = some 8 := by kernel_rfl
@[simp] theorem by100 : bytesOf Tryd.prog 100 = some 8 := by kernel_rfl
@[simp] theorem by101 : bytesOf Tryd.prog 101 = some 8 := by kernel_rfl
@[simp] theorem by102 : bytesOf Tryd.prog 102 = some 8 := by kernel_rfl
@[simp] theorem by103 : bytesOf Tryd.prog 103 = some 8 := by kernel_rfl
@[simp] theorem by104 : bytesOf Tryd.prog 104 = some 8 := by kernel_rfl
@[simp] theorem by105 : bytesOf Tryd.prog 105 = some 8 := by kernel_rfl
@[simp] theorem by106 : bytesOf Tryd.prog 106 = some 8 := by kernel_rfl
@[simp] theorem by107 : bytesOf Tryd.prog 107 = some 8 := by kernel_rfl
@[simp] theorem by108 : bytesOf Tryd.prog 108 = some 8 := by kernel_rfl
@[simp] theorem by109 : bytesOf Tryd.prog 109 = some 8 := by kernel_rfl
@[simp] theorem by110 : bytesOf Tryd.prog 110 = some 8 := by kernel_rfl
@[simp] theorem by111 : bytesOf Tryd.prog 111 = some 8 := by kernel_rfl
@[simp] theorem by112 : bytesOf Tryd.prog 112 = some 8 := by kernel_rfl
@[simp] theorem by113 : bytesOf Tryd.prog 113 = some 8 := by kernel_rfl
@[simp] theorem by114 : bytesOf Tryd.prog 114 = some 8 := by kernel_rfl
@[simp] theorem by115 : bytesOf Tryd.prog 115 = some 8 := by kernel_rfl
@[simp] theorem by116 : bytesOf Tryd.prog 116 = some 24 := by kernel_rfl
@[simp] theorem by117 : bytesOf Tryd.prog 117 = some 24 := by kernel_rfl
@[simp] theorem by118 : bytesOf Tryd.prog 118 = some 8 := by kernel_rfl
@[simp] theorem by119 : bytesOf Tryd.prog 119 = some 8 := by kernel_rfl
@[simp] theorem by120 : bytesOf Tryd.prog 120 = some 8 := by kernel_rfl
@[simp] theorem by121 : bytesOf Tryd.prog 121 = some 8 := by kernel_rfl
@[simp] theorem by122 : bytesOf Tryd.prog 122 = some 8 := by kernel_rfl
@[simp] theorem by123 : bytesOf Tryd.prog 123 = some 8 := by kernel_rfl
@[simp] theorem by124 : bytesOf Tryd.prog 124 = some 8 := by kernel_rfl
@[simp] theorem by125 : bytesOf Tryd.prog 125 = some 8 := by kernel_rfl
@[simp] theorem by126 : bytesOf Tryd.prog 126 = some 8 := by kernel_rfl
@[simp] theorem by127 : bytesOf Tryd.prog 127 = some 8 := by kernel_rfl
@[simp] theorem by128 : bytesOf Tryd.prog 128 = some 8 := by kernel_rfl
@[simp] theorem by129 : bytesOf Tryd.prog 129 = some 8 := by kernel_rfl
@[simp] theorem by130 : bytesOf Tryd.prog 130 = some 8 := by kernel_rfl
@[simp] theorem by131 : bytesOf Tryd.prog 131 = some 8 := by kernel_rfl
@[simp] theorem by132 : bytesOf Tryd.prog 132 = some 8 := by kernel_rfl
@[simp] theorem by133 : bytesOf Tryd.prog 133 = some 8 := by kernel_rfl
@[simp] theorem by134 : bytesOf Tryd.prog 134 = some 8 := by kernel_rfl
@[simp] theorem by135 : bytesOf Tryd.prog 135 = some 0 := by kernel_rfl
@[simp] theorem by136 : bytesOf Tryd.prog 136 = some 8 := by kernel_rfl
@[simp] theorem by137 : bytesOf Tryd.prog 137 = some 8 := by kernel_rfl
@[simp] theorem by138 : bytesOf Tryd.prog 138 = some 40 := by kernel_rfl
@[simp] theorem by139 : bytesOf Tryd.prog 139 = some 40 := by kernel_rfl
@[simp] theorem by140 : bytesOf Tryd.prog 140 = some 8 := by kernel_rfl
@[simp] theorem by141 : bytesOf Tryd.prog 141 = some 8 := by kernel_rfl
@[simp] theorem by142 : bytesOf Tryd.prog 142 = some 8 := by kernel_rfl
@[simp] theorem by143 : bytesOf Tryd.prog 143 = some 8 := by kernel_rfl
@[simp] theorem by144 : bytesOf Tryd.prog 144 = some 8 := by kernel_rfl
@[simp] theorem by145 : bytesOf Tryd.prog 145 = some 0 := by kernel_rfl
@[simp] theorem by146 : bytesOf Tryd.prog 146 = some 8 := by kernel_rfl
@[simp] theorem by147 : bytesOf Tryd.prog 147 = some 8 := by kernel_rfl
@[simp] theorem by148 : bytesOf Tryd.prog 148 = some 4 := by kernel_rfl
@[simp] theorem by149 : bytesOf Tryd.prog 149 = some 8 := by kernel_rfl
@[simp] theorem by150 : bytesOf Tryd.prog 150 = some 8 := by kernel_rfl
@[simp] theorem by151 : bytesOf Tryd.prog 151 = some 8 := by kernel_rfl
@[simp] theorem by152 : bytesOf Tryd.prog 152 = some 8 := by kernel_rfl
@[simp] theorem by153 : bytesOf Tryd.prog 153 = some 8 := by kernel_rfl
@[simp] theorem by154 : bytesOf Tryd.prog 154 = some 8 := by kernel_rfl
@[simp] theorem by155 : bytesOf Tryd.prog 155 = some 8 := by kernel_rfl
@[simp] theorem by156 : bytesOf Tryd.prog 156 = some 8 := by kernel_rfl
@[simp] theorem by157 : bytesOf Tryd.prog 157 = some 8 := by kernel_rfl
@[simp] theorem by158 : bytesOf Tryd.prog 158 = some 8 := by kernel_rfl
@[simp] theorem by159 : bytesOf Tryd.prog 159 = some 8 := by kernel_rfl
@[simp] theorem by160 : bytesOf Tryd.prog 160 = some 24 := by kernel_rfl
@[simp] theorem by161 : bytesOf Tryd.prog 161 = some 8 := by kernel_rfl
@[simp] theorem by162 : bytesOf Tryd.prog 162 = some 8 := by kernel_rfl
@[simp] theorem by163 : bytesOf Tryd.prog 163 = some 8 := by kernel_rfl
@[simp] theorem by164 : bytesOf Tryd.prog 164 = some 8 := by kernel_rfl
@[simp] theorem by165 : bytesOf Tryd.prog 165 = some 8 := by kernel_rfl
@[simp] theorem by166 : bytesOf Tryd.prog 166 = some 8 := by kernel_rfl
@[simp] theorem by167 : bytesOf Tryd.prog 167 = some 8 := by kernel_rfl
@[simp] theorem by168 : bytesOf Tryd.prog 168 = some 8 := by kernel_rfl
@[simp] theorem by169 : bytesOf Tryd.prog 169 = some 8 := by kernel_rfl
@[simp] theorem by170 : bytesOf Tryd.prog 170 = some 8 := by kernel_rfl
@[simp] theorem by171 : bytesOf Tryd.prog 171 = some 8 := by kernel_rfl
@[simp] theorem by172 : bytesOf Tryd.prog 172 = some 8 := by kernel_rfl
@[simp] theorem by173 : bytesOf Tryd.prog 173 = some 8 := by kernel_rfl
@[simp] theorem by174 : bytesOf Tryd.prog 174 = some 8 := by kernel_rfl
@[simp] theorem by175 : bytesOf Tryd.prog 175 = some 8 := by kernel_rfl
@[simp] theorem by176 : bytesOf Tryd.prog 176 = some 8 := by kernel_rfl
@[simp] theorem by177 : bytesOf Tryd.prog 177 = some 8 := by kernel_rfl
@[simp] theorem by178 : bytesOf Tryd.prog 178 = some 0 := by kernel_rfl
@[simp] theorem by179 : bytesOf Tryd.prog 179 = some 8 := by kernel_rfl
@[simp] theorem by180 : bytesOf Tryd.prog 180 = some 8 := by kernel_rfl
@[simp] theorem by181 : bytesOf Tryd.prog 181 = some 8 := by kernel_rfl
@[simp] theorem by182 : bytesOf Tryd.prog 182 = some 0 := by kernel_rfl
@[simp] theorem by183 : bytesOf Tryd.prog 183 = some 8 := by kernel_rfl
@[simp] theorem by184 : bytesOf Tryd.prog 184 = some 8 := by kernel_rfl
@[simp] theorem by185 : bytesOf Tryd.prog 185 = some 8 := by kernel_rfl
@[simp] theorem by186 : bytesOf Tryd.prog 186 = some 8 := by kernel_rfl
@[simp] theorem by187 : bytesOf Tryd.prog 187 = some 8 := by kernel_rfl
@[simp] theorem by188 : bytesOf Tryd.prog 188 = some 8 := by kernel_rfl
@[simp] theorem by189 : bytesOf Tryd.prog 189 = some 8 := by kernel_rfl
@[simp] theorem by190 : bytesOf Tryd.prog 190 = some 8 := by kernel_rfl
@[simp] theorem by191 : bytesOf Tryd.prog 191 = some 8 := by kernel_rfl
@[simp] theorem by192 : bytesOf Tryd.prog 192 = some 24 := by kernel_rfl
@[simp] theorem by193 : bytesOf Tryd.prog 193 = some 8 := by kernel_rfl
@[simp] theorem by194 : bytesOf Tryd.prog 194 = some 8 := by kernel_rfl
@[simp] theorem by195 : bytesOf Tryd.prog 195 = some 0 := by kernel_rfl
@[simp] theorem by196 : bytesOf Tryd.prog 196 = some 8 := by kernel_rfl
@[simp] theorem by197 : bytesOf Tryd.prog 197 = some 0 := by kernel_rfl
@[simp] theorem by198 : bytesOf Tryd.prog 198 = some 8 := by kernel_rfl
@[simp] theorem by199 : bytesOf Tryd.prog 199 = some 0 := by kernel_rfl
@[simp] theorem by200 : bytesOf Tryd.prog 200 = some 8 := by kernel_rfl
@[simp] theorem by201 : bytesOf Tryd.prog 201 = some 8 := by kernel_rfl
@[simp] theorem by202 : bytesOf Tryd.prog 202 = some 8 := by kernel_rfl
@[simp] theorem by203 : bytesOf Tryd.prog 203 = some 8 := by kernel_rfl
@[simp] theorem by204 : bytesOf Tryd.prog 204 = some 8 := by kernel_rfl
@[simp] theorem by205 : bytesOf Tryd.prog 205 = some 8 := by kernel_rfl
@[simp] theorem by206 : bytesOf Tryd.prog 206 = some 8 := by kernel_rfl
@[simp] theorem by207 : bytesOf Tryd.prog 207 = some 8 := by kernel_rfl
@[simp] theorem by208 : bytesOf Tryd.prog 208 = some 8 := by kernel_rfl
@[simp] theorem by209 : bytesOf Tryd.prog 209 = some 8 := by kernel_rfl
@[simp] theorem by210 : bytesOf Tryd.prog 210 = some 0 := by kernel_rfl
@[simp] theorem by211 : bytesOf Tryd.prog 211 = some 8 := by kernel_rfl
@[simp] theorem by212 : bytesOf Tryd.prog 212 = some 8 := by kernel_rfl
@[simp] theorem by213 : bytesOf Tryd.prog 213 = some 8 := by kernel_rfl
@[simp] theorem by214 : bytesOf Tryd.prog 214 = some 8 := by kernel_rfl
@[simp] theorem by215 : bytesOf Tryd.prog 215 = some 8 := by kernel_rfl
@[simp] theorem by216 : bytesOf Tryd.prog 216 = some 8 := by kernel_rfl
@[simp] theorem by217 : bytesOf Tryd.prog 217 = some 160 := by kernel_rfl
@[simp] theorem by218 : bytesOf Tryd.prog 218 = some 65 := by kernel_rfl
@[simp] theorem by219 : bytesOf Tryd.prog 219 = some 8 := by kernel_rfl
@[simp] theorem by220 : bytesOf Tryd.prog 220 = some 8 := by kernel_rfl
@[simp] theorem by221 : bytesOf Tryd.prog 221 = some 8 := by kernel_rfl
@[simp] theorem by222 : bytesOf Tryd.prog 222 = some 0 := by kernel_rfl
@[simp] theorem by223 : bytesOf Tryd.prog 223 = some 8 := by kernel_rfl
@[simp] theorem by224 : bytesOf Tryd.prog 224 = some 8 := by kernel_rfl
@[simp] theorem by225 : bytesOf Tryd.prog 225 = some 48 := by kernel_rfl
@[simp] theorem by226 : bytesOf Tryd.prog 226 = some 48 := by kernel_rfl
@[simp] theorem by227 : bytesOf Tryd.prog 227 = some 8 := by kernel_rfl
@[simp] theorem by228 : bytesOf Tryd.prog 228 = some 8 := by kernel_rfl
@[simp] theorem by229 : bytesOf Tryd.prog 229 = some 8 := by kernel_rfl
@[simp] theorem by230 : bytesOf Tryd.prog 230 = some 8 := by kernel_rfl
@[simp] theorem by231 : bytesOf Tryd.prog 231 = some 8 := by kernel_rfl
@[simp] theorem by232 : bytesOf Tryd.prog 232 = some 8 := by kernel_rfl
@[simp] theorem by233 : bytesOf Tryd.prog 233 = some 8 := by kernel_rfl
@[simp] theorem by234 : bytesOf Tryd.prog 234 = some 8 := by kernel_rfl
@[simp] theorem by235 : bytesOf Tryd.prog 235 = some 8 := by kernel_rfl
@[simp] theorem by236 : bytesOf Tryd.prog 236 = some 16 := by kernel_rfl
@[simp] theorem by237 : bytesOf Tryd.prog 237 = some 16 := by kernel_rfl
@[simp] theorem by238 : bytesOf Tryd.prog 238 = some 8 := by kernel_rfl
@[simp] theorem by239 : bytesOf Tryd.prog 239 = some 8 := by kernel_rfl
@[simp] theorem by240 : bytesOf Tryd.prog 240 = some 24 := by kernel_rfl
@[simp] theorem by241 : bytesOf Tryd.prog 241 = some 8 := by kernel_rfl
@[simp] theorem by242 : bytesOf Tryd.prog 242 = some 32 := by kernel_rfl
@[simp] theorem by243 : bytesOf Tryd.prog 243 = some 64 := by kernel_rfl
@[simp] theorem by244 : bytesOf Tryd.prog 244 = some 256 := by kernel_rfl
@[simp] theorem by245 : bytesOf Tryd.prog 245 = some 2 := by kernel_rfl
@[simp] theorem by246 : bytesOf Tryd.prog 246 = some 2 := by kernel_rfl
@[simp] theorem by247 : bytesOf Tryd.prog 247 = some 32 := by kernel_rfl
@[simp] theorem by248 : bytesOf Tryd.prog 248 = some 8 := by kernel_rfl
@[simp] theorem by249 : bytesOf Tryd.prog 249 = some 8 := by kernel_rfl
@[simp] theorem by250 : bytesOf Tryd.prog 250 = some 40 := by kernel_rfl
@[simp] theorem by251 : bytesOf Tryd.prog 251 = some 40 := by kernel_rfl
@[simp] theorem by252 : bytesOf Tryd.prog 252 = some 0 := by kernel_rfl
@[simp] theorem by253 : bytesOf Tryd.prog 253 = some 0 := by kernel_rfl
@[simp] theorem by254 : bytesOf Tryd.prog 254 = some 0 := by kernel_rfl
@[simp] theorem by255 : bytesOf Tryd.prog 255 = some 1 := by kernel_rfl
@[simp] theorem by256 : bytesOf Tryd.prog 256 = some 1 := by kernel_rfl
@[simp] theorem by257 : bytesOf Tryd.prog 257 = some 8 := by kernel_rfl
@[simp] theorem by258 : bytesOf Tryd.prog 258 = some 4 := by kernel_rfl
@[simp] theorem by259 : bytesOf Tryd.prog 259 = some 4 := by kernel_rfl
@[simp] theorem by260 : bytesOf Tryd.prog 260 = some 48 := by kernel_rfl
@[simp] theorem by261 : bytesOf Tryd.prog 261 = some 48 := by kernel_rfl
theorem dr_ok : DrawOk Tryd.prog okN (drawK Tryd.prog) := drawK_ok (by kernel_rfl)
end Go.Proofs.YthgfopohlhejdaaDoor
