/- The types of the seat, as rules for simp.
Conditions: none. -/
import Derived.Test.YtfngkhkghjgmkaaRows
import Derived.Test.YtfngkhkghjgmkaaRul
namespace Go.Proofs.Ytfngkhkghjgmkaa
set_option linter.all false
open Go Go.Awp

attribute [simp] Try.underlying0
@[simp] theorem ag0 : aggOf Try.prog 0 = some false := by kernel_rfl
@[simp] theorem sz0 : szOf Try.prog 0 = some 1 := by kernel_rfl
attribute [simp] Try.underlying1
@[simp] theorem ag1 : aggOf Try.prog 1 = some false := by kernel_rfl
@[simp] theorem sz1 : szOf Try.prog 1 = some 1 := by kernel_rfl
@[simp] theorem zr1 : zeroOf Try.prog 1 = some [.nilf] := by kernel_rfl
attribute [simp] Try.underlying2
@[simp] theorem ag2 : aggOf Try.prog 2 = some false := by kernel_rfl
@[simp] theorem sz2 : szOf Try.prog 2 = some 1 := by kernel_rfl
@[simp] theorem zr2 : zeroOf Try.prog 2 = some [.int .i64 0] := by kernel_rfl
attribute [simp] Try.underlying3
@[simp] theorem ag3 : aggOf Try.prog 3 = some false := by kernel_rfl
@[simp] theorem sz3 : szOf Try.prog 3 = some 1 := by kernel_rfl
@[simp] theorem zr3 : zeroOf Try.prog 3 = some [.int .i64 0] := by kernel_rfl
attribute [simp] Try.underlying4
@[simp] theorem ag4 : aggOf Try.prog 4 = some false := by kernel_rfl
@[simp] theorem sz4 : szOf Try.prog 4 = some 1 := by kernel_rfl
@[simp] theorem zr4 : zeroOf Try.prog 4 = some [.bool false] := by kernel_rfl
attribute [simp] Try.underlying5
@[simp] theorem ag5 : aggOf Try.prog 5 = some false := by kernel_rfl
@[simp] theorem sz5 : szOf Try.prog 5 = some 1 := by kernel_rfl
@[simp] theorem zr5 : zeroOf Try.prog 5 = some [.int .u8 0] := by kernel_rfl
attribute [simp] Try.underlying6
@[simp] theorem ag6 : aggOf Try.prog 6 = some false := by kernel_rfl
@[simp] theorem sz6 : szOf Try.prog 6 = some 1 := by kernel_rfl
@[simp] theorem zr6 : zeroOf Try.prog 6 = some [.int .u8 0] := by kernel_rfl
attribute [simp] Try.underlying7
@[simp] theorem ag7 : aggOf Try.prog 7 = some true := by kernel_rfl
@[simp] theorem sz7 : szOf Try.prog 7 = some 4 := by kernel_rfl
@[simp] theorem zr7 : zeroOf Try.prog 7 = some [.int .i64 0, .int .i64 0, .bool false, .int .u8 0] := by kernel_rfl
@[simp] theorem pl7 : placesOf Try.prog 7 = some (fun i => ([(0, 1), (1, 1), (2, 1), (3, 1)] : List (Nat × Nat))[i]?) := by kernel_rfl
attribute [simp] Try.underlying8
@[simp] theorem ag8 : aggOf Try.prog 8 = some true := by kernel_rfl
@[simp] theorem sz8 : szOf Try.prog 8 = some 4 := by kernel_rfl
@[simp] theorem zr8 : zeroOf Try.prog 8 = some [.int .i64 0, .int .i64 0, .bool false, .int .u8 0] := by kernel_rfl
@[simp] theorem pl8 : placesOf Try.prog 8 = some (fun i => ([(0, 1), (1, 1), (2, 1), (3, 1)] : List (Nat × Nat))[i]?) := by kernel_rfl
attribute [simp] Try.underlying9
@[simp] theorem ag9 : aggOf Try.prog 9 = some false := by kernel_rfl
@[simp] theorem sz9 : szOf Try.prog 9 = some 1 := by kernel_rfl
@[simp] theorem zr9 : zeroOf Try.prog 9 = some [.str ⟨#[]⟩] := by kernel_rfl
attribute [simp] Try.underlying10
@[simp] theorem ag10 : aggOf Try.prog 10 = some false := by kernel_rfl
@[simp] theorem sz10 : szOf Try.prog 10 = some 1 := by kernel_rfl
@[simp] theorem zr10 : zeroOf Try.prog 10 = some [.str ⟨#[]⟩] := by kernel_rfl
attribute [simp] Try.underlying11
@[simp] theorem ag11 : aggOf Try.prog 11 = some false := by kernel_rfl
@[simp] theorem sz11 : szOf Try.prog 11 = some 1 := by kernel_rfl
@[simp] theorem zr11 : zeroOf Try.prog 11 = some [.str ⟨#[]⟩] := by kernel_rfl
attribute [simp] Try.underlying12
@[simp] theorem ag12 : aggOf Try.prog 12 = some false := by kernel_rfl
@[simp] theorem sz12 : szOf Try.prog 12 = some 1 := by kernel_rfl
@[simp] theorem zr12 : zeroOf Try.prog 12 = some [.int .u64 0] := by kernel_rfl
attribute [simp] Try.underlying13
@[simp] theorem ag13 : aggOf Try.prog 13 = some true := by kernel_rfl
@[simp] theorem sz13 : szOf Try.prog 13 = some 2 := by kernel_rfl
@[simp] theorem zr13 : zeroOf Try.prog 13 = some [.str ⟨#[]⟩, .int .u64 0] := by kernel_rfl
@[simp] theorem pl13 : placesOf Try.prog 13 = some (fun i => ([(0, 1), (1, 1)] : List (Nat × Nat))[i]?) := by kernel_rfl
attribute [simp] Try.underlying14
@[simp] theorem ag14 : aggOf Try.prog 14 = some true := by kernel_rfl
@[simp] theorem sz14 : szOf Try.prog 14 = some 2 := by kernel_rfl
@[simp] theorem zr14 : zeroOf Try.prog 14 = some [.str ⟨#[]⟩, .int .u64 0] := by kernel_rfl
@[simp] theorem pl14 : placesOf Try.prog 14 = some (fun i => ([(0, 1), (1, 1)] : List (Nat × Nat))[i]?) := by kernel_rfl
attribute [simp] Try.underlying15
@[simp] theorem ag15 : aggOf Try.prog 15 = some false := by kernel_rfl
@[simp] theorem sz15 : szOf Try.prog 15 = some 1 := by kernel_rfl
@[simp] theorem zr15 : zeroOf Try.prog 15 = some [.nilp] := by kernel_rfl
attribute [simp] Try.underlying16
@[simp] theorem ag16 : aggOf Try.prog 16 = some false := by kernel_rfl
@[simp] theorem sz16 : szOf Try.prog 16 = some 1 := by kernel_rfl
@[simp] theorem zr16 : zeroOf Try.prog 16 = some [.nilp] := by kernel_rfl
attribute [simp] Try.underlying17
@[simp] theorem ag17 : aggOf Try.prog 17 = some false := by kernel_rfl
@[simp] theorem sz17 : szOf Try.prog 17 = some 1 := by kernel_rfl
@[simp] theorem zr17 : zeroOf Try.prog 17 = some [.nilp] := by kernel_rfl
attribute [simp] Try.underlying18
@[simp] theorem ag18 : aggOf Try.prog 18 = some true := by kernel_rfl
@[simp] theorem sz18 : szOf Try.prog 18 = some 1 := by kernel_rfl
@[simp] theorem zr18 : zeroOf Try.prog 18 = some [.nilp] := by kernel_rfl
@[simp] theorem pl18 : placesOf Try.prog 18 = some (fun i => ([(0, 1)] : List (Nat × Nat))[i]?) := by kernel_rfl
attribute [simp] Try.underlying19
@[simp] theorem ag19 : aggOf Try.prog 19 = some true := by kernel_rfl
@[simp] theorem sz19 : szOf Try.prog 19 = some 1 := by kernel_rfl
@[simp] theorem zr19 : zeroOf Try.prog 19 = some [.nilp] := by kernel_rfl
@[simp] theorem pl19 : placesOf Try.prog 19 = some (fun i => ([(0, 1)] : List (Nat × Nat))[i]?) := by kernel_rfl
attribute [simp] Try.underlying20
@[simp] theorem ag20 : aggOf Try.prog 20 = some false := by kernel_rfl
@[simp] theorem sz20 : szOf Try.prog 20 = some 1 := by kernel_rfl
@[simp] theorem zr20 : zeroOf Try.prog 20 = some [.ifc true] := by kernel_rfl
attribute [simp] Try.underlying21
@[simp] theorem ag21 : aggOf Try.prog 21 = some false := by kernel_rfl
@[simp] theorem sz21 : szOf Try.prog 21 = some 1 := by kernel_rfl
@[simp] theorem zr21 : zeroOf Try.prog 21 = some [.int .i32 0] := by kernel_rfl
attribute [simp] Try.underlying22
@[simp] theorem ag22 : aggOf Try.prog 22 = some false := by kernel_rfl
@[simp] theorem sz22 : szOf Try.prog 22 = some 1 := by kernel_rfl
@[simp] theorem zr22 : zeroOf Try.prog 22 = some [.nils] := by kernel_rfl
attribute [simp] Try.underlying23
@[simp] theorem ag23 : aggOf Try.prog 23 = some false := by kernel_rfl
@[simp] theorem sz23 : szOf Try.prog 23 = some 1 := by kernel_rfl
@[simp] theorem zr23 : zeroOf Try.prog 23 = some [.nilf] := by kernel_rfl
attribute [simp] Try.underlying24
@[simp] theorem ag24 : aggOf Try.prog 24 = some false := by kernel_rfl
@[simp] theorem sz24 : szOf Try.prog 24 = some 1 := by kernel_rfl
@[simp] theorem zr24 : zeroOf Try.prog 24 = some [.flt .f32 0] := by kernel_rfl
attribute [simp] Try.underlying25
@[simp] theorem ag25 : aggOf Try.prog 25 = some false := by kernel_rfl
@[simp] theorem sz25 : szOf Try.prog 25 = some 1 := by kernel_rfl
@[simp] theorem zr25 : zeroOf Try.prog 25 = some [.nilf] := by kernel_rfl
attribute [simp] Try.underlying26
@[simp] theorem ag26 : aggOf Try.prog 26 = some false := by kernel_rfl
@[simp] theorem sz26 : szOf Try.prog 26 = some 1 := by kernel_rfl
@[simp] theorem zr26 : zeroOf Try.prog 26 = some [.nilf] := by kernel_rfl
attribute [simp] Try.underlying27
@[simp] theorem ag27 : aggOf Try.prog 27 = some false := by kernel_rfl
@[simp] theorem sz27 : szOf Try.prog 27 = some 1 := by kernel_rfl
@[simp] theorem zr27 : zeroOf Try.prog 27 = some [.nilf] := by kernel_rfl
attribute [simp] Try.underlying28
@[simp] theorem ag28 : aggOf Try.prog 28 = some false := by kernel_rfl
@[simp] theorem sz28 : szOf Try.prog 28 = some 1 := by kernel_rfl
@[simp] theorem zr28 : zeroOf Try.prog 28 = some [.flt .f64 0] := by kernel_rfl
attribute [simp] Try.underlying29
@[simp] theorem ag29 : aggOf Try.prog 29 = some false := by kernel_rfl
@[simp] theorem sz29 : szOf Try.prog 29 = some 1 := by kernel_rfl
@[simp] theorem zr29 : zeroOf Try.prog 29 = some [.nilf] := by kernel_rfl
attribute [simp] Try.underlying30
@[simp] theorem ag30 : aggOf Try.prog 30 = some false := by kernel_rfl
@[simp] theorem sz30 : szOf Try.prog 30 = some 1 := by kernel_rfl
@[simp] theorem zr30 : zeroOf Try.prog 30 = some [.nilf] := by kernel_rfl
attribute [simp] Try.underlying31
@[simp] theorem ag31 : aggOf Try.prog 31 = some false := by kernel_rfl
@[simp] theorem sz31 : szOf Try.prog 31 = some 1 := by kernel_rfl
@[simp] theorem zr31 : zeroOf Try.prog 31 = some [.nilf] := by kernel_rfl
attribute [simp] Try.underlying32
@[simp] theorem ag32 : aggOf Try.prog 32 = some false := by kernel_rfl
@[simp] theorem sz32 : szOf Try.prog 32 = some 1 := by kernel_rfl
attribute [simp] Try.underlying33
@[simp] theorem ag33 : aggOf Try.prog 33 = some false := by kernel_rfl
@[simp] theorem sz33 : szOf Try.prog 33 = some 1 := by kernel_rfl
@[simp] theorem zr33 : zeroOf Try.prog 33 = some [.nilf] := by kernel_rfl
attribute [simp] Try.underlying34
@[simp] theorem ag34 : aggOf Try.prog 34 = some false := by kernel_rfl
@[simp] theorem sz34 : szOf Try.prog 34 = some 1 := by kernel_rfl
@[simp] theorem zr34 : zeroOf Try.prog 34 = some [.nilf] := by kernel_rfl
attribute [simp] Try.underlying35
@[simp] theorem ag35 : aggOf Try.prog 35 = some false := by kernel_rfl
@[simp] theorem sz35 : szOf Try.prog 35 = some 1 := by kernel_rfl
@[simp] theorem zr35 : zeroOf Try.prog 35 = some [.nils] := by kernel_rfl
attribute [simp] Try.underlying36
@[simp] theorem ag36 : aggOf Try.prog 36 = some false := by kernel_rfl
@[simp] theorem sz36 : szOf Try.prog 36 = some 1 := by kernel_rfl
@[simp] theorem zr36 : zeroOf Try.prog 36 = some [.nilf] := by kernel_rfl
attribute [simp] Try.underlying37
@[simp] theorem ag37 : aggOf Try.prog 37 = some false := by kernel_rfl
@[simp] theorem sz37 : szOf Try.prog 37 = some 1 := by kernel_rfl
@[simp] theorem zr37 : zeroOf Try.prog 37 = some [.nilf] := by kernel_rfl
attribute [simp] Try.underlying38
@[simp] theorem ag38 : aggOf Try.prog 38 = some false := by kernel_rfl
@[simp] theorem sz38 : szOf Try.prog 38 = some 1 := by kernel_rfl
@[simp] theorem zr38 : zeroOf Try.prog 38 = some [.nilf] := by kernel_rfl
attribute [simp] Try.underlying39
@[simp] theorem ag39 : aggOf Try.prog 39 = some false := by kernel_rfl
@[simp] theorem sz39 : szOf Try.prog 39 = some 1 := by kernel_rfl
@[simp] theorem zr39 : zeroOf Try.prog 39 = some [.nilf] := by kernel_rfl
attribute [simp] Try.underlying40
@[simp] theorem ag40 : aggOf Try.prog 40 = some false := by kernel_rfl
@[simp] theorem sz40 : szOf Try.prog 40 = some 1 := by kernel_rfl
@[simp] theorem zr40 : zeroOf Try.prog 40 = some [.nils] := by kernel_rfl
attribute [simp] Try.underlying41
@[simp] theorem ag41 : aggOf Try.prog 41 = some false := by kernel_rfl
@[simp] theorem sz41 : szOf Try.prog 41 = some 1 := by kernel_rfl
@[simp] theorem zr41 : zeroOf Try.prog 41 = some [.nils] := by kernel_rfl
attribute [simp] Try.underlying42
@[simp] theorem ag42 : aggOf Try.prog 42 = some false := by kernel_rfl
@[simp] theorem sz42 : szOf Try.prog 42 = some 1 := by kernel_rfl
@[simp] theorem zr42 : zeroOf Try.prog 42 = some [.nils] := by kernel_rfl
attribute [simp] Try.underlying43
@[simp] theorem ag43 : aggOf Try.prog 43 = some true := by kernel_rfl
@[simp] theorem sz43 : szOf Try.prog 43 = some 4 := by kernel_rfl
@[simp] theorem zr43 : zeroOf Try.prog 43 = some [.nils, .nils, .nils, .nils] := by kernel_rfl
@[simp] theorem pl43 : placesOf Try.prog 43 = some (fun i => ([(0, 1), (1, 1), (2, 1), (3, 1)] : List (Nat × Nat))[i]?) := by kernel_rfl
attribute [simp] Try.underlying44
@[simp] theorem ag44 : aggOf Try.prog 44 = some true := by kernel_rfl
@[simp] theorem sz44 : szOf Try.prog 44 = some 4 := by kernel_rfl
@[simp] theorem zr44 : zeroOf Try.prog 44 = some [.nils, .nils, .nils, .nils] := by kernel_rfl
@[simp] theorem pl44 : placesOf Try.prog 44 = some (fun i => ([(0, 1), (1, 1), (2, 1), (3, 1)] : List (Nat × Nat))[i]?) := by kernel_rfl
attribute [simp] Try.underlying45
@[simp] theorem ag45 : aggOf Try.prog 45 = some false := by kernel_rfl
@[simp] theorem sz45 : szOf Try.prog 45 = some 1 := by kernel_rfl
@[simp] theorem zr45 : zeroOf Try.prog 45 = some [.nilf] := by kernel_rfl
attribute [simp] Try.underlying46
@[simp] theorem ag46 : aggOf Try.prog 46 = some false := by kernel_rfl
@[simp] theorem sz46 : szOf Try.prog 46 = some 1 := by kernel_rfl
@[simp] theorem zr46 : zeroOf Try.prog 46 = some [.nilf] := by kernel_rfl
attribute [simp] Try.underlying47
@[simp] theorem ag47 : aggOf Try.prog 47 = some false := by kernel_rfl
@[simp] theorem sz47 : szOf Try.prog 47 = some 1 := by kernel_rfl
@[simp] theorem zr47 : zeroOf Try.prog 47 = some [.nils] := by kernel_rfl
attribute [simp] Try.underlying48
@[simp] theorem ag48 : aggOf Try.prog 48 = some false := by kernel_rfl
@[simp] theorem sz48 : szOf Try.prog 48 = some 1 := by kernel_rfl
@[simp] theorem zr48 : zeroOf Try.prog 48 = some [.nils] := by kernel_rfl
attribute [simp] Try.underlying49
@[simp] theorem ag49 : aggOf Try.prog 49 = some true := by kernel_rfl
@[simp] theorem sz49 : szOf Try.prog 49 = some 4 := by kernel_rfl
@[simp] theorem zr49 : zeroOf Try.prog 49 = some [.nils, .nils, .nils, .nils] := by kernel_rfl
@[simp] theorem pl49 : placesOf Try.prog 49 = some (fun i => ([(0, 1), (1, 1), (2, 1), (3, 1)] : List (Nat × Nat))[i]?) := by kernel_rfl
attribute [simp] Try.underlying50
@[simp] theorem ag50 : aggOf Try.prog 50 = some true := by kernel_rfl
@[simp] theorem sz50 : szOf Try.prog 50 = some 4 := by kernel_rfl
@[simp] theorem zr50 : zeroOf Try.prog 50 = some [.nils, .nils, .nils, .nils] := by kernel_rfl
@[simp] theorem pl50 : placesOf Try.prog 50 = some (fun i => ([(0, 1), (1, 1), (2, 1), (3, 1)] : List (Nat × Nat))[i]?) := by kernel_rfl
attribute [simp] Try.underlying51
@[simp] theorem ag51 : aggOf Try.prog 51 = some false := by kernel_rfl
@[simp] theorem sz51 : szOf Try.prog 51 = some 1 := by kernel_rfl
@[simp] theorem zr51 : zeroOf Try.prog 51 = some [.nilf] := by kernel_rfl
attribute [simp] Try.underlying52
@[simp] theorem ag52 : aggOf Try.prog 52 = some false := by kernel_rfl
@[simp] theorem sz52 : szOf Try.prog 52 = some 1 := by kernel_rfl
@[simp] theorem zr52 : zeroOf Try.prog 52 = some [.nilf] := by kernel_rfl
attribute [simp] Try.underlying53
@[simp] theorem ag53 : aggOf Try.prog 53 = some false := by kernel_rfl
@[simp] theorem sz53 : szOf Try.prog 53 = some 1 := by kernel_rfl
@[simp] theorem zr53 : zeroOf Try.prog 53 = some [.nilf] := by kernel_rfl
attribute [simp] Try.underlying54
@[simp] theorem ag54 : aggOf Try.prog 54 = some false := by kernel_rfl
@[simp] theorem sz54 : szOf Try.prog 54 = some 1 := by kernel_rfl
@[simp] theorem zr54 : zeroOf Try.prog 54 = some [.nilf] := by kernel_rfl
attribute [simp] Try.underlying55
@[simp] theorem ag55 : aggOf Try.prog 55 = some false := by kernel_rfl
@[simp] theorem sz55 : szOf Try.prog 55 = some 1 := by kernel_rfl
@[simp] theorem zr55 : zeroOf Try.prog 55 = some [.nilf] := by kernel_rfl
attribute [simp] Try.underlying56
@[simp] theorem ag56 : aggOf Try.prog 56 = some true := by kernel_rfl
@[simp] theorem sz56 : szOf Try.prog 56 = some 3 := by kernel_rfl
@[simp] theorem zr56 : zeroOf Try.prog 56 = some [.flt .f32 0, .flt .f32 0, .flt .f32 0] := by kernel_rfl
@[simp] theorem pl56 : placesOf Try.prog 56 = some (fun i => ([(0, 1), (1, 1), (2, 1)] : List (Nat × Nat))[i]?) := by kernel_rfl
attribute [simp] Try.underlying57
@[simp] theorem ag57 : aggOf Try.prog 57 = some true := by kernel_rfl
@[simp] theorem sz57 : szOf Try.prog 57 = some 3 := by kernel_rfl
@[simp] theorem zr57 : zeroOf Try.prog 57 = some [.flt .f32 0, .flt .f32 0, .flt .f32 0] := by kernel_rfl
@[simp] theorem pl57 : placesOf Try.prog 57 = some (fun i => ([(0, 1), (1, 1), (2, 1)] : List (Nat × Nat))[i]?) := by kernel_rfl
attribute [simp] Try.underlying58
@[simp] theorem ag58 : aggOf Try.prog 58 = some false := by kernel_rfl
@[simp] theorem sz58 : szOf Try.prog 58 = some 1 := by kernel_rfl
@[simp] theorem zr58 : zeroOf Try.prog 58 = some [.nilf] := by kernel_rfl
attribute [simp] Try.underlying59
@[simp] theorem ag59 : aggOf Try.prog 59 = some false := by kernel_rfl
@[simp] theorem sz59 : szOf Try.prog 59 = some 1 := by kernel_rfl
@[simp] theorem zr59 : zeroOf Try.prog 59 = some [.nilf] := by kernel_rfl
attribute [simp] Try.underlying60
@[simp] theorem ag60 : aggOf Try.prog 60 = some false := by kernel_rfl
@[simp] theorem sz60 : szOf Try.prog 60 = some 1 := by kernel_rfl
@[simp] theorem zr60 : zeroOf Try.prog 60 = some [.nilp] := by kernel_rfl
attribute [simp] Try.underlying61
@[simp] theorem ag61 : aggOf Try.prog 61 = some false := by kernel_rfl
@[simp] theorem sz61 : szOf Try.prog 61 = some 1 := by kernel_rfl
@[simp] theorem zr61 : zeroOf Try.prog 61 = some [.nilf] := by kernel_rfl
attribute [simp] Try.underlying62
@[simp] theorem ag62 : aggOf Try.prog 62 = some false := by kernel_rfl
@[simp] theorem sz62 : szOf Try.prog 62 = some 1 := by kernel_rfl
@[simp] theorem zr62 : zeroOf Try.prog 62 = some [.nilf] := by kernel_rfl
attribute [simp] Try.underlying63
@[simp] theorem ag63 : aggOf Try.prog 63 = some false := by kernel_rfl
@[simp] theorem sz63 : szOf Try.prog 63 = some 1 := by kernel_rfl
@[simp] theorem zr63 : zeroOf Try.prog 63 = some [.nilf] := by kernel_rfl
attribute [simp] Try.underlying64
@[simp] theorem ag64 : aggOf Try.prog 64 = some false := by kernel_rfl
@[simp] theorem sz64 : szOf Try.prog 64 = some 1 := by kernel_rfl
@[simp] theorem zr64 : zeroOf Try.prog 64 = some [.nilf] := by kernel_rfl
attribute [simp] Try.underlying65
@[simp] theorem ag65 : aggOf Try.prog 65 = some false := by kernel_rfl
@[simp] theorem sz65 : szOf Try.prog 65 = some 1 := by kernel_rfl
@[simp] theorem zr65 : zeroOf Try.prog 65 = some [.nilf] := by kernel_rfl
attribute [simp] Try.underlying66
@[simp] theorem ag66 : aggOf Try.prog 66 = some false := by kernel_rfl
@[simp] theorem sz66 : szOf Try.prog 66 = some 1 := by kernel_rfl
@[simp] theorem zr66 : zeroOf Try.prog 66 = some [.int .u32 0] := by kernel_rfl
attribute [simp] Try.underlying67
@[simp] theorem ag67 : aggOf Try.prog 67 = some false := by kernel_rfl
@[simp] theorem sz67 : szOf Try.prog 67 = some 1 := by kernel_rfl
@[simp] theorem zr67 : zeroOf Try.prog 67 = some [.nilf] := by kernel_rfl
attribute [simp] Try.underlying68
@[simp] theorem ag68 : aggOf Try.prog 68 = some false := by kernel_rfl
@[simp] theorem sz68 : szOf Try.prog 68 = some 1 := by kernel_rfl
@[simp] theorem zr68 : zeroOf Try.prog 68 = some [.nilf] := by kernel_rfl
attribute [simp] Try.underlying69
@[simp] theorem ag69 : aggOf Try.prog 69 = some false := by kernel_rfl
@[simp] theorem sz69 : szOf Try.prog 69 = some 1 := by kernel_rfl
@[simp] theorem zr69 : zeroOf Try.prog 69 = some [.nilf] := by kernel_rfl
attribute [simp] Try.underlying70
@[simp] theorem ag70 : aggOf Try.prog 70 = some false := by kernel_rfl
@[simp] theorem sz70 : szOf Try.prog 70 = some 1 := by kernel_rfl
@[simp] theorem zr70 : zeroOf Try.prog 70 = some [.nilf] := by kernel_rfl
attribute [simp] Try.underlying71
@[simp] theorem ag71 : aggOf Try.prog 71 = some false := by kernel_rfl
@[simp] theorem sz71 : szOf Try.prog 71 = some 1 := by kernel_rfl
@[simp] theorem zr71 : zeroOf Try.prog 71 = some [.nilf] := by kernel_rfl
attribute [simp] Try.underlying72
@[simp] theorem ag72 : aggOf Try.prog 72 = some false := by kernel_rfl
@[simp] theorem sz72 : szOf Try.prog 72 = some 1 := by kernel_rfl
@[simp] theorem zr72 : zeroOf Try.prog 72 = some [.nilf] := by kernel_rfl
attribute [simp] Try.underlying73
@[simp] theorem ag73 : aggOf Try.prog 73 = some false := by kernel_rfl
@[simp] theorem sz73 : szOf Try.prog 73 = some 1 := by kernel_rfl
@[simp] theorem zr73 : zeroOf Try.prog 73 = some [.nilf] := by kernel_rfl
attribute [simp] Try.underlying74
@[simp] theorem ag74 : aggOf Try.prog 74 = some false := by kernel_rfl
@[simp] theorem sz74 : szOf Try.prog 74 = some 1 := by kernel_rfl
@[simp] theorem zr74 : zeroOf Try.prog 74 = some [.nilf] := by kernel_rfl
attribute [simp] Try.underlying75
@[simp] theorem ag75 : aggOf Try.prog 75 = some false := by kernel_rfl
@[simp] theorem sz75 : szOf Try.prog 75 = some 1 := by kernel_rfl
@[simp] theorem zr75 : zeroOf Try.prog 75 = some [.nilf] := by kernel_rfl
attribute [simp] Try.underlying76
@[simp] theorem ag76 : aggOf Try.prog 76 = some false := by kernel_rfl
@[simp] theorem sz76 : szOf Try.prog 76 = some 1 := by kernel_rfl
@[simp] theorem zr76 : zeroOf Try.prog 76 = some [.nilf] := by kernel_rfl
attribute [simp] Try.underlying77
@[simp] theorem ag77 : aggOf Try.prog 77 = some false := by kernel_rfl
@[simp] theorem sz77 : szOf Try.prog 77 = some 1 := by kernel_rfl
@[simp] theorem zr77 : zeroOf Try.prog 77 = some [.nilp] := by kernel_rfl
attribute [simp] Try.underlying78
@[simp] theorem ag78 : aggOf Try.prog 78 = some false := by kernel_rfl
@[simp] theorem sz78 : szOf Try.prog 78 = some 1 := by kernel_rfl
@[simp] theorem zr78 : zeroOf Try.prog 78 = some [.nilf] := by kernel_rfl
attribute [simp] Try.underlying79
@[simp] theorem ag79 : aggOf Try.prog 79 = some false := by kernel_rfl
@[simp] theorem sz79 : szOf Try.prog 79 = some 1 := by kernel_rfl
@[simp] theorem zr79 : zeroOf Try.prog 79 = some [.nilf] := by kernel_rfl
attribute [simp] Try.underlying80
@[simp] theorem ag80 : aggOf Try.prog 80 = some false := by kernel_rfl
@[simp] theorem sz80 : szOf Try.prog 80 = some 1 := by kernel_rfl
@[simp] theorem zr80 : zeroOf Try.prog 80 = some [.nilf] := by kernel_rfl
attribute [simp] Try.underlying81
@[simp] theorem ag81 : aggOf Try.prog 81 = some true := by kernel_rfl
@[simp] theorem sz81 : szOf Try.prog 81 = some 3 := by kernel_rfl
@[simp] theorem zr81 : zeroOf Try.prog 81 = some [.int .i64 0, .int .i64 0, .flt .f32 0] := by kernel_rfl
@[simp] theorem pl81 : placesOf Try.prog 81 = some (fun i => ([(0, 1), (1, 1), (2, 1)] : List (Nat × Nat))[i]?) := by kernel_rfl
attribute [simp] Try.underlying82
@[simp] theorem ag82 : aggOf Try.prog 82 = some true := by kernel_rfl
@[simp] theorem sz82 : szOf Try.prog 82 = some 3 := by kernel_rfl
@[simp] theorem zr82 : zeroOf Try.prog 82 = some [.int .i64 0, .int .i64 0, .flt .f32 0] := by kernel_rfl
@[simp] theorem pl82 : placesOf Try.prog 82 = some (fun i => ([(0, 1), (1, 1), (2, 1)] : List (Nat × Nat))[i]?) := by kernel_rfl
attribute [simp] Try.underlying83
@[simp] theorem ag83 : aggOf Try.prog 83 = some false := by kernel_rfl
@[simp] theorem sz83 : szOf Try.prog 83 = some 1 := by kernel_rfl
@[simp] theorem zr83 : zeroOf Try.prog 83 = some [.nilf] := by kernel_rfl
attribute [simp] Try.underlying84
@[simp] theorem ag84 : aggOf Try.prog 84 = some false := by kernel_rfl
@[simp] theorem sz84 : szOf Try.prog 84 = some 1 := by kernel_rfl
@[simp] theorem zr84 : zeroOf Try.prog 84 = some [.nilf] := by kernel_rfl
attribute [simp] Try.underlying85
@[simp] theorem ag85 : aggOf Try.prog 85 = some false := by kernel_rfl
@[simp] theorem sz85 : szOf Try.prog 85 = some 1 := by kernel_rfl
@[simp] theorem zr85 : zeroOf Try.prog 85 = some [.nilf] := by kernel_rfl
attribute [simp] Try.underlying86
@[simp] theorem ag86 : aggOf Try.prog 86 = some false := by kernel_rfl
@[simp] theorem sz86 : szOf Try.prog 86 = some 1 := by kernel_rfl
@[simp] theorem zr86 : zeroOf Try.prog 86 = some [.nilf] := by kernel_rfl
attribute [simp] Try.underlying87
@[simp] theorem ag87 : aggOf Try.prog 87 = some false := by kernel_rfl
@[simp] theorem sz87 : szOf Try.prog 87 = some 1 := by kernel_rfl
@[simp] theorem zr87 : zeroOf Try.prog 87 = some [.nilf] := by kernel_rfl
attribute [simp] Try.underlying88
@[simp] theorem ag88 : aggOf Try.prog 88 = some false := by kernel_rfl
@[simp] theorem sz88 : szOf Try.prog 88 = some 1 := by kernel_rfl
@[simp] theorem zr88 : zeroOf Try.prog 88 = some [.nilf] := by kernel_rfl
attribute [simp] Try.underlying89
@[simp] theorem ag89 : aggOf Try.prog 89 = some false := by kernel_rfl
@[simp] theorem sz89 : szOf Try.prog 89 = some 1 := by kernel_rfl
@[simp] theorem zr89 : zeroOf Try.prog 89 = some [.nilf] := by kernel_rfl
attribute [simp] Try.underlying90
@[simp] theorem ag90 : aggOf Try.prog 90 = some false := by kernel_rfl
@[simp] theorem sz90 : szOf Try.prog 90 = some 1 := by kernel_rfl
@[simp] theorem zr90 : zeroOf Try.prog 90 = some [.nilf] := by kernel_rfl
attribute [simp] Try.underlying91
@[simp] theorem ag91 : aggOf Try.prog 91 = some false := by kernel_rfl
@[simp] theorem sz91 : szOf Try.prog 91 = some 1 := by kernel_rfl
@[simp] theorem zr91 : zeroOf Try.prog 91 = some [.nilf] := by kernel_rfl
attribute [simp] Try.underlying92
@[simp] theorem ag92 : aggOf Try.prog 92 = some false := by kernel_rfl
@[simp] theorem sz92 : szOf Try.prog 92 = some 1 := by kernel_rfl
@[simp] theorem zr92 : zeroOf Try.prog 92 = some [.nilf] := by kernel_rfl
attribute [simp] Try.underlying93
@[simp] theorem ag93 : aggOf Try.prog 93 = some false := by kernel_rfl
@[simp] theorem sz93 : szOf Try.prog 93 = some 1 := by kernel_rfl
@[simp] theorem zr93 : zeroOf Try.prog 93 = some [.int .u64 0] := by kernel_rfl
attribute [simp] Try.underlying94
@[simp] theorem ag94 : aggOf Try.prog 94 = some true := by kernel_rfl
@[simp] theorem sz94 : szOf Try.prog 94 = some 3 := by kernel_rfl
@[simp] theorem zr94 : zeroOf Try.prog 94 = some [.nils, .int .i64 0, .int .u64 0] := by kernel_rfl
@[simp] theorem pl94 : placesOf Try.prog 94 = some (fun i => ([(0, 1), (1, 1), (2, 1)] : List (Nat × Nat))[i]?) := by kernel_rfl
attribute [simp] Try.underlying95
@[simp] theorem ag95 : aggOf Try.prog 95 = some true := by kernel_rfl
@[simp] theorem sz95 : szOf Try.prog 95 = some 3 := by kernel_rfl
@[simp] theorem zr95 : zeroOf Try.prog 95 = some [.nils, .int .i64 0, .int .u64 0] := by kernel_rfl
@[simp] theorem pl95 : placesOf Try.prog 95 = some (fun i => ([(0, 1), (1, 1), (2, 1)] : List (Nat × Nat))[i]?) := by kernel_rfl
attribute [simp] Try.underlying96
@[simp] theorem ag96 : aggOf Try.prog 96 = some false := by kernel_rfl
@[simp] theorem sz96 : szOf Try.prog 96 = some 1 := by kernel_rfl
@[simp] theorem zr96 : zeroOf Try.prog 96 = some [.nilf] := by kernel_rfl
attribute [simp] Try.underlying97
@[simp] theorem ag97 : aggOf Try.prog 97 = some false := by kernel_rfl
@[simp] theorem sz97 : szOf Try.prog 97 = some 1 := by kernel_rfl
@[simp] theorem zr97 : zeroOf Try.prog 97 = some [.nilf] := by kernel_rfl
attribute [simp] Try.underlying98
@[simp] theorem ag98 : aggOf Try.prog 98 = some false := by kernel_rfl
@[simp] theorem sz98 : szOf Try.prog 98 = some 1 := by kernel_rfl
@[simp] theorem zr98 : zeroOf Try.prog 98 = some [.nilf] := by kernel_rfl
attribute [simp] Try.underlying99
@[simp] theorem ag99 : aggOf Try.prog 99 = some false := by kernel_rfl
@[simp] theorem sz99 : szOf Try.prog 99 = some 1 := by kernel_rfl
@[simp] theorem zr99 : zeroOf Try.prog 99 = some [.nilf] := by kernel_rfl
attribute [simp] Try.underlying100
@[simp] theorem ag100 : aggOf Try.prog 100 = some false := by kernel_rfl
@[simp] theorem sz100 : szOf Try.prog 100 = some 1 := by kernel_rfl
@[simp] theorem zr100 : zeroOf Try.prog 100 = some [.nilp] := by kernel_rfl
attribute [simp] Try.underlying101
@[simp] theorem ag101 : aggOf Try.prog 101 = some false := by kernel_rfl
@[simp] theorem sz101 : szOf Try.prog 101 = some 1 := by kernel_rfl
@[simp] theorem zr101 : zeroOf Try.prog 101 = some [.nilf] := by kernel_rfl
attribute [simp] Try.underlying102
@[simp] theorem ag102 : aggOf Try.prog 102 = some true := by kernel_rfl
@[simp] theorem sz102 : szOf Try.prog 102 = some 3 := by kernel_rfl
@[simp] theorem zr102 : zeroOf Try.prog 102 = some [.flt .f32 0, .flt .f32 0, .flt .f32 0] := by kernel_rfl
@[simp] theorem pl102 : placesOf Try.prog 102 = some (fun i => ([(0, 1), (1, 1), (2, 1)] : List (Nat × Nat))[i]?) := by kernel_rfl
attribute [simp] Try.underlying103
@[simp] theorem ag103 : aggOf Try.prog 103 = some false := by kernel_rfl
@[simp] theorem sz103 : szOf Try.prog 103 = some 1 := by kernel_rfl
@[simp] theorem zr103 : zeroOf Try.prog 103 = some [.nilf] := by kernel_rfl
attribute [simp] Try.underlying104
@[simp] theorem ag104 : aggOf Try.prog 104 = some true := by kernel_rfl
@[simp] theorem sz104 : szOf Try.prog 104 = some 3 := by kernel_rfl
@[simp] theorem zr104 : zeroOf Try.prog 104 = some [.int .i64 0, .int .i64 0, .flt .f32 0] := by kernel_rfl
@[simp] theorem pl104 : placesOf Try.prog 104 = some (fun i => ([(0, 1), (1, 1), (2, 1)] : List (Nat × Nat))[i]?) := by kernel_rfl
attribute [simp] Try.underlying105
@[simp] theorem ag105 : aggOf Try.prog 105 = some false := by kernel_rfl
@[simp] theorem sz105 : szOf Try.prog 105 = some 1 := by kernel_rfl
@[simp] theorem zr105 : zeroOf Try.prog 105 = some [.nilf] := by kernel_rfl
attribute [simp] Try.underlying106
@[simp] theorem ag106 : aggOf Try.prog 106 = some false := by kernel_rfl
@[simp] theorem sz106 : szOf Try.prog 106 = some 1 := by kernel_rfl
@[simp] theorem zr106 : zeroOf Try.prog 106 = some [.int .u64 0] := by kernel_rfl
attribute [simp] Try.underlying107
@[simp] theorem ag107 : aggOf Try.prog 107 = some false := by kernel_rfl
@[simp] theorem sz107 : szOf Try.prog 107 = some 1 := by kernel_rfl
@[simp] theorem zr107 : zeroOf Try.prog 107 = some [.nilf] := by kernel_rfl
attribute [simp] Try.underlying108
@[simp] theorem ag108 : aggOf Try.prog 108 = some false := by kernel_rfl
@[simp] theorem sz108 : szOf Try.prog 108 = some 1 := by kernel_rfl
@[simp] theorem zr108 : zeroOf Try.prog 108 = some [.nilf] := by kernel_rfl
attribute [simp] Try.underlying109
@[simp] theorem ag109 : aggOf Try.prog 109 = some false := by kernel_rfl
@[simp] theorem sz109 : szOf Try.prog 109 = some 1 := by kernel_rfl
@[simp] theorem zr109 : zeroOf Try.prog 109 = some [.nilf] := by kernel_rfl
attribute [simp] Try.underlying110
@[simp] theorem ag110 : aggOf Try.prog 110 = some true := by kernel_rfl
@[simp] theorem sz110 : szOf Try.prog 110 = some 4 := by kernel_rfl
@[simp] theorem zr110 : zeroOf Try.prog 110 = some [.nilp, .nilp, .nilp, .str ⟨#[]⟩] := by kernel_rfl
@[simp] theorem pl110 : placesOf Try.prog 110 = some (fun i => ([(0, 1), (1, 1), (2, 1), (3, 1)] : List (Nat × Nat))[i]?) := by kernel_rfl
attribute [simp] Try.underlying111
@[simp] theorem ag111 : aggOf Try.prog 111 = some true := by kernel_rfl
@[simp] theorem sz111 : szOf Try.prog 111 = some 4 := by kernel_rfl
@[simp] theorem zr111 : zeroOf Try.prog 111 = some [.nilp, .nilp, .nilp, .str ⟨#[]⟩] := by kernel_rfl
@[simp] theorem pl111 : placesOf Try.prog 111 = some (fun i => ([(0, 1), (1, 1), (2, 1), (3, 1)] : List (Nat × Nat))[i]?) := by kernel_rfl
attribute [simp] Try.underlying112
@[simp] theorem ag112 : aggOf Try.prog 112 = some true := by kernel_rfl
@[simp] theorem sz112 : szOf Try.prog 112 = some 0 := by kernel_rfl
@[simp] theorem zr112 : zeroOf Try.prog 112 = some [] := by kernel_rfl
@[simp] theorem pl112 : placesOf Try.prog 112 = some (fun i => some (i * 1, 1)) := by kernel_rfl
attribute [simp] Try.underlying113
@[simp] theorem ag113 : aggOf Try.prog 113 = some true := by kernel_rfl
@[simp] theorem sz113 : szOf Try.prog 113 = some 0 := by kernel_rfl
@[simp] theorem zr113 : zeroOf Try.prog 113 = some [] := by kernel_rfl
@[simp] theorem pl113 : placesOf Try.prog 113 = some (fun i => ([(0, 0)] : List (Nat × Nat))[i]?) := by kernel_rfl
attribute [simp] Try.underlying114
@[simp] theorem ag114 : aggOf Try.prog 114 = some true := by kernel_rfl
@[simp] theorem sz114 : szOf Try.prog 114 = some 0 := by kernel_rfl
@[simp] theorem zr114 : zeroOf Try.prog 114 = some [] := by kernel_rfl
@[simp] theorem pl114 : placesOf Try.prog 114 = some (fun i => ([(0, 0)] : List (Nat × Nat))[i]?) := by kernel_rfl
attribute [simp] Try.underlying115
@[simp] theorem ag115 : aggOf Try.prog 115 = some false := by kernel_rfl
@[simp] theorem sz115 : szOf Try.prog 115 = some 1 := by kernel_rfl
@[simp] theorem zr115 : zeroOf Try.prog 115 = some [.nilf] := by kernel_rfl
attribute [simp] Try.underlying116
@[simp] theorem ag116 : aggOf Try.prog 116 = some false := by kernel_rfl
@[simp] theorem sz116 : szOf Try.prog 116 = some 1 := by kernel_rfl
@[simp] theorem zr116 : zeroOf Try.prog 116 = some [.int .u8 0] := by kernel_rfl
attribute [simp] Try.underlying117
@[simp] theorem ag117 : aggOf Try.prog 117 = some false := by kernel_rfl
@[simp] theorem sz117 : szOf Try.prog 117 = some 1 := by kernel_rfl
@[simp] theorem zr117 : zeroOf Try.prog 117 = some [.int .u8 0] := by kernel_rfl
attribute [simp] Try.underlying118
@[simp] theorem ag118 : aggOf Try.prog 118 = some false := by kernel_rfl
@[simp] theorem sz118 : szOf Try.prog 118 = some 1 := by kernel_rfl
@[simp] theorem zr118 : zeroOf Try.prog 118 = some [.nilf] := by kernel_rfl
attribute [simp] Try.underlying119
@[simp] theorem ag119 : aggOf Try.prog 119 = some false := by kernel_rfl
@[simp] theorem sz119 : szOf Try.prog 119 = some 1 := by kernel_rfl
@[simp] theorem zr119 : zeroOf Try.prog 119 = some [.nilp] := by kernel_rfl
attribute [simp] Try.underlying120
@[simp] theorem ag120 : aggOf Try.prog 120 = some false := by kernel_rfl
@[simp] theorem sz120 : szOf Try.prog 120 = some 1 := by kernel_rfl
@[simp] theorem zr120 : zeroOf Try.prog 120 = some [.int .i32 0] := by kernel_rfl
attribute [simp] Try.underlying121
@[simp] theorem ag121 : aggOf Try.prog 121 = some false := by kernel_rfl
@[simp] theorem sz121 : szOf Try.prog 121 = some 1 := by kernel_rfl
@[simp] theorem zr121 : zeroOf Try.prog 121 = some [.int .i32 0] := by kernel_rfl
attribute [simp] Try.underlying122
@[simp] theorem ag122 : aggOf Try.prog 122 = some true := by kernel_rfl
@[simp] theorem sz122 : szOf Try.prog 122 = some 11 := by kernel_rfl
@[simp] theorem zr122 : zeroOf Try.prog 122 = some [.int .u64 0, .int .u64 0, .int .u32 0, .int .u8 0, .int .u8 0, .int .u8 0, .int .u8 0, .nilf, .nilp, .int .i32 0, .int .i32 0] := by kernel_rfl
@[simp] theorem pl122 : placesOf Try.prog 122 = some (fun i => ([(0, 1), (1, 1), (2, 1), (3, 1), (4, 1), (5, 1), (6, 1), (7, 1), (8, 1), (9, 1), (10, 1)] : List (Nat × Nat))[i]?) := by kernel_rfl
attribute [simp] Try.underlying123
@[simp] theorem ag123 : aggOf Try.prog 123 = some true := by kernel_rfl
@[simp] theorem sz123 : szOf Try.prog 123 = some 11 := by kernel_rfl
@[simp] theorem zr123 : zeroOf Try.prog 123 = some [.int .u64 0, .int .u64 0, .int .u32 0, .int .u8 0, .int .u8 0, .int .u8 0, .int .u8 0, .nilf, .nilp, .int .i32 0, .int .i32 0] := by kernel_rfl
@[simp] theorem pl123 : placesOf Try.prog 123 = some (fun i => ([(0, 1), (1, 1), (2, 1), (3, 1), (4, 1), (5, 1), (6, 1), (7, 1), (8, 1), (9, 1), (10, 1)] : List (Nat × Nat))[i]?) := by kernel_rfl
attribute [simp] Try.underlying124
@[simp] theorem ag124 : aggOf Try.prog 124 = some false := by kernel_rfl
@[simp] theorem sz124 : szOf Try.prog 124 = some 1 := by kernel_rfl
@[simp] theorem zr124 : zeroOf Try.prog 124 = some [.nilf] := by kernel_rfl
attribute [simp] Try.underlying125
@[simp] theorem ag125 : aggOf Try.prog 125 = some false := by kernel_rfl
@[simp] theorem sz125 : szOf Try.prog 125 = some 1 := by kernel_rfl
@[simp] theorem zr125 : zeroOf Try.prog 125 = some [.nilf] := by kernel_rfl
attribute [simp] Try.underlying126
@[simp] theorem ag126 : aggOf Try.prog 126 = some false := by kernel_rfl
@[simp] theorem sz126 : szOf Try.prog 126 = some 1 := by kernel_rfl
@[simp] theorem zr126 : zeroOf Try.prog 126 = some [.nilp] := by kernel_rfl
attribute [simp] Try.underlying127
@[simp] theorem ag127 : aggOf Try.prog 127 = some false := by kernel_rfl
@[simp] theorem sz127 : szOf Try.prog 127 = some 1 := by kernel_rfl
@[simp] theorem zr127 : zeroOf Try.prog 127 = some [.nils] := by kernel_rfl
@[simp] theorem by0 : bytesOf Try.prog 0 = some 0 := by kernel_rfl
@[simp] theorem by1 : bytesOf Try.prog 1 = some 8 := by kernel_rfl
@[simp] theorem by2 : bytesOf Try.prog 2 = some 8 := by kernel_rfl
@[simp] theorem by3 : bytesOf Try.prog 3 = some 8 := by kernel_rfl
@[simp] theorem by4 : bytesOf Try.prog 4 = some 1 := by kernel_rfl
@[simp] theorem by5 : bytesOf Try.prog 5 = some 1 := by kernel_rfl
@[simp] theorem by6 : bytesOf Try.prog 6 = some 1 := by kernel_rfl
@[simp] theorem by7 : bytesOf Try.prog 7 = some 24 := by kernel_rfl
@[simp] theorem by8 : bytesOf Try.prog 8 = some 24 := by kernel_rfl
@[simp] theorem by9 : bytesOf Try.prog 9 = some 16 := by kernel_rfl
@[simp] theorem by10 : bytesOf Try.prog 10 = some 16 := by kernel_rfl
@[simp] theorem by11 : bytesOf Try.prog 11 = some 16 := by kernel_rfl
@[simp] theorem by12 : bytesOf Try.prog 12 = some 8 := by kernel_rfl
@[simp] theorem by13 : bytesOf Try.prog 13 = some 24 := by kernel_rfl
@[simp] theorem by14 : bytesOf Try.prog 14 = some 24 := by kernel_rfl
@[simp] theorem by15 : bytesOf Try.prog 15 = some 8 := by kernel_rfl
@[simp] theorem by16 : bytesOf Try.prog 16 = some 8 := by kernel_rfl
@[simp] theorem by17 : bytesOf Try.prog 17 = some 8 := by kernel_rfl
@[simp] theorem by18 : bytesOf Try.prog 18 = some 8 := by kernel_rfl
@[simp] theorem by19 : bytesOf Try.prog 19 = some 8 := by kernel_rfl
@[simp] theorem by20 : bytesOf Try.prog 20 = some 16 := by kernel_rfl
@[simp] theorem by21 : bytesOf Try.prog 21 = some 4 := by kernel_rfl
@[simp] theorem by22 : bytesOf Try.prog 22 = some 24 := by kernel_rfl
@[simp] theorem by23 : bytesOf Try.prog 23 = some 8 := by kernel_rfl
@[simp] theorem by24 : bytesOf Try.prog 24 = some 4 := by kernel_rfl
@[simp] theorem by25 : bytesOf Try.prog 25 = some 8 := by kernel_rfl
@[simp] theorem by26 : bytesOf Try.prog 26 = some 8 := by kernel_rfl
@[simp] theorem by27 : bytesOf Try.prog 27 = some 8 := by kernel_rfl
@[simp] theorem by28 : bytesOf Try.prog 28 = some 8 := by kernel_rfl
@[simp] theorem by29 : bytesOf Try.prog 29 = some 8 := by kernel_rfl
@[simp] theorem by30 : bytesOf Try.prog 30 = some 8 := by kernel_rfl
@[simp] theorem by31 : bytesOf Try.prog 31 = some 8 := by kernel_rfl
@[simp] theorem by32 : bytesOf Try.prog 32 = some 0 := by kernel_rfl
@[simp] theorem by33 : bytesOf Try.prog 33 = some 8 := by kernel_rfl
@[simp] theorem by34 : bytesOf Try.prog 34 = some 8 := by kernel_rfl
@[simp] theorem by35 : bytesOf Try.prog 35 = some 24 := by kernel_rfl
@[simp] theorem by36 : bytesOf Try.prog 36 = some 8 := by kernel_rfl
@[simp] theorem by37 : bytesOf Try.prog 37 = some 8 := by kernel_rfl
@[simp] theorem by38 : bytesOf Try.prog 38 = some 8 := by kernel_rfl
@[simp] theorem by39 : bytesOf Try.prog 39 = some 8 := by kernel_rfl
@[simp] theorem by40 : bytesOf Try.prog 40 = some 24 := by kernel_rfl
@[simp] theorem by41 : bytesOf Try.prog 41 = some 24 := by kernel_rfl
@[simp] theorem by42 : bytesOf Try.prog 42 = some 24 := by kernel_rfl
@[simp] theorem by43 : bytesOf Try.prog 43 = some 96 := by kernel_rfl
@[simp] theorem by44 : bytesOf Try.prog 44 = some 96 := by kernel_rfl
@[simp] theorem by45 : bytesOf Try.prog 45 = some 8 := by kernel_rfl
@[simp] theorem by46 : bytesOf Try.prog 46 = some 8 := by kernel_rfl
@[simp] theorem by47 : bytesOf Try.prog 47 = some 24 := by kernel_rfl
@[simp] theorem by48 : bytesOf Try.prog 48 = some 24 := by kernel_rfl
@[simp] theorem by49 : bytesOf Try.prog 49 = some 96 := by kernel_rfl
@[simp] theorem by50 : bytesOf Try.prog 50 = some 96 := by kernel_rfl
@[simp] theorem by51 : bytesOf Try.prog 51 = some 8 := by kernel_rfl
@[simp] theorem by52 : bytesOf Try.prog 52 = some 8 := by kernel_rfl
@[simp] theorem by53 : bytesOf Try.prog 53 = some 8 := by kernel_rfl
@[simp] theorem by54 : bytesOf Try.prog 54 = some 8 := by kernel_rfl
@[simp] theorem by55 : bytesOf Try.prog 55 = some 8 := by kernel_rfl
@[simp] theorem by56 : bytesOf Try.prog 56 = some 12 := by kernel_rfl
@[simp] theorem by57 : bytesOf Try.prog 57 = some 12 := by kernel_rfl
@[simp] theorem by58 : bytesOf Try.prog 58 = some 8 := by kernel_rfl
@[simp] theorem by59 : bytesOf Try.prog 59 = some 8 := by kernel_rfl
@[simp] theorem by60 : bytesOf Try.prog 60 = some 8 := by kernel_rfl
@[simp] theorem by61 : bytesOf Try.prog 61 = some 8 := by kernel_rfl
@[simp] theorem by62 : bytesOf Try.prog 62 = some 8 := by kernel_rfl
@[simp] theorem by63 : bytesOf Try.prog 63 = some 8 := by kernel_rfl
@[simp] theorem by64 : bytesOf Try.prog 64 = some 8 := by kernel_rfl
@[simp] theorem by65 : bytesOf Try.prog 65 = some 8 := by kernel_rfl
@[simp] theorem by66 : bytesOf Try.prog 66 = some 4 := by kernel_rfl
@[simp] theorem by67 : bytesOf Try.prog 67 = some 8 := by kernel_rfl
@[simp] theorem by68 : bytesOf Try.prog 68 = some 8 := by kernel_rfl
@[simp] theorem by69 : bytesOf Try.prog 69 = some 8 := by kernel_rfl
@[simp] theorem by70 : bytesOf Try.prog 70 = some 8 := by kernel_rfl
@[simp] theorem by71 : bytesOf Try.prog 71 = some 8 := by kernel_rfl
@[simp] theorem by72 : bytesOf Try.prog 72 = some 8 := by kernel_rfl
@[simp] theorem by73 : bytesOf Try.prog 73 = some 8 := by kernel_rfl
@[simp] theorem by74 : bytesOf Try.prog 74 = some 8 := by kernel_rfl
@[simp] theorem by75 : bytesOf Try.prog 75 = some 8 := by kernel_rfl
@[simp] theorem by76 : bytesOf Try.prog 76 = some 8 := by kernel_rfl
@[simp] theorem by77 : bytesOf Try.prog 77 = some 8 := by kernel_rfl
@[simp] theorem by78 : bytesOf Try.prog 78 = some 8 := by kernel_rfl
@[simp] theorem by79 : bytesOf Try.prog 79 = some 8 := by kernel_rfl
@[simp] theorem by80 : bytesOf Try.prog 80 = some 8 := by kernel_rfl
@[simp] theorem by81 : bytesOf Try.prog 81 = some 24 := by kernel_rfl
@[simp] theorem by82 : bytesOf Try.prog 82 = some 24 := by kernel_rfl
@[simp] theorem by83 : bytesOf Try.prog 83 = some 8 := by kernel_rfl
@[simp] theorem by84 : bytesOf Try.prog 84 = some 8 := by kernel_rfl
@[simp] theorem by85 : bytesOf Try.prog 85 = some 8 := by kernel_rfl
@[simp] theorem by86 : bytesOf Try.prog 86 = some 8 := by kernel_rfl
@[simp] theorem by87 : bytesOf Try.prog 87 = some 8 := by kernel_rfl
@[simp] theorem by88 : bytesOf Try.prog 88 = some 8 := by kernel_rfl
@[simp] theorem by89 : bytesOf Try.prog 89 = some 8 := by kernel_rfl
@[simp] theorem by90 : bytesOf Try.prog 90 = some 8 := by kernel_rfl
@[simp] theorem by91 : bytesOf Try.prog 91 = some 8 := by kernel_rfl
@[simp] theorem by92 : bytesOf Try.prog 92 = some 8 := by kernel_rfl
@[simp] theorem by93 : bytesOf Try.prog 93 = some 8 := by kernel_rfl
@[simp] theorem by94 : bytesOf Try.prog 94 = some 40 := by kernel_rfl
@[simp] theorem by95 : bytesOf Try.prog 95 = some 40 := by kernel_rfl
@[simp] theorem by96 : bytesOf Try.prog 96 = some 8 := by kernel_rfl
@[simp] theorem by97 : bytesOf Try.prog 97 = some 8 := by kernel_rfl
@[simp] theorem by98 : bytesOf Try.prog 98 = some 8 := by kernel_rfl
@[simp] theorem by99 : bytesOf Try.prog 99 = some 8 := by kernel_rfl
@[simp] theorem by100 : bytesOf Try.prog 100 = some 8 := by kernel_rfl
@[simp] theorem by101 : bytesOf Try.prog 101 = some 8 := by kernel_rfl
@[simp] theorem by102 : bytesOf Try.prog 102 = some 12 := by kernel_rfl
@[simp] theorem by103 : bytesOf Try.prog 103 = some 8 := by kernel_rfl
@[simp] theorem by104 : bytesOf Try.prog 104 = some 24 := by kernel_rfl
@[simp] theorem by105 : bytesOf Try.prog 105 = some 8 := by kernel_rfl
@[simp] theorem by106 : bytesOf Try.prog 106 = some 8 := by kernel_rfl
@[simp] theorem by107 : bytesOf Try.prog 107 = some 8 := by kernel_rfl
@[simp] theorem by108 : bytesOf Try.prog 108 = some 8 := by kernel_rfl
@[simp] theorem by109 : bytesOf Try.prog 109 = some 8 := by kernel_rfl
@[simp] theorem by110 : bytesOf Try.prog 110 = some 40 := by kernel_rfl
@[simp] theorem by111 : bytesOf Try.prog 111 = some 40 := by kernel_rfl
@[simp] theorem by112 : bytesOf Try.prog 112 = some 0 := by kernel_rfl
@[simp] theorem by113 : bytesOf Try.prog 113 = some 0 := by kernel_rfl
@[simp] theorem by114 : bytesOf Try.prog 114 = some 0 := by kernel_rfl
@[simp] theorem by115 : bytesOf Try.prog 115 = some 8 := by kernel_rfl
@[simp] theorem by116 : bytesOf Try.prog 116 = some 1 := by kernel_rfl
@[simp] theorem by117 : bytesOf Try.prog 117 = some 1 := by kernel_rfl
@[simp] theorem by118 : bytesOf Try.prog 118 = some 8 := by kernel_rfl
@[simp] theorem by119 : bytesOf Try.prog 119 = some 8 := by kernel_rfl
@[simp] theorem by120 : bytesOf Try.prog 120 = some 4 := by kernel_rfl
@[simp] theorem by121 : bytesOf Try.prog 121 = some 4 := by kernel_rfl
@[simp] theorem by122 : bytesOf Try.prog 122 = some 48 := by kernel_rfl
@[simp] theorem by123 : bytesOf Try.prog 123 = some 48 := by kernel_rfl
@[simp] theorem by124 : bytesOf Try.prog 124 = some 8 := by kernel_rfl
@[simp] theorem by125 : bytesOf Try.prog 125 = some 8 := by kernel_rfl
@[simp] theorem by126 : bytesOf Try.prog 126 = some 8 := by kernel_rfl
@[simp] theorem by127 : bytesOf Try.prog 127 = some 24 := by kernel_rfl
theorem dr_ok : DrawOk Try.prog okN (drawK Try.prog) := drawK_ok (by kernel_rfl)
end Go.Proofs.Ytfngkhkghjgmkaa
