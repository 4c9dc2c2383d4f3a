/- The types of the seat, as rules for simp.
Conditions: none. -/
import Derived.Test.YtbjfkhjckfodbaaRows
import Derived.Test.YtbjfkhjckfodbaaRul
namespace Go.Proofs.Ytbjfkhjckfodbaa
set_option linter.all false
open Go Go.Awp

attribute [simp] Try.underlying0
@[simp] theorem ag0 : aggOf Try.prog 0 = some false := by kernel_rfl
@[simp] theorem sz0 : szOf Try.prog 0 = some 1 := by kernel_rfl
attribute [simp] Try.underlying1
@[simp] theorem ag1 : aggOf Try.prog 1 = some false := by kernel_rfl
@[simp] theorem sz1 : szOf Try.prog 1 = some 1 := by kernel_rfl
@[simp] theorem zr1 : zeroOf Try.prog 1 = some [.nilf] := by kernel_rfl
attribute [simp] Try.underlying2
@[simp] theorem ag2 : aggOf Try.prog 2 = some false := by kernel_rfl
@[simp] theorem sz2 : szOf Try.prog 2 = some 1 := by kernel_rfl
@[simp] theorem zr2 : zeroOf Try.prog 2 = some [.int .i64 0] := by kernel_rfl
attribute [simp] Try.underlying3
@[simp] theorem ag3 : aggOf Try.prog 3 = some false := by kernel_rfl
@[simp] theorem sz3 : szOf Try.prog 3 = some 1 := by kernel_rfl
@[simp] theorem zr3 : zeroOf Try.prog 3 = some [.int .i64 0] := by kernel_rfl
attribute [simp] Try.underlying4
@[simp] theorem ag4 : aggOf Try.prog 4 = some false := by kernel_rfl
@[simp] theorem sz4 : szOf Try.prog 4 = some 1 := by kernel_rfl
@[simp] theorem zr4 : zeroOf Try.prog 4 = some [.bool false] := by kernel_rfl
attribute [simp] Try.underlying5
@[simp] theorem ag5 : aggOf Try.prog 5 = some false := by kernel_rfl
@[simp] theorem sz5 : szOf Try.prog 5 = some 1 := by kernel_rfl
@[simp] theorem zr5 : zeroOf Try.prog 5 = some [.int .u8 0] := by kernel_rfl
attribute [simp] Try.underlying6
@[simp] theorem ag6 : aggOf Try.prog 6 = some false := by kernel_rfl
@[simp] theorem sz6 : szOf Try.prog 6 = some 1 := by kernel_rfl
@[simp] theorem zr6 : zeroOf Try.prog 6 = some [.int .u8 0] := by kernel_rfl
attribute [simp] Try.underlying7
@[simp] theorem ag7 : aggOf Try.prog 7 = some true := by kernel_rfl
@[simp] theorem sz7 : szOf Try.prog 7 = some 4 := by kernel_rfl
@[simp] theorem zr7 : zeroOf Try.prog 7 = some [.int .i64 0, .int .i64 0, .bool false, .int .u8 0] := by kernel_rfl
@[simp] theorem pl7 : placesOf Try.prog 7 = some (fun i => ([(0, 1), (1, 1), (2, 1), (3, 1)] : List (Nat × Nat))[i]?) := by kernel_rfl
attribute [simp] Try.underlying8
@[simp] theorem ag8 : aggOf Try.prog 8 = some true := by kernel_rfl
@[simp] theorem sz8 : szOf Try.prog 8 = some 4 := by kernel_rfl
@[simp] theorem zr8 : zeroOf Try.prog 8 = some [.int .i64 0, .int .i64 0, .bool false, .int .u8 0] := by kernel_rfl
@[simp] theorem pl8 : placesOf Try.prog 8 = some (fun i => ([(0, 1), (1, 1), (2, 1), (3, 1)] : List (Nat × Nat))[i]?) := by kernel_rfl
attribute [simp] Try.underlying9
@[simp] theorem ag9 : aggOf Try.prog 9 = some false := by kernel_rfl
@[simp] theorem sz9 : szOf Try.prog 9 = some 1 := by kernel_rfl
@[simp] theorem zr9 : zeroOf Try.prog 9 = some [.str ⟨#[]⟩] := by kernel_rfl
attribute [simp] Try.underlying10
@[simp] theorem ag10 : aggOf Try.prog 10 = some false := by kernel_rfl
@[simp] theorem sz10 : szOf Try.prog 10 = some 1 := by kernel_rfl
@[simp] theorem zr10 : zeroOf Try.prog 10 = some [.str ⟨#[]⟩] := by kernel_rfl
attribute [simp] Try.underlying11
@[simp] theorem ag11 : aggOf Try.prog 11 = some false := by kernel_rfl
@[simp] theorem sz11 : szOf Try.prog 11 = some 1 := by kernel_rfl
@[simp] theorem zr11 : zeroOf Try.prog 11 = some [.str ⟨#[]⟩] := by kernel_rfl
attribute [simp] Try.underlying12
@[simp] theorem ag12 : aggOf Try.prog 12 = some false := by kernel_rfl
@[simp] theorem sz12 : szOf Try.prog 12 = some 1 := by kernel_rfl
@[simp] theorem zr12 : zeroOf Try.prog 12 = some [.int .u64 0] := by kernel_rfl
attribute [simp] Try.underlying13
@[simp] theorem ag13 : aggOf Try.prog 13 = some true := by kernel_rfl
@[simp] theorem sz13 : szOf Try.prog 13 = some 2 := by kernel_rfl
@[simp] theorem zr13 : zeroOf Try.prog 13 = some [.str ⟨#[]⟩, .int .u64 0] := by kernel_rfl
@[simp] theorem pl13 : placesOf Try.prog 13 = some (fun i => ([(0, 1), (1, 1)] : List (Nat × Nat))[i]?) := by kernel_rfl
attribute [simp] Try.underlying14
@[simp] theorem ag14 : aggOf Try.prog 14 = some true := by kernel_rfl
@[simp] theorem sz14 : szOf Try.prog 14 = some 2 := by kernel_rfl
@[simp] theorem zr14 : zeroOf Try.prog 14 = some [.str ⟨#[]⟩, .int .u64 0] := by kernel_rfl
@[simp] theorem pl14 : placesOf Try.prog 14 = some (fun i => ([(0, 1), (1, 1)] : List (Nat × Nat))[i]?) := by kernel_rfl
attribute [simp] Try.underlying15
@[simp] theorem ag15 : aggOf Try.prog 15 = some false := by kernel_rfl
@[simp] theorem sz15 : szOf Try.prog 15 = some 1 := by kernel_rfl
@[simp] theorem zr15 : zeroOf Try.prog 15 = some [.nilp] := by kernel_rfl
attribute [simp] Try.underlying16
@[simp] theorem ag16 : aggOf Try.prog 16 = some false := by kernel_rfl
@[simp] theorem sz16 : szOf Try.prog 16 = some 1 := by kernel_rfl
@[simp] theorem zr16 : zeroOf Try.prog 16 = some [.nilp] := by kernel_rfl
attribute [simp] Try.underlying17
@[simp] theorem ag17 : aggOf Try.prog 17 = some false := by kernel_rfl
@[simp] theorem sz17 : szOf Try.prog 17 = some 1 := by kernel_rfl
@[simp] theorem zr17 : zeroOf Try.prog 17 = some [.nilp] := by kernel_rfl
attribute [simp] Try.underlying18
@[simp] theorem ag18 : aggOf Try.prog 18 = some true := by kernel_rfl
@[simp] theorem sz18 : szOf Try.prog 18 = some 1 := by kernel_rfl
@[simp] theorem zr18 : zeroOf Try.prog 18 = some [.nilp] := by kernel_rfl
@[simp] theorem pl18 : placesOf Try.prog 18 = some (fun i => ([(0, 1)] : List (Nat × Nat))[i]?) := by kernel_rfl
attribute [simp] Try.underlying19
@[simp] theorem ag19 : aggOf Try.prog 19 = some true := by kernel_rfl
@[simp] theorem sz19 : szOf Try.prog 19 = some 1 := by kernel_rfl
@[simp] theorem zr19 : zeroOf Try.prog 19 = some [.nilp] := by kernel_rfl
@[simp] theorem pl19 : placesOf Try.prog 19 = some (fun i => ([(0, 1)] : List (Nat × Nat))[i]?) := by kernel_rfl
attribute [simp] Try.underlying20
@[simp] theorem ag20 : aggOf Try.prog 20 = some false := by kernel_rfl
@[simp] theorem sz20 : szOf Try.prog 20 = some 1 := by kernel_rfl
@[simp] theorem zr20 : zeroOf Try.prog 20 = some [.ifc true] := by kernel_rfl
attribute [simp] Try.underlying21
@[simp] theorem ag21 : aggOf Try.prog 21 = some false := by kernel_rfl
@[simp] theorem sz21 : szOf Try.prog 21 = some 1 := by kernel_rfl
@[simp] theorem zr21 : zeroOf Try.prog 21 = some [.int .i32 0] := by kernel_rfl
attribute [simp] Try.underlying22
@[simp] theorem ag22 : aggOf Try.prog 22 = some false := by kernel_rfl
@[simp] theorem sz22 : szOf Try.prog 22 = some 1 := by kernel_rfl
@[simp] theorem zr22 : zeroOf Try.prog 22 = some [.nils] := by kernel_rfl
attribute [simp] Try.underlying23
@[simp] theorem ag23 : aggOf Try.prog 23 = some false := by kernel_rfl
@[simp] theorem sz23 : szOf Try.prog 23 = some 1 := by kernel_rfl
@[simp] theorem zr23 : zeroOf Try.prog 23 = some [.nilf] := by kernel_rfl
attribute [simp] Try.underlying24
@[simp] theorem ag24 : aggOf Try.prog 24 = some false := by kernel_rfl
@[simp] theorem sz24 : szOf Try.prog 24 = some 1 := by kernel_rfl
@[simp] theorem zr24 : zeroOf Try.prog 24 = some [.nils] := by kernel_rfl
attribute [simp] Try.underlying25
@[simp] theorem ag25 : aggOf Try.prog 25 = some false := by kernel_rfl
@[simp] theorem sz25 : szOf Try.prog 25 = some 1 := by kernel_rfl
@[simp] theorem zr25 : zeroOf Try.prog 25 = some [.nils] := by kernel_rfl
attribute [simp] Try.underlying26
@[simp] theorem ag26 : aggOf Try.prog 26 = some false := by kernel_rfl
@[simp] theorem sz26 : szOf Try.prog 26 = some 1 := by kernel_rfl
@[simp] theorem zr26 : zeroOf Try.prog 26 = some [.nils] := by kernel_rfl
attribute [simp] Try.underlying27
@[simp] theorem ag27 : aggOf Try.prog 27 = some true := by kernel_rfl
@[simp] theorem sz27 : szOf Try.prog 27 = some 4 := by kernel_rfl
@[simp] theorem zr27 : zeroOf Try.prog 27 = some [.nils, .nils, .nils, .nils] := by kernel_rfl
@[simp] theorem pl27 : placesOf Try.prog 27 = some (fun i => ([(0, 1), (1, 1), (2, 1), (3, 1)] : List (Nat × Nat))[i]?) := by kernel_rfl
attribute [simp] Try.underlying28
@[simp] theorem ag28 : aggOf Try.prog 28 = some true := by kernel_rfl
@[simp] theorem sz28 : szOf Try.prog 28 = some 4 := by kernel_rfl
@[simp] theorem zr28 : zeroOf Try.prog 28 = some [.nils, .nils, .nils, .nils] := by kernel_rfl
@[simp] theorem pl28 : placesOf Try.prog 28 = some (fun i => ([(0, 1), (1, 1), (2, 1), (3, 1)] : List (Nat × Nat))[i]?) := by kernel_rfl
attribute [simp] Try.underlying29
@[simp] theorem ag29 : aggOf Try.prog 29 = some false := by kernel_rfl
@[simp] theorem sz29 : szOf Try.prog 29 = some 1 := by kernel_rfl
@[simp] theorem zr29 : zeroOf Try.prog 29 = some [.nilf] := by kernel_rfl
attribute [simp] Try.underlying30
@[simp] theorem ag30 : aggOf Try.prog 30 = some false := by kernel_rfl
@[simp] theorem sz30 : szOf Try.prog 30 = some 1 := by kernel_rfl
@[simp] theorem zr30 : zeroOf Try.prog 30 = some [.nilf] := by kernel_rfl
attribute [simp] Try.underlying31
@[simp] theorem ag31 : aggOf Try.prog 31 = some false := by kernel_rfl
@[simp] theorem sz31 : szOf Try.prog 31 = some 1 := by kernel_rfl
@[simp] theorem zr31 : zeroOf Try.prog 31 = some [.flt .f32 0] := by kernel_rfl
attribute [simp] Try.underlying32
@[simp] theorem ag32 : aggOf Try.prog 32 = some true := by kernel_rfl
@[simp] theorem sz32 : szOf Try.prog 32 = some 3 := by kernel_rfl
@[simp] theorem zr32 : zeroOf Try.prog 32 = some [.int .i64 0, .int .i64 0, .flt .f32 0] := by kernel_rfl
@[simp] theorem pl32 : placesOf Try.prog 32 = some (fun i => ([(0, 1), (1, 1), (2, 1)] : List (Nat × Nat))[i]?) := by kernel_rfl
attribute [simp] Try.underlying33
@[simp] theorem ag33 : aggOf Try.prog 33 = some true := by kernel_rfl
@[simp] theorem sz33 : szOf Try.prog 33 = some 3 := by kernel_rfl
@[simp] theorem zr33 : zeroOf Try.prog 33 = some [.int .i64 0, .int .i64 0, .flt .f32 0] := by kernel_rfl
@[simp] theorem pl33 : placesOf Try.prog 33 = some (fun i => ([(0, 1), (1, 1), (2, 1)] : List (Nat × Nat))[i]?) := by kernel_rfl
attribute [simp] Try.underlying34
@[simp] theorem ag34 : aggOf Try.prog 34 = some false := by kernel_rfl
@[simp] theorem sz34 : szOf Try.prog 34 = some 1 := by kernel_rfl
attribute [simp] Try.underlying35
@[simp] theorem ag35 : aggOf Try.prog 35 = some false := by kernel_rfl
@[simp] theorem sz35 : szOf Try.prog 35 = some 1 := by kernel_rfl
@[simp] theorem zr35 : zeroOf Try.prog 35 = some [.nilf] := by kernel_rfl
attribute [simp] Try.underlying36
@[simp] theorem ag36 : aggOf Try.prog 36 = some false := by kernel_rfl
@[simp] theorem sz36 : szOf Try.prog 36 = some 1 := by kernel_rfl
@[simp] theorem zr36 : zeroOf Try.prog 36 = some [.nilf] := by kernel_rfl
attribute [simp] Try.underlying37
@[simp] theorem ag37 : aggOf Try.prog 37 = some true := by kernel_rfl
@[simp] theorem sz37 : szOf Try.prog 37 = some 3 := by kernel_rfl
@[simp] theorem zr37 : zeroOf Try.prog 37 = some [.flt .f32 0, .flt .f32 0, .flt .f32 0] := by kernel_rfl
@[simp] theorem pl37 : placesOf Try.prog 37 = some (fun i => ([(0, 1), (1, 1), (2, 1)] : List (Nat × Nat))[i]?) := by kernel_rfl
attribute [simp] Try.underlying38
@[simp] theorem ag38 : aggOf Try.prog 38 = some true := by kernel_rfl
@[simp] theorem sz38 : szOf Try.prog 38 = some 3 := by kernel_rfl
@[simp] theorem zr38 : zeroOf Try.prog 38 = some [.flt .f32 0, .flt .f32 0, .flt .f32 0] := by kernel_rfl
@[simp] theorem pl38 : placesOf Try.prog 38 = some (fun i => ([(0, 1), (1, 1), (2, 1)] : List (Nat × Nat))[i]?) := by kernel_rfl
attribute [simp] Try.underlying39
@[simp] theorem ag39 : aggOf Try.prog 39 = some false := by kernel_rfl
@[simp] theorem sz39 : szOf Try.prog 39 = some 1 := by kernel_rfl
@[simp] theorem zr39 : zeroOf Try.prog 39 = some [.flt .f64 0] := by kernel_rfl
attribute [simp] Try.underlying40
@[simp] theorem ag40 : aggOf Try.prog 40 = some false := by kernel_rfl
@[simp] theorem sz40 : szOf Try.prog 40 = some 1 := by kernel_rfl
@[simp] theorem zr40 : zeroOf Try.prog 40 = some [.nilf] := by kernel_rfl
attribute [simp] Try.underlying41
@[simp] theorem ag41 : aggOf Try.prog 41 = some false := by kernel_rfl
@[simp] theorem sz41 : szOf Try.prog 41 = some 1 := by kernel_rfl
@[simp] theorem zr41 : zeroOf Try.prog 41 = some [.nilf] := by kernel_rfl
attribute [simp] Try.underlying42
@[simp] theorem ag42 : aggOf Try.prog 42 = some false := by kernel_rfl
@[simp] theorem sz42 : szOf Try.prog 42 = some 1 := by kernel_rfl
@[simp] theorem zr42 : zeroOf Try.prog 42 = some [.nilf] := by kernel_rfl
attribute [simp] Try.underlying43
@[simp] theorem ag43 : aggOf Try.prog 43 = some false := by kernel_rfl
@[simp] theorem sz43 : szOf Try.prog 43 = some 1 := by kernel_rfl
@[simp] theorem zr43 : zeroOf Try.prog 43 = some [.nilf] := by kernel_rfl
attribute [simp] Try.underlying44
@[simp] theorem ag44 : aggOf Try.prog 44 = some false := by kernel_rfl
@[simp] theorem sz44 : szOf Try.prog 44 = some 1 := by kernel_rfl
@[simp] theorem zr44 : zeroOf Try.prog 44 = some [.nilf] := by kernel_rfl
attribute [simp] Try.underlying45
@[simp] theorem ag45 : aggOf Try.prog 45 = some false := by kernel_rfl
@[simp] theorem sz45 : szOf Try.prog 45 = some 1 := by kernel_rfl
@[simp] theorem zr45 : zeroOf Try.prog 45 = some [.nilf] := by kernel_rfl
attribute [simp] Try.underlying46
@[simp] theorem ag46 : aggOf Try.prog 46 = some false := by kernel_rfl
@[simp] theorem sz46 : szOf Try.prog 46 = some 1 := by kernel_rfl
@[simp] theorem zr46 : zeroOf Try.prog 46 = some [.nilf] := by kernel_rfl
attribute [simp] Try.underlying47
@[simp] theorem ag47 : aggOf Try.prog 47 = some false := by kernel_rfl
@[simp] theorem sz47 : szOf Try.prog 47 = some 1 := by kernel_rfl
@[simp] theorem zr47 : zeroOf Try.prog 47 = some [.nilf] := by kernel_rfl
attribute [simp] Try.underlying48
@[simp] theorem ag48 : aggOf Try.prog 48 = some false := by kernel_rfl
@[simp] theorem sz48 : szOf Try.prog 48 = some 1 := by kernel_rfl
attribute [simp] Try.underlying49
@[simp] theorem ag49 : aggOf Try.prog 49 = some false := by kernel_rfl
@[simp] theorem sz49 : szOf Try.prog 49 = some 1 := by kernel_rfl
@[simp] theorem zr49 : zeroOf Try.prog 49 = some [.nilf] := by kernel_rfl
attribute [simp] Try.underlying50
@[simp] theorem ag50 : aggOf Try.prog 50 = some false := by kernel_rfl
@[simp] theorem sz50 : szOf Try.prog 50 = some 1 := by kernel_rfl
@[simp] theorem zr50 : zeroOf Try.prog 50 = some [.nilf] := by kernel_rfl
attribute [simp] Try.underlying51
@[simp] theorem ag51 : aggOf Try.prog 51 = some false := by kernel_rfl
@[simp] theorem sz51 : szOf Try.prog 51 = some 1 := by kernel_rfl
@[simp] theorem zr51 : zeroOf Try.prog 51 = some [.nilf] := by kernel_rfl
attribute [simp] Try.underlying52
@[simp] theorem ag52 : aggOf Try.prog 52 = some true := by kernel_rfl
@[simp] theorem sz52 : szOf Try.prog 52 = some 8 := by kernel_rfl
@[simp] theorem zr52 : zeroOf Try.prog 52 = some [.int .i64 0, .int .i64 0, .flt .f32 0, .flt .f32 0, .flt .f32 0, .flt .f32 0, .flt .f32 0, .flt .f32 0] := by kernel_rfl
@[simp] theorem pl52 : placesOf Try.prog 52 = some (fun i => ([(0, 1), (1, 1), (2, 3), (5, 3)] : List (Nat × Nat))[i]?) := by kernel_rfl
attribute [simp] Try.underlying53
@[simp] theorem ag53 : aggOf Try.prog 53 = some true := by kernel_rfl
@[simp] theorem sz53 : szOf Try.prog 53 = some 8 := by kernel_rfl
@[simp] theorem zr53 : zeroOf Try.prog 53 = some [.int .i64 0, .int .i64 0, .flt .f32 0, .flt .f32 0, .flt .f32 0, .flt .f32 0, .flt .f32 0, .flt .f32 0] := by kernel_rfl
@[simp] theorem pl53 : placesOf Try.prog 53 = some (fun i => ([(0, 1), (1, 1), (2, 3), (5, 3)] : List (Nat × Nat))[i]?) := by kernel_rfl
attribute [simp] Try.underlying54
@[simp] theorem ag54 : aggOf Try.prog 54 = some false := by kernel_rfl
@[simp] theorem sz54 : szOf Try.prog 54 = some 1 := by kernel_rfl
attribute [simp] Try.underlying55
@[simp] theorem ag55 : aggOf Try.prog 55 = some false := by kernel_rfl
@[simp] theorem sz55 : szOf Try.prog 55 = some 1 := by kernel_rfl
@[simp] theorem zr55 : zeroOf Try.prog 55 = some [.nilf] := by kernel_rfl
attribute [simp] Try.underlying56
@[simp] theorem ag56 : aggOf Try.prog 56 = some false := by kernel_rfl
@[simp] theorem sz56 : szOf Try.prog 56 = some 1 := by kernel_rfl
@[simp] theorem zr56 : zeroOf Try.prog 56 = some [.nilf] := by kernel_rfl
attribute [simp] Try.underlying57
@[simp] theorem ag57 : aggOf Try.prog 57 = some false := by kernel_rfl
@[simp] theorem sz57 : szOf Try.prog 57 = some 1 := by kernel_rfl
@[simp] theorem zr57 : zeroOf Try.prog 57 = some [.nilf] := by kernel_rfl
attribute [simp] Try.underlying58
@[simp] theorem ag58 : aggOf Try.prog 58 = some false := by kernel_rfl
@[simp] theorem sz58 : szOf Try.prog 58 = some 1 := by kernel_rfl
@[simp] theorem zr58 : zeroOf Try.prog 58 = some [.nils] := by kernel_rfl
attribute [simp] Try.underlying59
@[simp] theorem ag59 : aggOf Try.prog 59 = some true := by kernel_rfl
@[simp] theorem sz59 : szOf Try.prog 59 = some 2 := by kernel_rfl
@[simp] theorem zr59 : zeroOf Try.prog 59 = some [.nils, .nils] := by kernel_rfl
@[simp] theorem pl59 : placesOf Try.prog 59 = some (fun i => ([(0, 1), (1, 1)] : List (Nat × Nat))[i]?) := by kernel_rfl
attribute [simp] Try.underlying60
@[simp] theorem ag60 : aggOf Try.prog 60 = some true := by kernel_rfl
@[simp] theorem sz60 : szOf Try.prog 60 = some 2 := by kernel_rfl
@[simp] theorem zr60 : zeroOf Try.prog 60 = some [.nils, .nils] := by kernel_rfl
@[simp] theorem pl60 : placesOf Try.prog 60 = some (fun i => ([(0, 1), (1, 1)] : List (Nat × Nat))[i]?) := by kernel_rfl
attribute [simp] Try.underlying61
@[simp] theorem ag61 : aggOf Try.prog 61 = some false := by kernel_rfl
@[simp] theorem sz61 : szOf Try.prog 61 = some 1 := by kernel_rfl
@[simp] theorem zr61 : zeroOf Try.prog 61 = some [.nilf] := by kernel_rfl
attribute [simp] Try.underlying62
@[simp] theorem ag62 : aggOf Try.prog 62 = some false := by kernel_rfl
@[simp] theorem sz62 : szOf Try.prog 62 = some 1 := by kernel_rfl
@[simp] theorem zr62 : zeroOf Try.prog 62 = some [.nils] := by kernel_rfl
attribute [simp] Try.underlying63
@[simp] theorem ag63 : aggOf Try.prog 63 = some false := by kernel_rfl
@[simp] theorem sz63 : szOf Try.prog 63 = some 1 := by kernel_rfl
@[simp] theorem zr63 : zeroOf Try.prog 63 = some [.nilf] := by kernel_rfl
attribute [simp] Try.underlying64
@[simp] theorem ag64 : aggOf Try.prog 64 = some false := by kernel_rfl
@[simp] theorem sz64 : szOf Try.prog 64 = some 1 := by kernel_rfl
attribute [simp] Try.underlying65
@[simp] theorem ag65 : aggOf Try.prog 65 = some false := by kernel_rfl
@[simp] theorem sz65 : szOf Try.prog 65 = some 1 := by kernel_rfl
@[simp] theorem zr65 : zeroOf Try.prog 65 = some [.nilf] := by kernel_rfl
attribute [simp] Try.underlying66
@[simp] theorem ag66 : aggOf Try.prog 66 = some false := by kernel_rfl
@[simp] theorem sz66 : szOf Try.prog 66 = some 1 := by kernel_rfl
@[simp] theorem zr66 : zeroOf Try.prog 66 = some [.nilf] := by kernel_rfl
attribute [simp] Try.underlying67
@[simp] theorem ag67 : aggOf Try.prog 67 = some false := by kernel_rfl
@[simp] theorem sz67 : szOf Try.prog 67 = some 1 := by kernel_rfl
attribute [simp] Try.underlying68
@[simp] theorem ag68 : aggOf Try.prog 68 = some false := by kernel_rfl
@[simp] theorem sz68 : szOf Try.prog 68 = some 1 := by kernel_rfl
@[simp] theorem zr68 : zeroOf Try.prog 68 = some [.nilf] := by kernel_rfl
attribute [simp] Try.underlying69
@[simp] theorem ag69 : aggOf Try.prog 69 = some false := by kernel_rfl
@[simp] theorem sz69 : szOf Try.prog 69 = some 1 := by kernel_rfl
attribute [simp] Try.underlying70
@[simp] theorem ag70 : aggOf Try.prog 70 = some false := by kernel_rfl
@[simp] theorem sz70 : szOf Try.prog 70 = some 1 := by kernel_rfl
@[simp] theorem zr70 : zeroOf Try.prog 70 = some [.nilf] := by kernel_rfl
attribute [simp] Try.underlying71
@[simp] theorem ag71 : aggOf Try.prog 71 = some false := by kernel_rfl
@[simp] theorem sz71 : szOf Try.prog 71 = some 1 := by kernel_rfl
@[simp] theorem zr71 : zeroOf Try.prog 71 = some [.nilf] := by kernel_rfl
attribute [simp] Try.underlying72
@[simp] theorem ag72 : aggOf Try.prog 72 = some false := by kernel_rfl
@[simp] theorem sz72 : szOf Try.prog 72 = some 1 := by kernel_rfl
@[simp] theorem zr72 : zeroOf Try.prog 72 = some [.nilf] := by kernel_rfl
attribute [simp] Try.underlying73
@[simp] theorem ag73 : aggOf Try.prog 73 = some false := by kernel_rfl
@[simp] theorem sz73 : szOf Try.prog 73 = some 1 := by kernel_rfl
attribute [simp] Try.underlying74
@[simp] theorem ag74 : aggOf Try.prog 74 = some false := by kernel_rfl
@[simp] theorem sz74 : szOf Try.prog 74 = some 1 := by kernel_rfl
@[simp] theorem zr74 : zeroOf Try.prog 74 = some [.nilf] := by kernel_rfl
attribute [simp] Try.underlying75
@[simp] theorem ag75 : aggOf Try.prog 75 = some false := by kernel_rfl
@[simp] theorem sz75 : szOf Try.prog 75 = some 1 := by kernel_rfl
@[simp] theorem zr75 : zeroOf Try.prog 75 = some [.nilf] := by kernel_rfl
attribute [simp] Try.underlying76
@[simp] theorem ag76 : aggOf Try.prog 76 = some false := by kernel_rfl
@[simp] theorem sz76 : szOf Try.prog 76 = some 1 := by kernel_rfl
attribute [simp] Try.underlying77
@[simp] theorem ag77 : aggOf Try.prog 77 = some false := by kernel_rfl
@[simp] theorem sz77 : szOf Try.prog 77 = some 1 := by kernel_rfl
@[simp] theorem zr77 : zeroOf Try.prog 77 = some [.nilf] := by kernel_rfl
attribute [simp] Try.underlying78
@[simp] theorem ag78 : aggOf Try.prog 78 = some false := by kernel_rfl
@[simp] theorem sz78 : szOf Try.prog 78 = some 1 := by kernel_rfl
@[simp] theorem zr78 : zeroOf Try.prog 78 = some [.nils] := by kernel_rfl
attribute [simp] Try.underlying79
@[simp] theorem ag79 : aggOf Try.prog 79 = some false := by kernel_rfl
@[simp] theorem sz79 : szOf Try.prog 79 = some 1 := by kernel_rfl
attribute [simp] Try.underlying80
@[simp] theorem ag80 : aggOf Try.prog 80 = some false := by kernel_rfl
@[simp] theorem sz80 : szOf Try.prog 80 = some 1 := by kernel_rfl
@[simp] theorem zr80 : zeroOf Try.prog 80 = some [.nilf] := by kernel_rfl
attribute [simp] Try.underlying81
@[simp] theorem ag81 : aggOf Try.prog 81 = some false := by kernel_rfl
@[simp] theorem sz81 : szOf Try.prog 81 = some 1 := by kernel_rfl
@[simp] theorem zr81 : zeroOf Try.prog 81 = some [.nilf] := by kernel_rfl
attribute [simp] Try.underlying82
@[simp] theorem ag82 : aggOf Try.prog 82 = some false := by kernel_rfl
@[simp] theorem sz82 : szOf Try.prog 82 = some 1 := by kernel_rfl
@[simp] theorem zr82 : zeroOf Try.prog 82 = some [.nilf] := by kernel_rfl
attribute [simp] Try.underlying83
@[simp] theorem ag83 : aggOf Try.prog 83 = some false := by kernel_rfl
@[simp] theorem sz83 : szOf Try.prog 83 = some 1 := by kernel_rfl
@[simp] theorem zr83 : zeroOf Try.prog 83 = some [.nilf] := by kernel_rfl
attribute [simp] Try.underlying84
@[simp] theorem ag84 : aggOf Try.prog 84 = some false := by kernel_rfl
@[simp] theorem sz84 : szOf Try.prog 84 = some 1 := by kernel_rfl
@[simp] theorem zr84 : zeroOf Try.prog 84 = some [.nilp] := by kernel_rfl
attribute [simp] Try.underlying85
@[simp] theorem ag85 : aggOf Try.prog 85 = some false := by kernel_rfl
@[simp] theorem sz85 : szOf Try.prog 85 = some 1 := by kernel_rfl
@[simp] theorem zr85 : zeroOf Try.prog 85 = some [.nilf] := by kernel_rfl
attribute [simp] Try.underlying86
@[simp] theorem ag86 : aggOf Try.prog 86 = some false := by kernel_rfl
@[simp] theorem sz86 : szOf Try.prog 86 = some 1 := by kernel_rfl
@[simp] theorem zr86 : zeroOf Try.prog 86 = some [.nilf] := by kernel_rfl
attribute [simp] Try.underlying87
@[simp] theorem ag87 : aggOf Try.prog 87 = some false := by kernel_rfl
@[simp] theorem sz87 : szOf Try.prog 87 = some 1 := by kernel_rfl
@[simp] theorem zr87 : zeroOf Try.prog 87 = some [.nilf] := by kernel_rfl
attribute [simp] Try.underlying88
@[simp] theorem ag88 : aggOf Try.prog 88 = some false := by kernel_rfl
@[simp] theorem sz88 : szOf Try.prog 88 = some 1 := by kernel_rfl
@[simp] theorem zr88 : zeroOf Try.prog 88 = some [.nilf] := by kernel_rfl
attribute [simp] Try.underlying89
@[simp] theorem ag89 : aggOf Try.prog 89 = some false := by kernel_rfl
@[simp] theorem sz89 : szOf Try.prog 89 = some 1 := by kernel_rfl
@[simp] theorem zr89 : zeroOf Try.prog 89 = some [.nilf] := by kernel_rfl
attribute [simp] Try.underlying90
@[simp] theorem ag90 : aggOf Try.prog 90 = some false := by kernel_rfl
@[simp] theorem sz90 : szOf Try.prog 90 = some 1 := by kernel_rfl
@[simp] theorem zr90 : zeroOf Try.prog 90 = some [.nilf] := by kernel_rfl
attribute [simp] Try.underlying91
@[simp] theorem ag91 : aggOf Try.prog 91 = some false := by kernel_rfl
@[simp] theorem sz91 : szOf Try.prog 91 = some 1 := by kernel_rfl
@[simp] theorem zr91 : zeroOf Try.prog 91 = some [.nils] := by kernel_rfl
attribute [simp] Try.underlying92
@[simp] theorem ag92 : aggOf Try.prog 92 = some false := by kernel_rfl
@[simp] theorem sz92 : szOf Try.prog 92 = some 1 := by kernel_rfl
@[simp] theorem zr92 : zeroOf Try.prog 92 = some [.nilf] := by kernel_rfl
attribute [simp] Try.underlying93
@[simp] theorem ag93 : aggOf Try.prog 93 = some false := by kernel_rfl
@[simp] theorem sz93 : szOf Try.prog 93 = some 1 := by kernel_rfl
@[simp] theorem zr93 : zeroOf Try.prog 93 = some [.nilf] := by kernel_rfl
attribute [simp] Try.underlying94
@[simp] theorem ag94 : aggOf Try.prog 94 = some false := by kernel_rfl
@[simp] theorem sz94 : szOf Try.prog 94 = some 1 := by kernel_rfl
@[simp] theorem zr94 : zeroOf Try.prog 94 = some [.nilf] := by kernel_rfl
attribute [simp] Try.underlying95
@[simp] theorem ag95 : aggOf Try.prog 95 = some false := by kernel_rfl
@[simp] theorem sz95 : szOf Try.prog 95 = some 1 := by kernel_rfl
@[simp] theorem zr95 : zeroOf Try.prog 95 = some [.nilf] := by kernel_rfl
attribute [simp] Try.underlying96
@[simp] theorem ag96 : aggOf Try.prog 96 = some false := by kernel_rfl
@[simp] theorem sz96 : szOf Try.prog 96 = some 1 := by kernel_rfl
@[simp] theorem zr96 : zeroOf Try.prog 96 = some [.nilf] := by kernel_rfl
attribute [simp] Try.underlying97
@[simp] theorem ag97 : aggOf Try.prog 97 = some false := by kernel_rfl
@[simp] theorem sz97 : szOf Try.prog 97 = some 1 := by kernel_rfl
@[simp] theorem zr97 : zeroOf Try.prog 97 = some [.nilf] := by kernel_rfl
attribute [simp] Try.underlying98
@[simp] theorem ag98 : aggOf Try.prog 98 = some false := by kernel_rfl
@[simp] theorem sz98 : szOf Try.prog 98 = some 1 := by kernel_rfl
@[simp] theorem zr98 : zeroOf Try.prog 98 = some [.nilf] := by kernel_rfl
attribute [simp] Try.underlying99
@[simp] theorem ag99 : aggOf Try.prog 99 = some false := by kernel_rfl
@[simp] theorem sz99 : szOf Try.prog 99 = some 1 := by kernel_rfl
@[simp] theorem zr99 : zeroOf Try.prog 99 = some [.nilf] := by kernel_rfl
attribute [simp] Try.underlying100
@[simp] theorem ag100 : aggOf Try.prog 100 = some false := by kernel_rfl
@[simp] theorem sz100 : szOf Try.prog 100 = some 1 := by kernel_rfl
@[simp] theorem zr100 : zeroOf Try.prog 100 = some [.nilf] := by kernel_rfl
attribute [simp] Try.underlying101
@[simp] theorem ag101 : aggOf Try.prog 101 = some false := by kernel_rfl
@[simp] theorem sz101 : szOf Try.prog 101 = some 1 := by kernel_rfl
@[simp] theorem zr101 : zeroOf Try.prog 101 = some [.nilf] := by kernel_rfl
attribute [simp] Try.underlying102
@[simp] theorem ag102 : aggOf Try.prog 102 = some false := by kernel_rfl
@[simp] theorem sz102 : szOf Try.prog 102 = some 1 := by kernel_rfl
@[simp] theorem zr102 : zeroOf Try.prog 102 = some [.nilf] := by kernel_rfl
attribute [simp] Try.underlying103
@[simp] theorem ag103 : aggOf Try.prog 103 = some false := by kernel_rfl
@[simp] theorem sz103 : szOf Try.prog 103 = some 1 := by kernel_rfl
@[simp] theorem zr103 : zeroOf Try.prog 103 = some [.nilf] := by kernel_rfl
attribute [simp] Try.underlying104
@[simp] theorem ag104 : aggOf Try.prog 104 = some false := by kernel_rfl
@[simp] theorem sz104 : szOf Try.prog 104 = some 1 := by kernel_rfl
@[simp] theorem zr104 : zeroOf Try.prog 104 = some [.nilf] := by kernel_rfl
attribute [simp] Try.underlying105
@[simp] theorem ag105 : aggOf Try.prog 105 = some false := by kernel_rfl
@[simp] theorem sz105 : szOf Try.prog 105 = some 1 := by kernel_rfl
@[simp] theorem zr105 : zeroOf Try.prog 105 = some [.nilf] := by kernel_rfl
attribute [simp] Try.underlying106
@[simp] theorem ag106 : aggOf Try.prog 106 = some false := by kernel_rfl
@[simp] theorem sz106 : szOf Try.prog 106 = some 1 := by kernel_rfl
@[simp] theorem zr106 : zeroOf Try.prog 106 = some [.nilf] := by kernel_rfl
attribute [simp] Try.underlying107
@[simp] theorem ag107 : aggOf Try.prog 107 = some false := by kernel_rfl
@[simp] theorem sz107 : szOf Try.prog 107 = some 1 := by kernel_rfl
@[simp] theorem zr107 : zeroOf Try.prog 107 = some [.nilf] := by kernel_rfl
attribute [simp] Try.underlying108
@[simp] theorem ag108 : aggOf Try.prog 108 = some false := by kernel_rfl
@[simp] theorem sz108 : szOf Try.prog 108 = some 1 := by kernel_rfl
@[simp] theorem zr108 : zeroOf Try.prog 108 = some [.nilf] := by kernel_rfl
attribute [simp] Try.underlying109
@[simp] theorem ag109 : aggOf Try.prog 109 = some false := by kernel_rfl
@[simp] theorem sz109 : szOf Try.prog 109 = some 1 := by kernel_rfl
@[simp] theorem zr109 : zeroOf Try.prog 109 = some [.nilp] := by kernel_rfl
attribute [simp] Try.underlying110
@[simp] theorem ag110 : aggOf Try.prog 110 = some false := by kernel_rfl
@[simp] theorem sz110 : szOf Try.prog 110 = some 1 := by kernel_rfl
@[simp] theorem zr110 : zeroOf Try.prog 110 = some [.nilf] := by kernel_rfl
attribute [simp] Try.underlying111
@[simp] theorem ag111 : aggOf Try.prog 111 = some false := by kernel_rfl
@[simp] theorem sz111 : szOf Try.prog 111 = some 1 := by kernel_rfl
@[simp] theorem zr111 : zeroOf Try.prog 111 = some [.nilf] := by kernel_rfl
attribute [simp] Try.underlying112
@[simp] theorem ag112 : aggOf Try.prog 112 = some false := by kernel_rfl
@[simp] theorem sz112 : szOf Try.prog 112 = some 1 := by kernel_rfl
@[simp] theorem zr112 : zeroOf Try.prog 112 = some [.nils] := by kernel_rfl
attribute [simp] Try.underlying113
@[simp] theorem ag113 : aggOf Try.prog 113 = some false := by kernel_rfl
@[simp] theorem sz113 : szOf Try.prog 113 = some 1 := by kernel_rfl
@[simp] theorem zr113 : zeroOf Try.prog 113 = some [.nilf] := by kernel_rfl
attribute [simp] Try.underlying114
@[simp] theorem ag114 : aggOf Try.prog 114 = some true := by kernel_rfl
@[simp] theorem sz114 : szOf Try.prog 114 = some 2 := by kernel_rfl
@[simp] theorem zr114 : zeroOf Try.prog 114 = some [.int .i64 0, .int .i64 0] := by kernel_rfl
@[simp] theorem pl114 : placesOf Try.prog 114 = some (fun i => some (i * 1, 1)) := by kernel_rfl
attribute [simp] Try.underlying115
@[simp] theorem ag115 : aggOf Try.prog 115 = some true := by kernel_rfl
@[simp] theorem sz115 : szOf Try.prog 115 = some 2 := by kernel_rfl
@[simp] theorem zr115 : zeroOf Try.prog 115 = some [.int .i64 0, .int .i64 0] := by kernel_rfl
@[simp] theorem pl115 : placesOf Try.prog 115 = some (fun i => some (i * 1, 1)) := by kernel_rfl
attribute [simp] Try.underlying116
@[simp] theorem ag116 : aggOf Try.prog 116 = some false := by kernel_rfl
@[simp] theorem sz116 : szOf Try.prog 116 = some 1 := by kernel_rfl
@[simp] theorem zr116 : zeroOf Try.prog 116 = some [.nilf] := by kernel_rfl
attribute [simp] Try.underlying117
@[simp] theorem ag117 : aggOf Try.prog 117 = some false := by kernel_rfl
@[simp] theorem sz117 : szOf Try.prog 117 = some 1 := by kernel_rfl
@[simp] theorem zr117 : zeroOf Try.prog 117 = some [.any] := by kernel_rfl
attribute [simp] Try.underlying118
@[simp] theorem ag118 : aggOf Try.prog 118 = some false := by kernel_rfl
@[simp] theorem sz118 : szOf Try.prog 118 = some 1 := by kernel_rfl
attribute [simp] Try.underlying119
@[simp] theorem ag119 : aggOf Try.prog 119 = some false := by kernel_rfl
@[simp] theorem sz119 : szOf Try.prog 119 = some 1 := by kernel_rfl
@[simp] theorem zr119 : zeroOf Try.prog 119 = some [.nilf] := by kernel_rfl
attribute [simp] Try.underlying120
@[simp] theorem ag120 : aggOf Try.prog 120 = some false := by kernel_rfl
@[simp] theorem sz120 : szOf Try.prog 120 = some 1 := by kernel_rfl
@[simp] theorem zr120 : zeroOf Try.prog 120 = some [.nilf] := by kernel_rfl
attribute [simp] Try.underlying121
@[simp] theorem ag121 : aggOf Try.prog 121 = some false := by kernel_rfl
@[simp] theorem sz121 : szOf Try.prog 121 = some 1 := by kernel_rfl
@[simp] theorem zr121 : zeroOf Try.prog 121 = some [.nilf] := by kernel_rfl
attribute [simp] Try.underlying122
@[simp] theorem ag122 : aggOf Try.prog 122 = some false := by kernel_rfl
@[simp] theorem sz122 : szOf Try.prog 122 = some 1 := by kernel_rfl
@[simp] theorem zr122 : zeroOf Try.prog 122 = some [.nilf] := by kernel_rfl
attribute [simp] Try.underlying123
@[simp] theorem ag123 : aggOf Try.prog 123 = some false := by kernel_rfl
@[simp] theorem sz123 : szOf Try.prog 123 = some 1 := by kernel_rfl
@[simp] theorem zr123 : zeroOf Try.prog 123 = some [.nilf] := by kernel_rfl
attribute [simp] Try.underlying124
@[simp] theorem ag124 : aggOf Try.prog 124 = some false := by kernel_rfl
@[simp] theorem sz124 : szOf Try.prog 124 = some 1 := by kernel_rfl
@[simp] theorem zr124 : zeroOf Try.prog 124 = some [.nilf] := by kernel_rfl
attribute [simp] Try.underlying125
@[simp] theorem ag125 : aggOf Try.prog 125 = some false := by kernel_rfl
@[simp] theorem sz125 : szOf Try.prog 125 = some 1 := by kernel_rfl
@[simp] theorem zr125 : zeroOf Try.prog 125 = some [.int .u64 0] := by kernel_rfl
attribute [simp] Try.underlying126
@[simp] theorem ag126 : aggOf Try.prog 126 = some true := by kernel_rfl
@[simp] theorem sz126 : szOf Try.prog 126 = some 3 := by kernel_rfl
@[simp] theorem zr126 : zeroOf Try.prog 126 = some [.nils, .int .i64 0, .int .u64 0] := by kernel_rfl
@[simp] theorem pl126 : placesOf Try.prog 126 = some (fun i => ([(0, 1), (1, 1), (2, 1)] : List (Nat × Nat))[i]?) := by kernel_rfl
attribute [simp] Try.underlying127
@[simp] theorem ag127 : aggOf Try.prog 127 = some true := by kernel_rfl
@[simp] theorem sz127 : szOf Try.prog 127 = some 3 := by kernel_rfl
@[simp] theorem zr127 : zeroOf Try.prog 127 = some [.nils, .int .i64 0, .int .u64 0] := by kernel_rfl
@[simp] theorem pl127 : placesOf Try.prog 127 = some (fun i => ([(0, 1), (1, 1), (2, 1)] : List (Nat × Nat))[i]?) := by kernel_rfl
attribute [simp] Try.underlying128
@[simp] theorem ag128 : aggOf Try.prog 128 = some false := by kernel_rfl
@[simp] theorem sz128 : szOf Try.prog 128 = some 1 := by kernel_rfl
@[simp] theorem zr128 : zeroOf Try.prog 128 = some [.nilf] := by kernel_rfl
attribute [simp] Try.underlying129
@[simp] theorem ag129 : aggOf Try.prog 129 = some false := by kernel_rfl
@[simp] theorem sz129 : szOf Try.prog 129 = some 1 := by kernel_rfl
@[simp] theorem zr129 : zeroOf Try.prog 129 = some [.nilp] := by kernel_rfl
attribute [simp] Try.underlying130
@[simp] theorem ag130 : aggOf Try.prog 130 = some false := by kernel_rfl
@[simp] theorem sz130 : szOf Try.prog 130 = some 1 := by kernel_rfl
@[simp] theorem zr130 : zeroOf Try.prog 130 = some [.nilf] := by kernel_rfl
attribute [simp] Try.underlying131
@[simp] theorem ag131 : aggOf Try.prog 131 = some false := by kernel_rfl
@[simp] theorem sz131 : szOf Try.prog 131 = some 1 := by kernel_rfl
@[simp] theorem zr131 : zeroOf Try.prog 131 = some [.nilf] := by kernel_rfl
attribute [simp] Try.underlying132
@[simp] theorem ag132 : aggOf Try.prog 132 = some false := by kernel_rfl
@[simp] theorem sz132 : szOf Try.prog 132 = some 1 := by kernel_rfl
@[simp] theorem zr132 : zeroOf Try.prog 132 = some [.nilf] := by kernel_rfl
attribute [simp] Try.underlying133
@[simp] theorem ag133 : aggOf Try.prog 133 = some false := by kernel_rfl
@[simp] theorem sz133 : szOf Try.prog 133 = some 1 := by kernel_rfl
@[simp] theorem zr133 : zeroOf Try.prog 133 = some [.nilf] := by kernel_rfl
attribute [simp] Try.underlying134
@[simp] theorem ag134 : aggOf Try.prog 134 = some false := by kernel_rfl
@[simp] theorem sz134 : szOf Try.prog 134 = some 1 := by kernel_rfl
@[simp] theorem zr134 : zeroOf Try.prog 134 = some [.nilf] := by kernel_rfl
attribute [simp] Try.underlying135
@[simp] theorem ag135 : aggOf Try.prog 135 = some false := by kernel_rfl
@[simp] theorem sz135 : szOf Try.prog 135 = some 1 := by kernel_rfl
@[simp] theorem zr135 : zeroOf Try.prog 135 = some [.nilf] := by kernel_rfl
attribute [simp] Try.underlying136
@[simp] theorem ag136 : aggOf Try.prog 136 = some false := by kernel_rfl
@[simp] theorem sz136 : szOf Try.prog 136 = some 1 := by kernel_rfl
@[simp] theorem zr136 : zeroOf Try.prog 136 = some [.nilf] := by kernel_rfl
attribute [simp] Try.underlying137
@[simp] theorem ag137 : aggOf Try.prog 137 = some false := by kernel_rfl
@[simp] theorem sz137 : szOf Try.prog 137 = some 1 := by kernel_rfl
@[simp] theorem zr137 : zeroOf Try.prog 137 = some [.nilf] := by kernel_rfl
attribute [simp] Try.underlying138
@[simp] theorem ag138 : aggOf Try.prog 138 = some false := by kernel_rfl
@[simp] theorem sz138 : szOf Try.prog 138 = some 1 := by kernel_rfl
@[simp] theorem zr138 : zeroOf Try.prog 138 = some [.nilf] := by kernel_rfl
attribute [simp] Try.underlying139
@[simp] theorem ag139 : aggOf Try.prog 139 = some false := by kernel_rfl
@[simp] theorem sz139 : szOf Try.prog 139 = some 1 := by kernel_rfl
@[simp] theorem zr139 : zeroOf Try.prog 139 = some [.nilf] := by kernel_rfl
attribute [simp] Try.underlying140
@[simp] theorem ag140 : aggOf Try.prog 140 = some false := by kernel_rfl
@[simp] theorem sz140 : szOf Try.prog 140 = some 1 := by kernel_rfl
@[simp] theorem zr140 : zeroOf Try.prog 140 = some [.nilf] := by kernel_rfl
attribute [simp] Try.underlying141
@[simp] theorem ag141 : aggOf Try.prog 141 = some false := by kernel_rfl
@[simp] theorem sz141 : szOf Try.prog 141 = some 1 := by kernel_rfl
@[simp] theorem zr141 : zeroOf Try.prog 141 = some [.nilf] := by kernel_rfl
attribute [simp] Try.underlying142
@[simp] theorem ag142 : aggOf Try.prog 142 = some false := by kernel_rfl
@[simp] theorem sz142 : szOf Try.prog 142 = some 1 := by kernel_rfl
@[simp] theorem zr142 : zeroOf Try.prog 142 = some [.int .u64 0] := by kernel_rfl
attribute [simp] Try.underlying143
@[simp] theorem ag143 : aggOf Try.prog 143 = some false := by kernel_rfl
@[simp] theorem sz143 : szOf Try.prog 143 = some 1 := by kernel_rfl
@[simp] theorem zr143 : zeroOf Try.prog 143 = some [.nilf] := by kernel_rfl
attribute [simp] Try.underlying144
@[simp] theorem ag144 : aggOf Try.prog 144 = some false := by kernel_rfl
@[simp] theorem sz144 : szOf Try.prog 144 = some 1 := by kernel_rfl
@[simp] theorem zr144 : zeroOf Try.prog 144 = some [.nilf] := by kernel_rfl
attribute [simp] Try.underlying145
@[simp] theorem ag145 : aggOf Try.prog 145 = some false := by kernel_rfl
@[simp] theorem sz145 : szOf Try.prog 145 = some 1 := by kernel_rfl
@[simp] theorem zr145 : zeroOf Try.prog 145 = some [.nilf] := by kernel_rfl
attribute [simp] Try.underlying146
@[simp] theorem ag146 : aggOf Try.prog 146 = some false := by kernel_rfl
@[simp] theorem sz146 : szOf Try.prog 146 = some 1 := by kernel_rfl
@[simp] theorem zr146 : zeroOf Try.prog 146 = some [.nilf] := by kernel_rfl
attribute [simp] Try.underlying147
@[simp] theorem ag147 : aggOf Try.prog 147 = some false := by kernel_rfl
@[simp] theorem sz147 : szOf Try.prog 147 = some 1 := by kernel_rfl
@[simp] theorem zr147 : zeroOf Try.prog 147 = some [.nilf] := by kernel_rfl
attribute [simp] Try.underlying148
@[simp] theorem ag148 : aggOf Try.prog 148 = some false := by kernel_rfl
@[simp] theorem sz148 : szOf Try.prog 148 = some 1 := by kernel_rfl
@[simp] theorem zr148 : zeroOf Try.prog 148 = some [.nilf] := by kernel_rfl
attribute [simp] Try.underlying149
@[simp] theorem ag149 : aggOf Try.prog 149 = some false := by kernel_rfl
@[simp] theorem sz149 : szOf Try.prog 149 = some 1 := by kernel_rfl
@[simp] theorem zr149 : zeroOf Try.prog 149 = some [.nilf] := by kernel_rfl
attribute [simp] Try.underlying150
@[simp] theorem ag150 : aggOf Try.prog 150 = some false := by kernel_rfl
@[simp] theorem sz150 : szOf Try.prog 150 = some 1 := by kernel_rfl
@[simp] theorem zr150 : zeroOf Try.prog 150 = some [.nilf] := by kernel_rfl
attribute [simp] Try.underlying151
@[simp] theorem ag151 : aggOf Try.prog 151 = some false := by kernel_rfl
@[simp] theorem sz151 : szOf Try.prog 151 = some 1 := by kernel_rfl
@[simp] theorem zr151 : zeroOf Try.prog 151 = some [.nilf] := by kernel_rfl
attribute [simp] Try.underlying152
@[simp] theorem ag152 : aggOf Try.prog 152 = some false := by kernel_rfl
@[simp] theorem sz152 : szOf Try.prog 152 = some 1 := by kernel_rfl
@[simp] theorem zr152 : zeroOf Try.prog 152 = some [.int .i64 0] := by kernel_rfl
attribute [simp] Try.underlying153
@[simp] theorem ag153 : aggOf Try.prog 153 = some false := by kernel_rfl
@[simp] theorem sz153 : szOf Try.prog 153 = some 1 := by kernel_rfl
attribute [simp] Try.underlying154
@[simp] theorem ag154 : aggOf Try.prog 154 = some false := by kernel_rfl
@[simp] theorem sz154 : szOf Try.prog 154 = some 1 := by kernel_rfl
@[simp] theorem zr154 : zeroOf Try.prog 154 = some [.nilf] := by kernel_rfl
attribute [simp] Try.underlying155
@[simp] theorem ag155 : aggOf Try.prog 155 = some false := by kernel_rfl
@[simp] theorem sz155 : szOf Try.prog 155 = some 1 := by kernel_rfl
@[simp] theorem zr155 : zeroOf Try.prog 155 = some [.nilf] := by kernel_rfl
attribute [simp] Try.underlying156
@[simp] theorem ag156 : aggOf Try.prog 156 = some false := by kernel_rfl
@[simp] theorem sz156 : szOf Try.prog 156 = some 1 := by kernel_rfl
@[simp] theorem zr156 : zeroOf Try.prog 156 = some [.nilf] := by kernel_rfl
attribute [simp] Try.underlying157
@[simp] theorem ag157 : aggOf Try.prog 157 = some false := by kernel_rfl
@[simp] theorem sz157 : szOf Try.prog 157 = some 1 := by kernel_rfl
attribute [simp] Try.underlying158
@[simp] theorem ag158 : aggOf Try.prog 158 = some false := by kernel_rfl
@[simp] theorem sz158 : szOf Try.prog 158 = some 1 := by kernel_rfl
@[simp] theorem zr158 : zeroOf Try.prog 158 = some [.nilf] := by kernel_rfl
attribute [simp] Try.underlying159
@[simp] theorem ag159 : aggOf Try.prog 159 = some false := by kernel_rfl
@[simp] theorem sz159 : szOf Try.prog 159 = some 1 := by kernel_rfl
@[simp] theorem zr159 : zeroOf Try.prog 159 = some [.nilf] := by kernel_rfl
attribute [simp] Try.underlying160
@[simp] theorem ag160 : aggOf Try.prog 160 = some false := by kernel_rfl
@[simp] theorem sz160 : szOf Try.prog 160 = some 1 := by kernel_rfl
@[simp] theorem zr160 : zeroOf Try.prog 160 = some [.int .u32 0] := by kernel_rfl
attribute [simp] Try.underlying161
@[simp] theorem ag161 : aggOf Try.prog 161 = some false := by kernel_rfl
@[simp] theorem sz161 : szOf Try.prog 161 = some 1 := by kernel_rfl
@[simp] theorem zr161 : zeroOf Try.prog 161 = some [.nilf] := by kernel_rfl
attribute [simp] Try.underlying162
@[simp] theorem ag162 : aggOf Try.prog 162 = some false := by kernel_rfl
@[simp] theorem sz162 : szOf Try.prog 162 = some 1 := by kernel_rfl
@[simp] theorem zr162 : zeroOf Try.prog 162 = some [.nilf] := by kernel_rfl
attribute [simp] Try.underlying163
@[simp] theorem ag163 : aggOf Try.prog 163 = some false := by kernel_rfl
@[simp] theorem sz163 : szOf Try.prog 163 = some 1 := by kernel_rfl
@[simp] theorem zr163 : zeroOf Try.prog 163 = some [.nilf] := by kernel_rfl
attribute [simp] Try.underlying164
@[simp] theorem ag164 : aggOf Try.prog 164 = some false := by kernel_rfl
@[simp] theorem sz164 : szOf Try.prog 164 = some 1 := by kernel_rfl
@[simp] theorem zr164 : zeroOf Try.prog 164 = some [.int .u64 0] := by kernel_rfl
attribute [simp] Try.underlying165
@[simp] theorem ag165 : aggOf Try.prog 165 = some false := by kernel_rfl
@[simp] theorem sz165 : szOf Try.prog 165 = some 1 := by kernel_rfl
@[simp] theorem zr165 : zeroOf Try.prog 165 = some [.nilf] := by kernel_rfl
attribute [simp] Try.underlying166
@[simp] theorem ag166 : aggOf Try.prog 166 = some false := by kernel_rfl
@[simp] theorem sz166 : szOf Try.prog 166 = some 1 := by kernel_rfl
@[simp] theorem zr166 : zeroOf Try.prog 166 = some [.nilf] := by kernel_rfl
attribute [simp] Try.underlying167
@[simp] theorem ag167 : aggOf Try.prog 167 = some false := by kernel_rfl
@[simp] theorem sz167 : szOf Try.prog 167 = some 1 := by kernel_rfl
@[simp] theorem zr167 : zeroOf Try.prog 167 = some [.nilf] := by kernel_rfl
attribute [simp] Try.underlying168
@[simp] theorem ag168 : aggOf Try.prog 168 = some false := by kernel_rfl
@[simp] theorem sz168 : szOf Try.prog 168 = some 1 := by kernel_rfl
@[simp] theorem zr168 : zeroOf Try.prog 168 = some [.nilp] := by kernel_rfl
attribute [simp] Try.underlying169
@[simp] theorem ag169 : aggOf Try.prog 169 = some false := by kernel_rfl
@[simp] theorem sz169 : szOf Try.prog 169 = some 1 := by kernel_rfl
@[simp] theorem zr169 : zeroOf Try.prog 169 = some [.nilf] := by kernel_rfl
attribute [simp] Try.underlying170
@[simp] theorem ag170 : aggOf Try.prog 170 = some false := by kernel_rfl
@[simp] theorem sz170 : szOf Try.prog 170 = some 1 := by kernel_rfl
@[simp] theorem zr170 : zeroOf Try.prog 170 = some [.nilp] := by kernel_rfl
attribute [simp] Try.underlying171
@[simp] theorem ag171 : aggOf Try.prog 171 = some false := by kernel_rfl
@[simp] theorem sz171 : szOf Try.prog 171 = some 1 := by kernel_rfl
attribute [simp] Try.underlying172
@[simp] theorem ag172 : aggOf Try.prog 172 = some false := by kernel_rfl
@[simp] theorem sz172 : szOf Try.prog 172 = some 1 := by kernel_rfl
@[simp] theorem zr172 : zeroOf Try.prog 172 = some [.nilf] := by kernel_rfl
attribute [simp] Try.underlying173
@[simp] theorem ag173 : aggOf Try.prog 173 = some false := by kernel_rfl
@[simp] theorem sz173 : szOf Try.prog 173 = some 1 := by kernel_rfl
@[simp] theorem zr173 : zeroOf Try.prog 173 = some [.nilf] := by kernel_rfl
attribute [simp] Try.underlying174
@[simp] theorem ag174 : aggOf Try.prog 174 = some true := by kernel_rfl
@[simp] theorem sz174 : szOf Try.prog 174 = some 4 := by kernel_rfl
@[simp] theorem zr174 : zeroOf Try.prog 174 = some [.nilp, .nilp, .nilp, .str ⟨#[]⟩] := by kernel_rfl
@[simp] theorem pl174 : placesOf Try.prog 174 = some (fun i => ([(0, 1), (1, 1), (2, 1), (3, 1)] : List (Nat × Nat))[i]?) := by kernel_rfl
attribute [simp] Try.underlying175
@[simp] theorem ag175 : aggOf Try.prog 175 = some true := by kernel_rfl
@[simp] theorem sz175 : szOf Try.prog 175 = some 4 := by kernel_rfl
@[simp] theorem zr175 : zeroOf Try.prog 175 = some [.nilp, .nilp, .nilp, .str ⟨#[]⟩] := by kernel_rfl
@[simp] theorem pl175 : placesOf Try.prog 175 = some (fun i => ([(0, 1), (1, 1), (2, 1), (3, 1)] : List (Nat × Nat))[i]?) := by kernel_rfl
attribute [simp] Try.underlying176
@[simp] theorem ag176 : aggOf Try.prog 176 = some true := by kernel_rfl
@[simp] theorem sz176 : szOf Try.prog 176 = some 0 := by kernel_rfl
@[simp] theorem zr176 : zeroOf Try.prog 176 = some [] := by kernel_rfl
@[simp] theorem pl176 : placesOf Try.prog 176 = some (fun i => some (i * 1, 1)) := by kernel_rfl
attribute [simp] Try.underlying177
@[simp] theorem ag177 : aggOf Try.prog 177 = some true := by kernel_rfl
@[simp] theorem sz177 : szOf Try.prog 177 = some 0 := by kernel_rfl
@[simp] theorem zr177 : zeroOf Try.prog 177 = some [] := by kernel_rfl
@[simp] theorem pl177 : placesOf Try.prog 177 = some (fun i => ([(0, 0)] : List (Nat × Nat))[i]?) := by kernel_rfl
attribute [simp] Try.underlying178
@[simp] theorem ag178 : aggOf Try.prog 178 = some true := by kernel_rfl
@[simp] theorem sz178 : szOf Try.prog 178 = some 0 := by kernel_rfl
@[simp] theorem zr178 : zeroOf Try.prog 178 = some [] := by kernel_rfl
@[simp] theorem pl178 : placesOf Try.prog 178 = some (fun i => ([(0, 0)] : List (Nat × Nat))[i]?) := by kernel_rfl
attribute [simp] Try.underlying179
@[simp] theorem ag179 : aggOf Try.prog 179 = some false := by kernel_rfl
@[simp] theorem sz179 : szOf Try.prog 179 = some 1 := by kernel_rfl
@[simp] theorem zr179 : zeroOf Try.prog 179 = some [.nilf] := by kernel_rfl
attribute [simp] Try.underlying180
@[simp] theorem ag180 : aggOf Try.prog 180 = some false := by kernel_rfl
@[simp] theorem sz180 : szOf Try.prog 180 = some 1 := by kernel_rfl
@[simp] theorem zr180 : zeroOf Try.prog 180 = some [.int .u8 0] := by kernel_rfl
attribute [simp] Try.underlying181
@[simp] theorem ag181 : aggOf Try.prog 181 = some false := by kernel_rfl
@[simp] theorem sz181 : szOf Try.prog 181 = some 1 := by kernel_rfl
@[simp] theorem zr181 : zeroOf Try.prog 181 = some [.int .u8 0] := by kernel_rfl
attribute [simp] Try.underlying182
@[simp] theorem ag182 : aggOf Try.prog 182 = some false := by kernel_rfl
@[simp] theorem sz182 : szOf Try.prog 182 = some 1 := by kernel_rfl
@[simp] theorem zr182 : zeroOf Try.prog 182 = some [.nilf] := by kernel_rfl
attribute [simp] Try.underlying183
@[simp] theorem ag183 : aggOf Try.prog 183 = some false := by kernel_rfl
@[simp] theorem sz183 : szOf Try.prog 183 = some 1 := by kernel_rfl
@[simp] theorem zr183 : zeroOf Try.prog 183 = some [.nilp] := by kernel_rfl
attribute [simp] Try.underlying184
@[simp] theorem ag184 : aggOf Try.prog 184 = some false := by kernel_rfl
@[simp] theorem sz184 : szOf Try.prog 184 = some 1 := by kernel_rfl
@[simp] theorem zr184 : zeroOf Try.prog 184 = some [.int .i32 0] := by kernel_rfl
attribute [simp] Try.underlying185
@[simp] theorem ag185 : aggOf Try.prog 185 = some false := by kernel_rfl
@[simp] theorem sz185 : szOf Try.prog 185 = some 1 := by kernel_rfl
@[simp] theorem zr185 : zeroOf Try.prog 185 = some [.int .i32 0] := by kernel_rfl
attribute [simp] Try.underlying186
@[simp] theorem ag186 : aggOf Try.prog 186 = some true := by kernel_rfl
@[simp] theorem sz186 : szOf Try.prog 186 = some 11 := by kernel_rfl
@[simp] theorem zr186 : zeroOf Try.prog 186 = some [.int .u64 0, .int .u64 0, .int .u32 0, .int .u8 0, .int .u8 0, .int .u8 0, .int .u8 0, .nilf, .nilp, .int .i32 0, .int .i32 0] := by kernel_rfl
@[simp] theorem pl186 : placesOf Try.prog 186 = some (fun i => ([(0, 1), (1, 1), (2, 1), (3, 1), (4, 1), (5, 1), (6, 1), (7, 1), (8, 1), (9, 1), (10, 1)] : List (Nat × Nat))[i]?) := by kernel_rfl
attribute [simp] Try.underlying187
@[simp] theorem ag187 : aggOf Try.prog 187 = some true := by kernel_rfl
@[simp] theorem sz187 : szOf Try.prog 187 = some 11 := by kernel_rfl
@[simp] theorem zr187 : zeroOf Try.prog 187 = some [.int .u64 0, .int .u64 0, .int .u32 0, .int .u8 0, .int .u8 0, .int .u8 0, .int .u8 0, .nilf, .nilp, .int .i32 0, .int .i32 0] := by kernel_rfl
@[simp] theorem pl187 : placesOf Try.prog 187 = some (fun i => ([(0, 1), (1, 1), (2, 1), (3, 1), (4, 1), (5, 1), (6, 1), (7, 1), (8, 1), (9, 1), (10, 1)] : List (Nat × Nat))[i]?) := by kernel_rfl
attribute [simp] Try.underlying188
@[simp] theorem ag188 : aggOf Try.prog 188 = some false := by kernel_rfl
@[simp] theorem sz188 : szOf Try.prog 188 = some 1 := by kernel_rfl
@[simp] theorem zr188 : zeroOf Try.prog 188 = some [.nilp] := by kernel_rfl
@[simp] theorem by0 : bytesOf Try.prog 0 = some 0 := by kernel_rfl
@[simp] theorem by1 : bytesOf Try.prog 1 = some 8 := by kernel_rfl
@[simp] theorem by2 : bytesOf Try.prog 2 = some 8 := by kernel_rfl
@[simp] theorem by3 : bytesOf Try.prog 3 = some 8 := by kernel_rfl
@[simp] theorem by4 : bytesOf Try.prog 4 = some 1 := by kernel_rfl
@[simp] theorem by5 : bytesOf Try.prog 5 = some 1 := by kernel_rfl
@[simp] theorem by6 : bytesOf Try.prog 6 = some 1 := by kernel_rfl
@[simp] theorem by7 : bytesOf Try.prog 7 = some 24 := by kernel_rfl
@[simp] theorem by8 : bytesOf Try.prog 8 = some 24 := by kernel_rfl
@[simp] theorem by9 : bytesOf Try.prog 9 = some 16 := by kernel_rfl
@[simp] theorem by10 : bytesOf Try.prog 10 = some 16 := by kernel_rfl
@[simp] theorem by11 : bytesOf Try.prog 11 = some 16 := by kernel_rfl
@[simp] theorem by12 : bytesOf Try.prog 12 = some 8 := by kernel_rfl
@[simp] theorem by13 : bytesOf Try.prog 13 = some 24 := by kernel_rfl
@[simp] theorem by14 : bytesOf Try.prog 14 = some 24 := by kernel_rfl
@[simp] theorem by15 : bytesOf Try.prog 15 = some 8 := by kernel_rfl
@[simp] theorem by16 : bytesOf Try.prog 16 = some 8 := by kernel_rfl
@[simp] theorem by17 : bytesOf Try.prog 17 = some 8 := by kernel_rfl
@[simp] theorem by18 : bytesOf Try.prog 18 = some 8 := by kernel_rfl
@[simp] theorem by19 : bytesOf Try.prog 19 = some 8 := by kernel_rfl
@[simp] theorem by20 : bytesOf Try.prog 20 = some 16 := by kernel_rfl
@[simp] theorem by21 : bytesOf Try.prog 21 = some 4 := by kernel_rfl
@[simp] theorem by22 : bytesOf Try.prog 22 = some 24 := by kernel_rfl
@[simp] theorem by23 : bytesOf Try.prog 23 = some 8 := by kernel_rfl
@[simp] theorem by24 : bytesOf Try.prog 24 = some 24 := by kernel_rfl
@[simp] theorem by25 : bytesOf Try.prog 25 = some 24 := by kernel_rfl
@[simp] theorem by26 : bytesOf Try.prog 26 = some 24 := by kernel_rfl
@[simp] theorem by27 : bytesOf Try.prog 27 = some 96 := by kernel_rfl
@[simp] theorem by28 : bytesOf Try.prog 28 = some 96 := by kernel_rfl
@[simp] theorem by29 : bytesOf Try.prog 29 = some 8 := by kernel_rfl
@[simp] theorem by30 : bytesOf Try.prog 30 = some 8 := by kernel_rfl
@[simp] theorem by31 : bytesOf Try.prog 31 = some 4 := by kernel_rfl
@[simp] theorem by32 : bytesOf Try.prog 32 = some 24 := by kernel_rfl
@[simp] theorem by33 : bytesOf Try.prog 33 = some 24 := by kernel_rfl
@[simp] theorem by34 : bytesOf Try.prog 34 = some 0 := by kernel_rfl
@[simp] theorem by35 : bytesOf Try.prog 35 = some 8 := by kernel_rfl
@[simp] theorem by36 : bytesOf Try.prog 36 = some 8 := by kernel_rfl
@[simp] theorem by37 : bytesOf Try.prog 37 = some 12 := by kernel_rfl
@[simp] theorem by38 : bytesOf Try.prog 38 = some 12 := by kernel_rfl
@[simp] theorem by39 : bytesOf Try.prog 39 = some 8 := by kernel_rfl
@[simp] theorem by40 : bytesOf Try.prog 40 = some 8 := by kernel_rfl
@[simp] theorem by41 : bytesOf Try.prog 41 = some 8 := by kernel_rfl
@[simp] theorem by42 : bytesOf Try.prog 42 = some 8 := by kernel_rfl
@[simp] theorem by43 : bytesOf Try.prog 43 = some 8 := by kernel_rfl
@[simp] theorem by44 : bytesOf Try.prog 44 = some 8 := by kernel_rfl
@[simp] theorem by45 : bytesOf Try.prog 45 = some 8 := by kernel_rfl
@[simp] theorem by46 : bytesOf Try.prog 46 = some 8 := by kernel_rfl
@[simp] theorem by47 : bytesOf Try.prog 47 = some 8 := by kernel_rfl
@[simp] theorem by48 : bytesOf Try.prog 48 = some 0 := by kernel_rfl
@[simp] theorem by49 : bytesOf Try.prog 49 = some 8 := by kernel_rfl
@[simp] theorem by50 : bytesOf Try.prog 50 = some 8 := by kernel_rfl
@[simp] theorem by51 : bytesOf Try.prog 51 = some 8 := by kernel_rfl
@[simp] theorem by52 : bytesOf Try.prog 52 = some 40 := by kernel_rfl
@[simp] theorem by53 : bytesOf Try.prog 53 = some 40 := by kernel_rfl
@[simp] theorem by54 : bytesOf Try.prog 54 = some 0 := by kernel_rfl
@[simp] theorem by55 : bytesOf Try.prog 55 = some 8 := by kernel_rfl
@[simp] theorem by56 : bytesOf Try.prog 56 = some 8 := by kernel_rfl
@[simp] theorem by57 : bytesOf Try.prog 57 = some 8 := by kernel_rfl
@[simp] theorem by58 : bytesOf Try.prog 58 = some 24 := by kernel_rfl
@[simp] theorem by59 : bytesOf Try.prog 59 = some 48 := by kernel_rfl
@[simp] theorem by60 : bytesOf Try.prog 60 = some 48 := by kernel_rfl
@[simp] theorem by61 : bytesOf Try.prog 61 = some 8 := by kernel_rfl
@[simp] theorem by62 : bytesOf Try.prog 62 = some 24 := by kernel_rfl
@[simp] theorem by63 : bytesOf Try.prog 63 = some 8 := by kernel_rfl
@[simp] theorem by64 : bytesOf Try.prog 64 = some 0 := by kernel_rfl
@[simp] theorem by65 : bytesOf Try.prog 65 = some 8 := by kernel_rfl
@[simp] theorem by66 : bytesOf Try.prog 66 = some 8 := by kernel_rfl
@[simp] theorem by67 : bytesOf Try.prog 67 = some 0 := by kernel_rfl
@[simp] theorem by68 : bytesOf Try.prog 68 = some 8 := by kernel_rfl
@[simp] theorem by69 : bytesOf Try.prog 69 = some 0 := by kernel_rfl
@[simp] theorem by70 : bytesOf Try.prog 70 = some 8 := by kernel_rfl
@[simp] theorem by71 : bytesOf Try.prog 71 = some 8 := by kernel_rfl
@[simp] theorem by72 : bytesOf Try.prog 72 = some 8 := by kernel_rfl
@[simp] theorem by73 : bytesOf Try.prog 73 = some 0 := by kernel_rfl
@[simp] theorem by74 : bytesOf Try.prog 74 = some 8 := by kernel_rfl
@[simp] theorem by75 : bytesOf Try.prog 75 = some 8 := by kernel_rfl
@[simp] theorem by76 : bytesOf Try.prog 76 = some 0 := by kernel_rfl
@[simp] theorem by77 : bytesOf Try.prog 77 = some 8 := by kernel_rfl
@[simp] theorem by78 : bytesOf Try.prog 78 = some 24 := by kernel_rfl
@[simp] theorem by79 : bytesOf Try.prog 79 = some 0 := by kernel_rfl
@[simp] theorem by80 : bytesOf Try.prog 80 = some 8 := by kernel_rfl
@[simp] theorem by81 : bytesOf Try.prog 81 = some 8 := by kernel_rfl
@[simp] theorem by82 : bytesOf Try.prog 82 = some 8 := by kernel_rfl
@[simp] theorem by83 : bytesOf Try.prog 83 = some 8 := by kernel_rfl
@[simp] theorem by84 : bytesOf Try.prog 84 = some 8 := by kernel_rfl
@[simp] theorem by85 : bytesOf Try.prog 85 = some 8 := by kernel_rfl
@[simp] theorem by86 : bytesOf Try.prog 86 = some 8 := by kernel_rfl
@[simp] theorem by87 : bytesOf Try.prog 87 = some 8 := by kernel_rfl
@[simp] theorem by88 : bytesOf Try.prog 88 = some 8 := by kernel_rfl
@[simp] theorem by89 : bytesOf Try.prog 89 = some 8 := by kernel_rfl
@[simp] theorem by90 : bytesOf Try.prog 90 = some 8 := by kernel_rfl
@[simp] theorem by91 : bytesOf Try.prog 91 = some 24 := by kernel_rfl
@[simp] theorem by92 : bytesOf Try.prog 92 = some 8 := by kernel_rfl
@[simp] theorem by93 : bytesOf Try.prog 93 = some 8 := by kernel_rfl
@[simp] theorem by94 : bytesOf Try.prog 94 = some 8 := by kernel_rfl
@[simp] theorem by95 : bytesOf Try.prog 95 = some 8 := by kernel_rfl
@[simp] theorem by96 : bytesOf Try.prog 96 = some 8 := by kernel_rfl
@[simp] theorem by97 : bytesOf Try.prog 97 = some 8 := by kernel_rfl
@[simp] theorem by98 : bytesOf Try.prog 98 = some 8 := by kernel_rfl
@[simp] theorem by99 : bytesOf Try.prog 99 = some 8 := by kernel_rfl
@[simp] theorem by100 : bytesOf Try.prog 100 = some 8 := by kernel_rfl
@[simp] theorem by101 : bytesOf Try.prog 101 = some 8 := by kernel_rfl
@[simp] theorem by102 : bytesOf Try.prog 102 = some 8 := by kernel_rfl
@[simp] theorem by103 : bytesOf Try.prog 103 = some 8 := by kernel_rfl
@[simp] theorem by104 : bytesOf Try.prog 104 = some 8 := by kernel_rfl
@[simp] theorem by105 : bytesOf Try.prog 105 = some 8 := by kernel_rfl
@[simp] theorem by106 : bytesOf Try.prog 106 = some 8 := by kernel_rfl
@[simp] theorem by107 : bytesOf Try.prog 107 = some 8 := by kernel_rfl
@[simp] theorem by108 : bytesOf Try.prog 108 = some 8 := by kernel_rfl
@[simp] theorem by109 : bytesOf Try.prog 109 = some 8 := by kernel_rfl
@[simp] theorem by110 : bytesOf Try.prog 110 = some 8 := by kernel_rfl
@[simp] theorem by111 : bytesOf Try.prog 111 = some 8 := by kernel_rfl
@[simp] theorem by112 : bytesOf Try.prog 112 = some 24 := by kernel_rfl
@[simp] theorem by113 : bytesOf Try.prog 113 = some 8 := by kernel_rfl
@[simp] theorem by114 : bytesOf Try.prog 114 = some 16 := by kernel_rfl
@[simp] theorem by115 : bytesOf Try.prog 115 = some 16 := by kernel_rfl
@[simp] theorem by116 : bytesOf Try.prog 116 = some 8 := by kernel_rfl
@[simp] theorem by117 : bytesOf Try.prog 117 = some 8 := by kernel_rfl
@[simp] theorem by118 : bytesOf Try.prog 118 = some 0 := by kernel_rfl
@[simp] theorem by119 : bytesOf Try.prog 119 = some 8 := by kernel_rfl
@[simp] theorem by120 : bytesOf Try.prog 120 = some 8 := by kernel_rfl
@[simp] theorem by121 : bytesOf Try.prog 121 = some 8 := by kernel_rfl
@[simp] theorem by122 : bytesOf Try.prog 122 = some 8 := by kernel_rfl
@[simp] theorem by123 : bytesOf Try.prog 123 = some 8 := by kernel_rfl
@[simp] theorem by124 : bytesOf Try.prog 124 = some 8 := by kernel_rfl
@[simp] theorem by125 : bytesOf Try.prog 125 = some 8 := by kernel_rfl
@[simp] theorem by126 : bytesOf Try.prog 126 = some 40 := by kernel_rfl
@[simp] theorem by127 : bytesOf Try.prog 127 = some 40 := by kernel_rfl
@[simp] theorem by128 : bytesOf Try.prog 128 = some 8 := by kernel_rfl
@[simp] theorem by129 : bytesOf Try.prog 129 = some 8 := by kernel_rfl
@[simp] theorem by130 : bytesOf Try.prog 130 = some 8 := by kernel_rfl
@[simp] theorem by131 : bytesOf Try.prog 131 = some 8 := by kernel_rfl
@[simp] theorem by132 : bytesOf Try.prog 132 = some 8 := by kernel_rfl
@[simp] theorem by133 : bytesOf Try.prog 133 = some 8 := by kernel_rfl
@[simp] theorem by134 : bytesOf Try.prog 134 = some 8 := by kernel_rfl
@[simp] theorem by135 : bytesOf Try.prog 135 = some 8 := by kernel_rfl
@[simp] theorem by136 : bytesOf Try.prog 136 = some 8 := by kernel_rfl
@[simp] theorem by137 : bytesOf Try.prog 137 = some 8 := by kernel_rfl
@[simp] theorem by138 : bytesOf Try.prog 138 = some 8 := by kernel_rfl
@[simp] theorem by139 : bytesOf Try.prog 139 = some 8 := by kernel_rfl
@[simp] theorem by140 : bytesOf Try.prog 140 = some 8 := by kernel_rfl
@[simp] theorem by141 : bytesOf Try.prog 141 = some 8 := by kernel_rfl
@[simp] theorem by142 : bytesOf Try.prog 142 = some 8 := by kernel_rfl
@[simp] theorem by143 : bytesOf Try.prog 143 = some 8 := by kernel_rfl
@[simp] theorem by144 : bytesOf Try.prog 144 = some 8 := by kernel_rfl
@[simp] theorem by145 : bytesOf Try.prog 145 = some 8 := by kernel_rfl
@[simp] theorem by146 : bytesOf Try.prog 146 = some 8 := by kernel_rfl
@[simp] theorem by147 : bytesOf Try.prog 147 = some 8 := by kernel_rfl
@[simp] theorem by148 : bytesOf Try.prog 148 = some 8 := by kernel_rfl
@[simp] theorem by149 : bytesOf Try.prog 149 = some 8 := by kernel_rfl
@[simp] theorem by150 : bytesOf Try.prog 150 = some 8 := by kernel_rfl
@[simp] theorem by151 : bytesOf Try.prog 151 = some 8 := by kernel_rfl
@[simp] theorem by152 : bytesOf Try.prog 152 = some 8 := by kernel_rfl
@[simp] theorem by153 : bytesOf Try.prog 153 = some 0 := by kernel_rfl
@[simp] theorem by154 : bytesOf Try.prog 154 = some 8 := by kernel_rfl
@[simp] theorem by155 : bytesOf Try.prog 155 = some 8 := by kernel_rfl
@[simp] theorem by156 : bytesOf Try.prog 156 = some 8 := by kernel_rfl
@[simp] theorem by157 : bytesOf Try.prog 157 = some 0 := by kernel_rfl
@[simp] theorem by158 : bytesOf Try.prog 158 = some 8 := by kernel_rfl
@[simp] theorem by159 : bytesOf Try.prog 159 = some 8 := by kernel_rfl
@[simp] theorem by160 : bytesOf Try.prog 160 = some 4 := by kernel_rfl
@[simp] theorem by161 : bytesOf Try.prog 161 = some 8 := by kernel_rfl
@[simp] theorem by162 : bytesOf Try.prog 162 = some 8 := by kernel_rfl
@[simp] theorem by163 : bytesOf Try.prog 163 = some 8 := by kernel_rfl
@[simp] theorem by164 : bytesOf Try.prog 164 = some 8 := by kernel_rfl
@[simp] theorem by165 : bytesOf Try.prog 165 = some 8 := by kernel_rfl
@[simp] theorem by166 : bytesOf Try.prog 166 = some 8 := by kernel_rfl
@[simp] theorem by167 : bytesOf Try.prog 167 = some 8 := by kernel_rfl
@[simp] theorem by168 : bytesOf Try.prog 168 = some 8 := by kernel_rfl
@[simp] theorem by169 : bytesOf Try.prog 169 = some 8 := by kernel_rfl
@[simp] theorem by170 : bytesOf Try.prog 170 = some 8 := by kernel_rfl
@[simp] theorem by171 : bytesOf Try.prog 171 = some 0 := by kernel_rfl
@[simp] theorem by172 : bytesOf Try.prog 172 = some 8 := by kernel_rfl
@[simp] theorem by173 : bytesOf Try.prog 173 = some 8 := by kernel_rfl
@[simp] theorem by174 : bytesOf Try.prog 174 = some 40 := by kernel_rfl
@[simp] theorem by175 : bytesOf Try.prog 175 = some 40 := by kernel_rfl
@[simp] theorem by176 : bytesOf Try.prog 176 = some 0 := by kernel_rfl
@[simp] theorem by177 : bytesOf Try.prog 177 = some 0 := by kernel_rfl
@[simp] theorem by178 : bytesOf Try.prog 178 = some 0 := by kernel_rfl
@[simp] theorem by179 : bytesOf Try.prog 179 = some 8 := by kernel_rfl
@[simp] theorem by180 : bytesOf Try.prog 180 = some 1 := by kernel_rfl
@[simp] theorem by181 : bytesOf Try.prog 181 = some 1 := by kernel_rfl
@[simp] theorem by182 : bytesOf Try.prog 182 = some 8 := by kernel_rfl
@[simp] theorem by183 : bytesOf Try.prog 183 = some 8 := by kernel_rfl
@[simp] theorem by184 : bytesOf Try.prog 184 = some 4 := by kernel_rfl
@[simp] theorem by185 : bytesOf Try.prog 185 = some 4 := by kernel_rfl
@[simp] theorem by186 : bytesOf Try.prog 186 = some 48 := by kernel_rfl
@[simp] theorem by187 : bytesOf Try.prog 187 = some 48 := by kernel_rfl
@[simp] theorem by188 : bytesOf Try.prog 188 = some 8 := by kernel_rfl
theorem dr_ok : DrawOk Try.prog okN (drawK Try.prog) := drawK_ok (by kernel_rfl)
end Go.Proofs.Ytbjfkhjckfodbaa
