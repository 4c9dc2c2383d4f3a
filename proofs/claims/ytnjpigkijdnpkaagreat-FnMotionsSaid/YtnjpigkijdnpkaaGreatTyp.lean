/- The types of the seat, as rules for simp.
Conditions: none. -/
import Derived.Test.YtnjpigkijdnpkaaGreatRows
import Derived.Test.YtnjpigkijdnpkaaGreatRul
namespace Go.Proofs.YtnjpigkijdnpkaaGreat
set_option linter.all false
open Go Go.Awp

attribute [simp] Tryz.underlying0
@[simp] theorem ag0 : aggOf Tryz.prog 0 = some false := by kernel_rfl
@[simp] theorem sz0 : szOf Tryz.prog 0 = some 1 := by kernel_rfl
attribute [simp] Tryz.underlying1
@[simp] theorem ag1 : aggOf Tryz.prog 1 = some false := by kernel_rfl
@[simp] theorem sz1 : szOf Tryz.prog 1 = some 1 := by kernel_rfl
@[simp] theorem zr1 : zeroOf Tryz.prog 1 = some [.nilf] := by kernel_rfl
attribute [simp] Tryz.underlying2
@[simp] theorem ag2 : aggOf Tryz.prog 2 = some false := by kernel_rfl
@[simp] theorem sz2 : szOf Tryz.prog 2 = some 1 := by kernel_rfl
@[simp] theorem zr2 : zeroOf Tryz.prog 2 = some [.int .i64 0] := by kernel_rfl
attribute [simp] Tryz.underlying3
@[simp] theorem ag3 : aggOf Tryz.prog 3 = some false := by kernel_rfl
@[simp] theorem sz3 : szOf Tryz.prog 3 = some 1 := by kernel_rfl
@[simp] theorem zr3 : zeroOf Tryz.prog 3 = some [.int .i64 0] := by kernel_rfl
attribute [simp] Tryz.underlying4
@[simp] theorem ag4 : aggOf Tryz.prog 4 = some false := by kernel_rfl
@[simp] theorem sz4 : szOf Tryz.prog 4 = some 1 := by kernel_rfl
@[simp] theorem zr4 : zeroOf Tryz.prog 4 = some [.bool false] := by kernel_rfl
attribute [simp] Tryz.underlying5
@[simp] theorem ag5 : aggOf Tryz.prog 5 = some false := by kernel_rfl
@[simp] theorem sz5 : szOf Tryz.prog 5 = some 1 := by kernel_rfl
@[simp] theorem zr5 : zeroOf Tryz.prog 5 = some [.int .u8 0] := by kernel_rfl
attribute [simp] Tryz.underlying6
@[simp] theorem ag6 : aggOf Tryz.prog 6 = some false := by kernel_rfl
@[simp] theorem sz6 : szOf Tryz.prog 6 = some 1 := by kernel_rfl
@[simp] theorem zr6 : zeroOf Tryz.prog 6 = some [.int .u8 0] := by kernel_rfl
attribute [simp] Tryz.underlying7
@[simp] theorem ag7 : aggOf Tryz.prog 7 = some true := by kernel_rfl
@[simp] theorem sz7 : szOf Tryz.prog 7 = some 4 := by kernel_rfl
@[simp] theorem zr7 : zeroOf Tryz.prog 7 = some [.int .i64 0, .int .i64 0, .bool false, .int .u8 0] := by kernel_rfl
@[simp] theorem pl7 : placesOf Tryz.prog 7 = some (fun i => ([(0, 1), (1, 1), (2, 1), (3, 1)] : List (Nat × Nat))[i]?) := by kernel_rfl
attribute [simp] Tryz.underlying8
@[simp] theorem ag8 : aggOf Tryz.prog 8 = some true := by kernel_rfl
@[simp] theorem sz8 : szOf Tryz.prog 8 = some 4 := by kernel_rfl
@[simp] theorem zr8 : zeroOf Tryz.prog 8 = some [.int .i64 0, .int .i64 0, .bool false, .int .u8 0] := by kernel_rfl
@[simp] theorem pl8 : placesOf Tryz.prog 8 = some (fun i => ([(0, 1), (1, 1), (2, 1), (3, 1)] : List (Nat × Nat))[i]?) := by kernel_rfl
attribute [simp] Tryz.underlying9
@[simp] theorem ag9 : aggOf Tryz.prog 9 = some false := by kernel_rfl
@[simp] theorem sz9 : szOf Tryz.prog 9 = some 1 := by kernel_rfl
@[simp] theorem zr9 : zeroOf Tryz.prog 9 = some [.str ⟨#[]⟩] := by kernel_rfl
attribute [simp] Tryz.underlying10
@[simp] theorem ag10 : aggOf Tryz.prog 10 = some false := by kernel_rfl
@[simp] theorem sz10 : szOf Tryz.prog 10 = some 1 := by kernel_rfl
@[simp] theorem zr10 : zeroOf Tryz.prog 10 = some [.str ⟨#[]⟩] := by kernel_rfl
attribute [simp] Tryz.underlying11
@[simp] theorem ag11 : aggOf Tryz.prog 11 = some false := by kernel_rfl
@[simp] theorem sz11 : szOf Tryz.prog 11 = some 1 := by kernel_rfl
@[simp] theorem zr11 : zeroOf Tryz.prog 11 = some [.str ⟨#[]⟩] := by kernel_rfl
attribute [simp] Tryz.underlying12
@[simp] theorem ag12 : aggOf Tryz.prog 12 = some false := by kernel_rfl
@[simp] theorem sz12 : szOf Tryz.prog 12 = some 1 := by kernel_rfl
@[simp] theorem zr12 : zeroOf Tryz.prog 12 = some [.int .u64 0] := by kernel_rfl
attribute [simp] Tryz.underlying13
@[simp] theorem ag13 : aggOf Tryz.prog 13 = some true := by kernel_rfl
@[simp] theorem sz13 : szOf Tryz.prog 13 = some 2 := by kernel_rfl
@[simp] theorem zr13 : zeroOf Tryz.prog 13 = some [.str ⟨#[]⟩, .int .u64 0] := by kernel_rfl
@[simp] theorem pl13 : placesOf Tryz.prog 13 = some (fun i => ([(0, 1), (1, 1)] : List (Nat × Nat))[i]?) := by kernel_rfl
attribute [simp] Tryz.underlying14
@[simp] theorem ag14 : aggOf Tryz.prog 14 = some true := by kernel_rfl
@[simp] theorem sz14 : szOf Tryz.prog 14 = some 2 := by kernel_rfl
@[simp] theorem zr14 : zeroOf Tryz.prog 14 = some [.str ⟨#[]⟩, .int .u64 0] := by kernel_rfl
@[simp] theorem pl14 : placesOf Tryz.prog 14 = some (fun i => ([(0, 1), (1, 1)] : List (Nat × Nat))[i]?) := by kernel_rfl
attribute [simp] Tryz.underlying15
@[simp] theorem ag15 : aggOf Tryz.prog 15 = some false := by kernel_rfl
@[simp] theorem sz15 : szOf Tryz.prog 15 = some 1 := by kernel_rfl
@[simp] theorem zr15 : zeroOf Tryz.prog 15 = some [.nilp] := by kernel_rfl
attribute [simp] Tryz.underlying16
@[simp] theorem ag16 : aggOf Tryz.prog 16 = some false := by kernel_rfl
@[simp] theorem sz16 : szOf Tryz.prog 16 = some 1 := by kernel_rfl
@[simp] theorem zr16 : zeroOf Tryz.prog 16 = some [.nilp] := by kernel_rfl
attribute [simp] Tryz.underlying17
@[simp] theorem ag17 : aggOf Tryz.prog 17 = some false := by kernel_rfl
@[simp] theorem sz17 : szOf Tryz.prog 17 = some 1 := by kernel_rfl
@[simp] theorem zr17 : zeroOf Tryz.prog 17 = some [.nilp] := by kernel_rfl
attribute [simp] Tryz.underlying18
@[simp] theorem ag18 : aggOf Tryz.prog 18 = some true := by kernel_rfl
@[simp] theorem sz18 : szOf Tryz.prog 18 = some 1 := by kernel_rfl
@[simp] theorem zr18 : zeroOf Tryz.prog 18 = some [.nilp] := by kernel_rfl
@[simp] theorem pl18 : placesOf Tryz.prog 18 = some (fun i => ([(0, 1)] : List (Nat × Nat))[i]?) := by kernel_rfl
attribute [simp] Tryz.underlying19
@[simp] theorem ag19 : aggOf Tryz.prog 19 = some true := by kernel_rfl
@[simp] theorem sz19 : szOf Tryz.prog 19 = some 1 := by kernel_rfl
@[simp] theorem zr19 : zeroOf Tryz.prog 19 = some [.nilp] := by kernel_rfl
@[simp] theorem pl19 : placesOf Tryz.prog 19 = some (fun i => ([(0, 1)] : List (Nat × Nat))[i]?) := by kernel_rfl
attribute [simp] Tryz.underlying20
@[simp] theorem ag20 : aggOf Tryz.prog 20 = some false := by kernel_rfl
@[simp] theorem sz20 : szOf Tryz.prog 20 = some 1 := by kernel_rfl
@[simp] theorem zr20 : zeroOf Tryz.prog 20 = some [.ifc true] := by kernel_rfl
attribute [simp] Tryz.underlying21
@[simp] theorem ag21 : aggOf Tryz.prog 21 = some false := by kernel_rfl
@[simp] theorem sz21 : szOf Tryz.prog 21 = some 1 := by kernel_rfl
@[simp] theorem zr21 : zeroOf Tryz.prog 21 = some [.int .i32 0] := by kernel_rfl
attribute [simp] Tryz.underlying22
@[simp] theorem ag22 : aggOf Tryz.prog 22 = some false := by kernel_rfl
@[simp] theorem sz22 : szOf Tryz.prog 22 = some 1 := by kernel_rfl
@[simp] theorem zr22 : zeroOf Tryz.prog 22 = some [.nils] := by kernel_rfl
attribute [simp] Tryz.underlying23
@[simp] theorem ag23 : aggOf Tryz.prog 23 = some false := by kernel_rfl
@[simp] theorem sz23 : szOf Tryz.prog 23 = some 1 := by kernel_rfl
@[simp] theorem zr23 : zeroOf Tryz.prog 23 = some [.nilf] := by kernel_rfl
attribute [simp] Tryz.underlying24
@[simp] theorem ag24 : aggOf Tryz.prog 24 = some false := by kernel_rfl
@[simp] theorem sz24 : szOf Tryz.prog 24 = some 1 := by kernel_rfl
@[simp] theorem zr24 : zeroOf Tryz.prog 24 = some [.nils] := by kernel_rfl
attribute [simp] Tryz.underlying25
@[simp] theorem ag25 : aggOf Tryz.prog 25 = some false := by kernel_rfl
@[simp] theorem sz25 : szOf Tryz.prog 25 = some 1 := by kernel_rfl
@[simp] theorem zr25 : zeroOf Tryz.prog 25 = some [.nils] := by kernel_rfl
attribute [simp] Tryz.underlying26
@[simp] theorem ag26 : aggOf Tryz.prog 26 = some true := by kernel_rfl
@[simp] theorem sz26 : szOf Tryz.prog 26 = some 2 := by kernel_rfl
@[simp] theorem zr26 : zeroOf Tryz.prog 26 = some [.nils, .nils] := by kernel_rfl
@[simp] theorem pl26 : placesOf Tryz.prog 26 = some (fun i => ([(0, 1), (1, 1)] : List (Nat × Nat))[i]?) := by kernel_rfl
attribute [simp] Tryz.underlying27
@[simp] theorem ag27 : aggOf Tryz.prog 27 = some true := by kernel_rfl
@[simp] theorem sz27 : szOf Tryz.prog 27 = some 2 := by kernel_rfl
@[simp] theorem zr27 : zeroOf Tryz.prog 27 = some [.nils, .nils] := by kernel_rfl
@[simp] theorem pl27 : placesOf Tryz.prog 27 = some (fun i => ([(0, 1), (1, 1)] : List (Nat × Nat))[i]?) := by kernel_rfl
attribute [simp] Tryz.underlying28
@[simp] theorem ag28 : aggOf Tryz.prog 28 = some false := by kernel_rfl
@[simp] theorem sz28 : szOf Tryz.prog 28 = some 1 := by kernel_rfl
@[simp] theorem zr28 : zeroOf Tryz.prog 28 = some [.nils] := by kernel_rfl
attribute [simp] Tryz.underlying29
@[simp] theorem ag29 : aggOf Tryz.prog 29 = some false := by kernel_rfl
@[simp] theorem sz29 : szOf Tryz.prog 29 = some 1 := by kernel_rfl
@[simp] theorem zr29 : zeroOf Tryz.prog 29 = some [.flt .f32 0] := by kernel_rfl
attribute [simp] Tryz.underlying30
@[simp] theorem ag30 : aggOf Tryz.prog 30 = some false := by kernel_rfl
@[simp] theorem sz30 : szOf Tryz.prog 30 = some 1 := by kernel_rfl
@[simp] theorem zr30 : zeroOf Tryz.prog 30 = some [.nils] := by kernel_rfl
attribute [simp] Tryz.underlying31
@[simp] theorem ag31 : aggOf Tryz.prog 31 = some true := by kernel_rfl
@[simp] theorem sz31 : szOf Tryz.prog 31 = some 3 := by kernel_rfl
@[simp] theorem zr31 : zeroOf Tryz.prog 31 = some [.flt .f32 0, .flt .f32 0, .flt .f32 0] := by kernel_rfl
@[simp] theorem pl31 : placesOf Tryz.prog 31 = some (fun i => ([(0, 1), (1, 1), (2, 1)] : List (Nat × Nat))[i]?) := by kernel_rfl
attribute [simp] Tryz.underlying32
@[simp] theorem ag32 : aggOf Tryz.prog 32 = some true := by kernel_rfl
@[simp] theorem sz32 : szOf Tryz.prog 32 = some 3 := by kernel_rfl
@[simp] theorem zr32 : zeroOf Tryz.prog 32 = some [.flt .f32 0, .flt .f32 0, .flt .f32 0] := by kernel_rfl
@[simp] theorem pl32 : placesOf Tryz.prog 32 = some (fun i => ([(0, 1), (1, 1), (2, 1)] : List (Nat × Nat))[i]?) := by kernel_rfl
attribute [simp] Tryz.underlying33
@[simp] theorem ag33 : aggOf Tryz.prog 33 = some true := by kernel_rfl
@[simp] theorem sz33 : szOf Tryz.prog 33 = some 9 := by kernel_rfl
@[simp] theorem zr33 : zeroOf Tryz.prog 33 = some [.nils, .nils, .nils, .flt .f32 0, .flt .f32 0, .nils, .flt .f32 0, .flt .f32 0, .flt .f32 0] := by kernel_rfl
@[simp] theorem pl33 : placesOf Tryz.prog 33 = some (fun i => ([(0, 2), (2, 1), (3, 1), (4, 1), (5, 1), (6, 3)] : List (Nat × Nat))[i]?) := by kernel_rfl
attribute [simp] Tryz.underlying34
@[simp] theorem ag34 : aggOf Tryz.prog 34 = some true := by kernel_rfl
@[simp] theorem sz34 : szOf Tryz.prog 34 = some 9 := by kernel_rfl
@[simp] theorem zr34 : zeroOf Tryz.prog 34 = some [.nils, .nils, .nils, .flt .f32 0, .flt .f32 0, .nils, .flt .f32 0, .flt .f32 0, .flt .f32 0] := by kernel_rfl
@[simp] theorem pl34 : placesOf Tryz.prog 34 = some (fun i => ([(0, 2), (2, 1), (3, 1), (4, 1), (5, 1), (6, 3)] : List (Nat × Nat))[i]?) := by kernel_rfl
attribute [simp] Tryz.underlying35
@[simp] theorem ag35 : aggOf Tryz.prog 35 = some false := by kernel_rfl
@[simp] theorem sz35 : szOf Tryz.prog 35 = some 1 := by kernel_rfl
@[simp] theorem zr35 : zeroOf Tryz.prog 35 = some [.nilf] := by kernel_rfl
attribute [simp] Tryz.underlying36
@[simp] theorem ag36 : aggOf Tryz.prog 36 = some false := by kernel_rfl
@[simp] theorem sz36 : szOf Tryz.prog 36 = some 1 := by kernel_rfl
@[simp] theorem zr36 : zeroOf Tryz.prog 36 = some [.nils] := by kernel_rfl
attribute [simp] Tryz.underlying37
@[simp] theorem ag37 : aggOf Tryz.prog 37 = some false := by kernel_rfl
@[simp] theorem sz37 : szOf Tryz.prog 37 = some 1 := by kernel_rfl
@[simp] theorem zr37 : zeroOf Tryz.prog 37 = some [.nilf] := by kernel_rfl
attribute [simp] Tryz.underlying38
@[simp] theorem ag38 : aggOf Tryz.prog 38 = some false := by kernel_rfl
@[simp] theorem sz38 : szOf Tryz.prog 38 = some 1 := by kernel_rfl
@[simp] theorem zr38 : zeroOf Tryz.prog 38 = some [.nilf] := by kernel_rfl
attribute [simp] Tryz.underlying39
@[simp] theorem ag39 : aggOf Tryz.prog 39 = some false := by kernel_rfl
@[simp] theorem sz39 : szOf Tryz.prog 39 = some 1 := by kernel_rfl
attribute [simp] Tryz.underlying40
@[simp] theorem ag40 : aggOf Tryz.prog 40 = some false := by kernel_rfl
@[simp] theorem sz40 : szOf Tryz.prog 40 = some 1 := by kernel_rfl
@[simp] theorem zr40 : zeroOf Tryz.prog 40 = some [.nilf] := by kernel_rfl
attribute [simp] Tryz.underlying41
@[simp] theorem ag41 : aggOf Tryz.prog 41 = some false := by kernel_rfl
@[simp] theorem sz41 : szOf Tryz.prog 41 = some 1 := by kernel_rfl
attribute [simp] Tryz.underlying42
@[simp] theorem ag42 : aggOf Tryz.prog 42 = some false := by kernel_rfl
@[simp] theorem sz42 : szOf Tryz.prog 42 = some 1 := by kernel_rfl
@[simp] theorem zr42 : zeroOf Tryz.prog 42 = some [.nilf] := by kernel_rfl
attribute [simp] Tryz.underlying43
@[simp] theorem ag43 : aggOf Tryz.prog 43 = some false := by kernel_rfl
@[simp] theorem sz43 : szOf Tryz.prog 43 = some 1 := by kernel_rfl
attribute [simp] Tryz.underlying44
@[simp] theorem ag44 : aggOf Tryz.prog 44 = some false := by kernel_rfl
@[simp] theorem sz44 : szOf Tryz.prog 44 = some 1 := by kernel_rfl
@[simp] theorem zr44 : zeroOf Tryz.prog 44 = some [.nilf] := by kernel_rfl
attribute [simp] Tryz.underlying45
@[simp] theorem ag45 : aggOf Tryz.prog 45 = some false := by kernel_rfl
@[simp] theorem sz45 : szOf Tryz.prog 45 = some 1 := by kernel_rfl
@[simp] theorem zr45 : zeroOf Tryz.prog 45 = some [.nilf] := by kernel_rfl
attribute [simp] Tryz.underlying46
@[simp] theorem ag46 : aggOf Tryz.prog 46 = some false := by kernel_rfl
@[simp] theorem sz46 : szOf Tryz.prog 46 = some 1 := by kernel_rfl
@[simp] theorem zr46 : zeroOf Tryz.prog 46 = some [.nilf] := by kernel_rfl
attribute [simp] Tryz.underlying47
@[simp] theorem ag47 : aggOf Tryz.prog 47 = some false := by kernel_rfl
@[simp] theorem sz47 : szOf Tryz.prog 47 = some 1 := by kernel_rfl
attribute [simp] Tryz.underlying48
@[simp] theorem ag48 : aggOf Tryz.prog 48 = some false := by kernel_rfl
@[simp] theorem sz48 : szOf Tryz.prog 48 = some 1 := by kernel_rfl
@[simp] theorem zr48 : zeroOf Tryz.prog 48 = some [.nilf] := by kernel_rfl
attribute [simp] Tryz.underlying49
@[simp] theorem ag49 : aggOf Tryz.prog 49 = some false := by kernel_rfl
@[simp] theorem sz49 : szOf Tryz.prog 49 = some 1 := by kernel_rfl
@[simp] theorem zr49 : zeroOf Tryz.prog 49 = some [.nilf] := by kernel_rfl
attribute [simp] Tryz.underlying50
@[simp] theorem ag50 : aggOf Tryz.prog 50 = some false := by kernel_rfl
@[simp] theorem sz50 : szOf Tryz.prog 50 = some 1 := by kernel_rfl
@[simp] theorem zr50 : zeroOf Tryz.prog 50 = some [.nilf] := by kernel_rfl
attribute [simp] Tryz.underlying51
@[simp] theorem ag51 : aggOf Tryz.prog 51 = some true := by kernel_rfl
@[simp] theorem sz51 : szOf Tryz.prog 51 = some 10 := by kernel_rfl
@[simp] theorem zr51 : zeroOf Tryz.prog 51 = some [.nils, .nils, .nils, .flt .f32 0, .flt .f32 0, .nils, .flt .f32 0, .flt .f32 0, .flt .f32 0, .nils] := by kernel_rfl
@[simp] theorem pl51 : placesOf Tryz.prog 51 = some (fun i => ([(0, 9), (9, 1)] : List (Nat × Nat))[i]?) := by kernel_rfl
attribute [simp] Tryz.underlying52
@[simp] theorem ag52 : aggOf Tryz.prog 52 = some true := by kernel_rfl
@[simp] theorem sz52 : szOf Tryz.prog 52 = some 10 := by kernel_rfl
@[simp] theorem zr52 : zeroOf Tryz.prog 52 = some [.nils, .nils, .nils, .flt .f32 0, .flt .f32 0, .nils, .flt .f32 0, .flt .f32 0, .flt .f32 0, .nils] := by kernel_rfl
@[simp] theorem pl52 : placesOf Tryz.prog 52 = some (fun i => ([(0, 9), (9, 1)] : List (Nat × Nat))[i]?) := by kernel_rfl
attribute [simp] Tryz.underlying53
@[simp] theorem ag53 : aggOf Tryz.prog 53 = some false := by kernel_rfl
@[simp] theorem sz53 : szOf Tryz.prog 53 = some 1 := by kernel_rfl
attribute [simp] Tryz.underlying54
@[simp] theorem ag54 : aggOf Tryz.prog 54 = some false := by kernel_rfl
@[simp] theorem sz54 : szOf Tryz.prog 54 = some 1 := by kernel_rfl
@[simp] theorem zr54 : zeroOf Tryz.prog 54 = some [.nilf] := by kernel_rfl
attribute [simp] Tryz.underlying55
@[simp] theorem ag55 : aggOf Tryz.prog 55 = some false := by kernel_rfl
@[simp] theorem sz55 : szOf Tryz.prog 55 = some 1 := by kernel_rfl
attribute [simp] Tryz.underlying56
@[simp] theorem ag56 : aggOf Tryz.prog 56 = some false := by kernel_rfl
@[simp] theorem sz56 : szOf Tryz.prog 56 = some 1 := by kernel_rfl
@[simp] theorem zr56 : zeroOf Tryz.prog 56 = some [.nilf] := by kernel_rfl
attribute [simp] Tryz.underlying57
@[simp] theorem ag57 : aggOf Tryz.prog 57 = some false := by kernel_rfl
@[simp] theorem sz57 : szOf Tryz.prog 57 = some 1 := by kernel_rfl
@[simp] theorem zr57 : zeroOf Tryz.prog 57 = some [.nilf] := by kernel_rfl
attribute [simp] Tryz.underlying58
@[simp] theorem ag58 : aggOf Tryz.prog 58 = some false := by kernel_rfl
@[simp] theorem sz58 : szOf Tryz.prog 58 = some 1 := by kernel_rfl
@[simp] theorem zr58 : zeroOf Tryz.prog 58 = some [.nilf] := by kernel_rfl
attribute [simp] Tryz.underlying59
@[simp] theorem ag59 : aggOf Tryz.prog 59 = some false := by kernel_rfl
@[simp] theorem sz59 : szOf Tryz.prog 59 = some 1 := by kernel_rfl
@[simp] theorem zr59 : zeroOf Tryz.prog 59 = some [.nilf] := by kernel_rfl
attribute [simp] Tryz.underlying60
@[simp] theorem ag60 : aggOf Tryz.prog 60 = some false := by kernel_rfl
@[simp] theorem sz60 : szOf Tryz.prog 60 = some 1 := by kernel_rfl
@[simp] theorem zr60 : zeroOf Tryz.prog 60 = some [.nilf] := by kernel_rfl
attribute [simp] Tryz.underlying61
@[simp] theorem ag61 : aggOf Tryz.prog 61 = some false := by kernel_rfl
@[simp] theorem sz61 : szOf Tryz.prog 61 = some 1 := by kernel_rfl
attribute [simp] Tryz.underlying62
@[simp] theorem ag62 : aggOf Tryz.prog 62 = some false := by kernel_rfl
@[simp] theorem sz62 : szOf Tryz.prog 62 = some 1 := by kernel_rfl
@[simp] theorem zr62 : zeroOf Tryz.prog 62 = some [.nilf] := by kernel_rfl
attribute [simp] Tryz.underlying63
@[simp] theorem ag63 : aggOf Tryz.prog 63 = some false := by kernel_rfl
@[simp] theorem sz63 : szOf Tryz.prog 63 = some 1 := by kernel_rfl
@[simp] theorem zr63 : zeroOf Tryz.prog 63 = some [.nilf] := by kernel_rfl
attribute [simp] Tryz.underlying64
@[simp] theorem ag64 : aggOf Tryz.prog 64 = some false := by kernel_rfl
@[simp] theorem sz64 : szOf Tryz.prog 64 = some 1 := by kernel_rfl
attribute [simp] Tryz.underlying65
@[simp] theorem ag65 : aggOf Tryz.prog 65 = some false := by kernel_rfl
@[simp] theorem sz65 : szOf Tryz.prog 65 = some 1 := by kernel_rfl
@[simp] theorem zr65 : zeroOf Tryz.prog 65 = some [.nilf] := by kernel_rfl
attribute [simp] Tryz.underlying66
@[simp] theorem ag66 : aggOf Tryz.prog 66 = some false := by kernel_rfl
@[simp] theorem sz66 : szOf Tryz.prog 66 = some 1 := by kernel_rfl
attribute [simp] Tryz.underlying67
@[simp] theorem ag67 : aggOf Tryz.prog 67 = some false := by kernel_rfl
@[simp] theorem sz67 : szOf Tryz.prog 67 = some 1 := by kernel_rfl
@[simp] theorem zr67 : zeroOf Tryz.prog 67 = some [.nilf] := by kernel_rfl
attribute [simp] Tryz.underlying68
@[simp] theorem ag68 : aggOf Tryz.prog 68 = some false := by kernel_rfl
@[simp] theorem sz68 : szOf Tryz.prog 68 = some 1 := by kernel_rfl
@[simp] theorem zr68 : zeroOf Tryz.prog 68 = some [.nilf] := by kernel_rfl
attribute [simp] Tryz.underlying69
@[simp] theorem ag69 : aggOf Tryz.prog 69 = some false := by kernel_rfl
@[simp] theorem sz69 : szOf Tryz.prog 69 = some 1 := by kernel_rfl
@[simp] theorem zr69 : zeroOf Tryz.prog 69 = some [.nilf] := by kernel_rfl
attribute [simp] Tryz.underlying70
@[simp] theorem ag70 : aggOf Tryz.prog 70 = some false := by kernel_rfl
@[simp] theorem sz70 : szOf Tryz.prog 70 = some 1 := by kernel_rfl
@[simp] theorem zr70 : zeroOf Tryz.prog 70 = some [.nilf] := by kernel_rfl
attribute [simp] Tryz.underlying71
@[simp] theorem ag71 : aggOf Tryz.prog 71 = some false := by kernel_rfl
@[simp] theorem sz71 : szOf Tryz.prog 71 = some 1 := by kernel_rfl
@[simp] theorem zr71 : zeroOf Tryz.prog 71 = some [.nilf] := by kernel_rfl
attribute [simp] Tryz.underlying72
@[simp] theorem ag72 : aggOf Tryz.prog 72 = some false := by kernel_rfl
@[simp] theorem sz72 : szOf Tryz.prog 72 = some 1 := by kernel_rfl
@[simp] theorem zr72 : zeroOf Tryz.prog 72 = some [.nilp] := by kernel_rfl
attribute [simp] Tryz.underlying73
@[simp] theorem ag73 : aggOf Tryz.prog 73 = some false := by kernel_rfl
@[simp] theorem sz73 : szOf Tryz.prog 73 = some 1 := by kernel_rfl
@[simp] theorem zr73 : zeroOf Tryz.prog 73 = some [.nilf] := by kernel_rfl
attribute [simp] Tryz.underlying74
@[simp] theorem ag74 : aggOf Tryz.prog 74 = some false := by kernel_rfl
@[simp] theorem sz74 : szOf Tryz.prog 74 = some 1 := by kernel_rfl
@[simp] theorem zr74 : zeroOf Tryz.prog 74 = some [.nilf] := by kernel_rfl
attribute [simp] Tryz.underlying75
@[simp] theorem ag75 : aggOf Tryz.prog 75 = some false := by kernel_rfl
@[simp] theorem sz75 : szOf Tryz.prog 75 = some 1 := by kernel_rfl
@[simp] theorem zr75 : zeroOf Tryz.prog 75 = some [.nilf] := by kernel_rfl
attribute [simp] Tryz.underlying76
@[simp] theorem ag76 : aggOf Tryz.prog 76 = some false := by kernel_rfl
@[simp] theorem sz76 : szOf Tryz.prog 76 = some 1 := by kernel_rfl
@[simp] theorem zr76 : zeroOf Tryz.prog 76 = some [.nilf] := by kernel_rfl
attribute [simp] Tryz.underlying77
@[simp] theorem ag77 : aggOf Tryz.prog 77 = some false := by kernel_rfl
@[simp] theorem sz77 : szOf Tryz.prog 77 = some 1 := by kernel_rfl
@[simp] theorem zr77 : zeroOf Tryz.prog 77 = some [.nilf] := by kernel_rfl
attribute [simp] Tryz.underlying78
@[simp] theorem ag78 : aggOf Tryz.prog 78 = some false := by kernel_rfl
@[simp] theorem sz78 : szOf Tryz.prog 78 = some 1 := by kernel_rfl
@[simp] theorem zr78 : zeroOf Tryz.prog 78 = some [.nilf] := by kernel_rfl
attribute [simp] Tryz.underlying79
@[simp] theorem ag79 : aggOf Tryz.prog 79 = some false := by kernel_rfl
@[simp] theorem sz79 : szOf Tryz.prog 79 = some 1 := by kernel_rfl
@[simp] theorem zr79 : zeroOf Tryz.prog 79 = some [.nilf] := by kernel_rfl
attribute [simp] Tryz.underlying80
@[simp] theorem ag80 : aggOf Tryz.prog 80 = some false := by kernel_rfl
@[simp] theorem sz80 : szOf Tryz.prog 80 = some 1 := by kernel_rfl
@[simp] theorem zr80 : zeroOf Tryz.prog 80 = some [.nilf] := by kernel_rfl
attribute [simp] Tryz.underlying81
@[simp] theorem ag81 : aggOf Tryz.prog 81 = some false := by kernel_rfl
@[simp] theorem sz81 : szOf Tryz.prog 81 = some 1 := by kernel_rfl
@[simp] theorem zr81 : zeroOf Tryz.prog 81 = some [.nilf] := by kernel_rfl
attribute [simp] Tryz.underlying82
@[simp] theorem ag82 : aggOf Tryz.prog 82 = some false := by kernel_rfl
@[simp] theorem sz82 : szOf Tryz.prog 82 = some 1 := by kernel_rfl
@[simp] theorem zr82 : zeroOf Tryz.prog 82 = some [.nilf] := by kernel_rfl
attribute [simp] Tryz.underlying83
@[simp] theorem ag83 : aggOf Tryz.prog 83 = some false := by kernel_rfl
@[simp] theorem sz83 : szOf Tryz.prog 83 = some 1 := by kernel_rfl
@[simp] theorem zr83 : zeroOf Tryz.prog 83 = some [.nilf] := by kernel_rfl
attribute [simp] Tryz.underlying84
@[simp] theorem ag84 : aggOf Tryz.prog 84 = some false := by kernel_rfl
@[simp] theorem sz84 : szOf Tryz.prog 84 = some 1 := by kernel_rfl
@[simp] theorem zr84 : zeroOf Tryz.prog 84 = some [.nilf] := by kernel_rfl
attribute [simp] Tryz.underlying85
@[simp] theorem ag85 : aggOf Tryz.prog 85 = some false := by kernel_rfl
@[simp] theorem sz85 : szOf Tryz.prog 85 = some 1 := by kernel_rfl
@[simp] theorem zr85 : zeroOf Tryz.prog 85 = some [.nilf] := by kernel_rfl
attribute [simp] Tryz.underlying86
@[simp] theorem ag86 : aggOf Tryz.prog 86 = some false := by kernel_rfl
@[simp] theorem sz86 : szOf Tryz.prog 86 = some 1 := by kernel_rfl
@[simp] theorem zr86 : zeroOf Tryz.prog 86 = some [.nilf] := by kernel_rfl
attribute [simp] Tryz.underlying87
@[simp] theorem ag87 : aggOf Tryz.prog 87 = some true := by kernel_rfl
@[simp] theorem sz87 : szOf Tryz.prog 87 = some 4 := by kernel_rfl
@[simp] theorem zr87 : zeroOf Tryz.prog 87 = some [.int .i64 0, .int .i64 0, .flt .f32 0, .flt .f32 0] := by kernel_rfl
@[simp] theorem pl87 : placesOf Tryz.prog 87 = some (fun i => ([(0, 1), (1, 1), (2, 1), (3, 1)] : List (Nat × Nat))[i]?) := by kernel_rfl
attribute [simp] Tryz.underlying88
@[simp] theorem ag88 : aggOf Tryz.prog 88 = some true := by kernel_rfl
@[simp] theorem sz88 : szOf Tryz.prog 88 = some 4 := by kernel_rfl
@[simp] theorem zr88 : zeroOf Tryz.prog 88 = some [.int .i64 0, .int .i64 0, .flt .f32 0, .flt .f32 0] := by kernel_rfl
@[simp] theorem pl88 : placesOf Tryz.prog 88 = some (fun i => ([(0, 1), (1, 1), (2, 1), (3, 1)] : List (Nat × Nat))[i]?) := by kernel_rfl
attribute [simp] Tryz.underlying89
@[simp] theorem ag89 : aggOf Tryz.prog 89 = some false := by kernel_rfl
@[simp] theorem sz89 : szOf Tryz.prog 89 = some 1 := by kernel_rfl
@[simp] theorem zr89 : zeroOf Tryz.prog 89 = some [.nilf] := by kernel_rfl
attribute [simp] Tryz.underlying90
@[simp] theorem ag90 : aggOf Tryz.prog 90 = some false := by kernel_rfl
@[simp] theorem sz90 : szOf Tryz.prog 90 = some 1 := by kernel_rfl
@[simp] theorem zr90 : zeroOf Tryz.prog 90 = some [.nilf] := by kernel_rfl
attribute [simp] Tryz.underlying91
@[simp] theorem ag91 : aggOf Tryz.prog 91 = some false := by kernel_rfl
@[simp] theorem sz91 : szOf Tryz.prog 91 = some 1 := by kernel_rfl
@[simp] theorem zr91 : zeroOf Tryz.prog 91 = some [.nilf] := by kernel_rfl
attribute [simp] Tryz.underlying92
@[simp] theorem ag92 : aggOf Tryz.prog 92 = some false := by kernel_rfl
@[simp] theorem sz92 : szOf Tryz.prog 92 = some 1 := by kernel_rfl
@[simp] theorem zr92 : zeroOf Tryz.prog 92 = some [.nilf] := by kernel_rfl
attribute [simp] Tryz.underlying93
@[simp] theorem ag93 : aggOf Tryz.prog 93 = some false := by kernel_rfl
@[simp] theorem sz93 : szOf Tryz.prog 93 = some 1 := by kernel_rfl
@[simp] theorem zr93 : zeroOf Tryz.prog 93 = some [.nilf] := by kernel_rfl
attribute [simp] Tryz.underlying94
@[simp] theorem ag94 : aggOf Tryz.prog 94 = some false := by kernel_rfl
@[simp] theorem sz94 : szOf Tryz.prog 94 = some 1 := by kernel_rfl
@[simp] theorem zr94 : zeroOf Tryz.prog 94 = some [.nilf] := by kernel_rfl
attribute [simp] Tryz.underlying95
@[simp] theorem ag95 : aggOf Tryz.prog 95 = some false := by kernel_rfl
@[simp] theorem sz95 : szOf Tryz.prog 95 = some 1 := by kernel_rfl
@[simp] theorem zr95 : zeroOf Tryz.prog 95 = some [.nilp] := by kernel_rfl
attribute [simp] Tryz.underlying96
@[simp] theorem ag96 : aggOf Tryz.prog 96 = some false := by kernel_rfl
@[simp] theorem sz96 : szOf Tryz.prog 96 = some 1 := by kernel_rfl
@[simp] theorem zr96 : zeroOf Tryz.prog 96 = some [.nilf] := by kernel_rfl
attribute [simp] Tryz.underlying97
@[simp] theorem ag97 : aggOf Tryz.prog 97 = some false := by kernel_rfl
@[simp] theorem sz97 : szOf Tryz.prog 97 = some 1 := by kernel_rfl
@[simp] theorem zr97 : zeroOf Tryz.prog 97 = some [.nilf] := by kernel_rfl
attribute [simp] Tryz.underlying98
@[simp] theorem ag98 : aggOf Tryz.prog 98 = some false := by kernel_rfl
@[simp] theorem sz98 : szOf Tryz.prog 98 = some 1 := by kernel_rfl
@[simp] theorem zr98 : zeroOf Tryz.prog 98 = some [.nilf] := by kernel_rfl
attribute [simp] Tryz.underlying99
@[simp] theorem ag99 : aggOf Tryz.prog 99 = some false := by kernel_rfl
@[simp] theorem sz99 : szOf Tryz.prog 99 = some 1 := by kernel_rfl
@[simp] theorem zr99 : zeroOf Tryz.prog 99 = some [.nilf] := by kernel_rfl
attribute [simp] Tryz.underlying100
@[simp] theorem ag100 : aggOf Tryz.prog 100 = some false := by kernel_rfl
@[simp] theorem sz100 : szOf Tryz.prog 100 = some 1 := by kernel_rfl
@[simp] theorem zr100 : zeroOf Tryz.prog 100 = some [.nilf] := by kernel_rfl
attribute [simp] Tryz.underlying101
@[simp] theorem ag101 : aggOf Tryz.prog 101 = some false := by kernel_rfl
@[simp] theorem sz101 : szOf Tryz.prog 101 = some 1 := by kernel_rfl
@[simp] theorem zr101 : zeroOf Tryz.prog 101 = some [.nilf] := by kernel_rfl
attribute [simp] Tryz.underlying102
@[simp] theorem ag102 : aggOf Tryz.prog 102 = some false := by kernel_rfl
@[simp] theorem sz102 : szOf Tryz.prog 102 = some 1 := by kernel_rfl
@[simp] theorem zr102 : zeroOf Tryz.prog 102 = some [.nilf] := by kernel_rfl
attribute [simp] Tryz.underlying103
@[simp] theorem ag103 : aggOf Tryz.prog 103 = some false := by kernel_rfl
@[simp] theorem sz103 : szOf Tryz.prog 103 = some 1 := by kernel_rfl
@[simp] theorem zr103 : zeroOf Tryz.prog 103 = some [.nils] := by kernel_rfl
attribute [simp] Tryz.underlying104
@[simp] theorem ag104 : aggOf Tryz.prog 104 = some false := by kernel_rfl
@[simp] theorem sz104 : szOf Tryz.prog 104 = some 1 := by kernel_rfl
@[simp] theorem zr104 : zeroOf Tryz.prog 104 = some [.nilf] := by kernel_rfl
attribute [simp] Tryz.underlying105
@[simp] theorem ag105 : aggOf Tryz.prog 105 = some false := by kernel_rfl
@[simp] theorem sz105 : szOf Tryz.prog 105 = some 1 := by kernel_rfl
@[simp] theorem zr105 : zeroOf Tryz.prog 105 = some [.nilf] := by kernel_rfl
attribute [simp] Tryz.underlying106
@[simp] theorem ag106 : aggOf Tryz.prog 106 = some false := by kernel_rfl
@[simp] theorem sz106 : szOf Tryz.prog 106 = some 1 := by kernel_rfl
@[simp] theorem zr106 : zeroOf Tryz.prog 106 = some [.nilf] := by kernel_rfl
attribute [simp] Tryz.underlying107
@[simp] theorem ag107 : aggOf Tryz.prog 107 = some false := by kernel_rfl
@[simp] theorem sz107 : szOf Tryz.prog 107 = some 1 := by kernel_rfl
@[simp] theorem zr107 : zeroOf Tryz.prog 107 = some [.int .u64 0] := by kernel_rfl
attribute [simp] Tryz.underlying108
@[simp] theorem ag108 : aggOf Tryz.prog 108 = some true := by kernel_rfl
@[simp] theorem sz108 : szOf Tryz.prog 108 = some 3 := by kernel_rfl
@[simp] theorem zr108 : zeroOf Tryz.prog 108 = some [.nils, .int .i64 0, .int .u64 0] := by kernel_rfl
@[simp] theorem pl108 : placesOf Tryz.prog 108 = some (fun i => ([(0, 1), (1, 1), (2, 1)] : List (Nat × Nat))[i]?) := by kernel_rfl
attribute [simp] Tryz.underlying109
@[simp] theorem ag109 : aggOf Tryz.prog 109 = some true := by kernel_rfl
@[simp] theorem sz109 : szOf Tryz.prog 109 = some 3 := by kernel_rfl
@[simp] theorem zr109 : zeroOf Tryz.prog 109 = some [.nils, .int .i64 0, .int .u64 0] := by kernel_rfl
@[simp] theorem pl109 : placesOf Tryz.prog 109 = some (fun i => ([(0, 1), (1, 1), (2, 1)] : List (Nat × Nat))[i]?) := by kernel_rfl
attribute [simp] Tryz.underlying110
@[simp] theorem ag110 : aggOf Tryz.prog 110 = some false := by kernel_rfl
@[simp] theorem sz110 : szOf Tryz.prog 110 = some 1 := by kernel_rfl
@[simp] theorem zr110 : zeroOf Tryz.prog 110 = some [.nilf] := by kernel_rfl
attribute [simp] Tryz.underlying111
@[simp] theorem ag111 : aggOf Tryz.prog 111 = some false := by kernel_rfl
@[simp] theorem sz111 : szOf Tryz.prog 111 = some 1 := by kernel_rfl
@[simp] theorem zr111 : zeroOf Tryz.prog 111 = some [.nilf] := by kernel_rfl
attribute [simp] Tryz.underlying112
@[simp] theorem ag112 : aggOf Tryz.prog 112 = some false := by kernel_rfl
@[simp] theorem sz112 : szOf Tryz.prog 112 = some 1 := by kernel_rfl
@[simp] theorem zr112 : zeroOf Tryz.prog 112 = some [.nilf] := by kernel_rfl
attribute [simp] Tryz.underlying113
@[simp] theorem ag113 : aggOf Tryz.prog 113 = some false := by kernel_rfl
@[simp] theorem sz113 : szOf Tryz.prog 113 = some 1 := by kernel_rfl
@[simp] theorem zr113 : zeroOf Tryz.prog 113 = some [.nilf] := by kernel_rfl
attribute [simp] Tryz.underlying114
@[simp] theorem ag114 : aggOf Tryz.prog 114 = some false := by kernel_rfl
@[simp] theorem sz114 : szOf Tryz.prog 114 = some 1 := by kernel_rfl
@[simp] theorem zr114 : zeroOf Tryz.prog 114 = some [.nilf] := by kernel_rfl
attribute [simp] Tryz.underlying115
@[simp] theorem ag115 : aggOf Tryz.prog 115 = some false := by kernel_rfl
@[simp] theorem sz115 : szOf Tryz.prog 115 = some 1 := by kernel_rfl
@[simp] theorem zr115 : zeroOf Tryz.prog 115 = some [.nilf] := by kernel_rfl
attribute [simp] Tryz.underlying116
@[simp] theorem ag116 : aggOf Tryz.prog 116 = some false := by kernel_rfl
@[simp] theorem sz116 : szOf Tryz.prog 116 = some 1 := by kernel_rfl
@[simp] theorem zr116 : zeroOf Tryz.prog 116 = some [.nilf] := by kernel_rfl
attribute [simp] Tryz.underlying117
@[simp] theorem ag117 : aggOf Tryz.prog 117 = some false := by kernel_rfl
@[simp] theorem sz117 : szOf Tryz.prog 117 = some 1 := by kernel_rfl
@[simp] theorem zr117 : zeroOf Tryz.prog 117 = some [.nilf] := by kernel_rfl
attribute [simp] Tryz.underlying118
@[simp] theorem ag118 : aggOf Tryz.prog 118 = some false := by kernel_rfl
@[simp] theorem sz118 : szOf Tryz.prog 118 = some 1 := by kernel_rfl
@[simp] theorem zr118 : zeroOf Tryz.prog 118 = some [.nilf] := by kernel_rfl
attribute [simp] Tryz.underlying119
@[simp] theorem ag119 : aggOf Tryz.prog 119 = some false := by kernel_rfl
@[simp] theorem sz119 : szOf Tryz.prog 119 = some 1 := by kernel_rfl
@[simp] theorem zr119 : zeroOf Tryz.prog 119 = some [.nilf] := by kernel_rfl
attribute [simp] Tryz.underlying120
@[simp] theorem ag120 : aggOf Tryz.prog 120 = some false := by kernel_rfl
@[simp] theorem sz120 : szOf Tryz.prog 120 = some 1 := by kernel_rfl
@[simp] theorem zr120 : zeroOf Tryz.prog 120 = some [.flt .f64 0] := by kernel_rfl
attribute [simp] Tryz.underlying121
@[simp] theorem ag121 : aggOf Tryz.prog 121 = some false := by kernel_rfl
@[simp] theorem sz121 : szOf Tryz.prog 121 = some 1 := by kernel_rfl
@[simp] theorem zr121 : zeroOf Tryz.prog 121 = some [.nilf] := by kernel_rfl
attribute [simp] Tryz.underlying122
@[simp] theorem ag122 : aggOf Tryz.prog 122 = some false := by kernel_rfl
@[simp] theorem sz122 : szOf Tryz.prog 122 = some 1 := by kernel_rfl
@[simp] theorem zr122 : zeroOf Tryz.prog 122 = some [.nilf] := by kernel_rfl
attribute [simp] Tryz.underlying123
@[simp] theorem ag123 : aggOf Tryz.prog 123 = some false := by kernel_rfl
@[simp] theorem sz123 : szOf Tryz.prog 123 = some 1 := by kernel_rfl
@[simp] theorem zr123 : zeroOf Tryz.prog 123 = some [.nilf] := by kernel_rfl
attribute [simp] Tryz.underlying124
@[simp] theorem ag124 : aggOf Tryz.prog 124 = some true := by kernel_rfl
@[simp] theorem sz124 : szOf Tryz.prog 124 = some 0 := by kernel_rfl
@[simp] theorem zr124 : zeroOf Tryz.prog 124 = some [] := by kernel_rfl
@[simp] theorem pl124 : placesOf Tryz.prog 124 = some (fun i => ([] : List (Nat × Nat))[i]?) := by kernel_rfl
attribute [simp] Tryz.underlying125
@[simp] theorem ag125 : aggOf Tryz.prog 125 = some true := by kernel_rfl
@[simp] theorem sz125 : szOf Tryz.prog 125 = some 0 := by kernel_rfl
@[simp] theorem zr125 : zeroOf Tryz.prog 125 = some [] := by kernel_rfl
@[simp] theorem pl125 : placesOf Tryz.prog 125 = some (fun i => ([] : List (Nat × Nat))[i]?) := by kernel_rfl
attribute [simp] Tryz.underlying126
@[simp] theorem ag126 : aggOf Tryz.prog 126 = some true := by kernel_rfl
@[simp] theorem sz126 : szOf Tryz.prog 126 = some 0 := by kernel_rfl
@[simp] theorem zr126 : zeroOf Tryz.prog 126 = some [] := by kernel_rfl
@[simp] theorem pl126 : placesOf Tryz.prog 126 = some (fun i => ([] : List (Nat × Nat))[i]?) := by kernel_rfl
attribute [simp] Tryz.underlying127
@[simp] theorem ag127 : aggOf Tryz.prog 127 = some true := by kernel_rfl
@[simp] theorem sz127 : szOf Tryz.prog 127 = some 0 := by kernel_rfl
@[simp] theorem zr127 : zeroOf Tryz.prog 127 = some [] := by kernel_rfl
@[simp] theorem pl127 : placesOf Tryz.prog 127 = some (fun i => ([] : List (Nat × Nat))[i]?) := by kernel_rfl
attribute [simp] Tryz.underlying128
@[simp] theorem ag128 : aggOf Tryz.prog 128 = some true := by kernel_rfl
@[simp] theorem sz128 : szOf Tryz.prog 128 = some 1 := by kernel_rfl
@[simp] theorem zr128 : zeroOf Tryz.prog 128 = some [.int .u64 0] := by kernel_rfl
@[simp] theorem pl128 : placesOf Tryz.prog 128 = some (fun i => ([(0, 0), (0, 0), (0, 1)] : List (Nat × Nat))[i]?) := by kernel_rfl
attribute [simp] Tryz.underlying129
@[simp] theorem ag129 : aggOf Tryz.prog 129 = some true := by kernel_rfl
@[simp] theorem sz129 : szOf Tryz.prog 129 = some 1 := by kernel_rfl
@[simp] theorem zr129 : zeroOf Tryz.prog 129 = some [.int .u64 0] := by kernel_rfl
@[simp] theorem pl129 : placesOf Tryz.prog 129 = some (fun i => ([(0, 0), (0, 0), (0, 1)] : List (Nat × Nat))[i]?) := by kernel_rfl
attribute [simp] Tryz.underlying130
@[simp] theorem ag130 : aggOf Tryz.prog 130 = some false := by kernel_rfl
@[simp] theorem sz130 : szOf Tryz.prog 130 = some 1 := by kernel_rfl
@[simp] theorem zr130 : zeroOf Tryz.prog 130 = some [.int .u32 0] := by kernel_rfl
attribute [simp] Tryz.underlying131
@[simp] theorem ag131 : aggOf Tryz.prog 131 = some true := by kernel_rfl
@[simp] theorem sz131 : szOf Tryz.prog 131 = some 2 := by kernel_rfl
@[simp] theorem zr131 : zeroOf Tryz.prog 131 = some [.int .u64 0, .int .u32 0] := by kernel_rfl
@[simp] theorem pl131 : placesOf Tryz.prog 131 = some (fun i => ([(0, 0), (0, 1), (1, 1)] : List (Nat × Nat))[i]?) := by kernel_rfl
attribute [simp] Tryz.underlying132
@[simp] theorem ag132 : aggOf Tryz.prog 132 = some true := by kernel_rfl
@[simp] theorem sz132 : szOf Tryz.prog 132 = some 2 := by kernel_rfl
@[simp] theorem zr132 : zeroOf Tryz.prog 132 = some [.int .u64 0, .int .u32 0] := by kernel_rfl
@[simp] theorem pl132 : placesOf Tryz.prog 132 = some (fun i => ([(0, 0), (0, 1), (1, 1)] : List (Nat × Nat))[i]?) := by kernel_rfl
attribute [simp] Tryz.underlying133
@[simp] theorem ag133 : aggOf Tryz.prog 133 = some false := by kernel_rfl
@[simp] theorem sz133 : szOf Tryz.prog 133 = some 1 := by kernel_rfl
@[simp] theorem zr133 : zeroOf Tryz.prog 133 = some [.nilf] := by kernel_rfl
attribute [simp] Tryz.underlying134
@[simp] theorem ag134 : aggOf Tryz.prog 134 = some false := by kernel_rfl
@[simp] theorem sz134 : szOf Tryz.prog 134 = some 1 := by kernel_rfl
@[simp] theorem zr134 : zeroOf Tryz.prog 134 = some [.nilf] := by kernel_rfl
attribute [simp] Tryz.underlying135
@[simp] theorem ag135 : aggOf Tryz.prog 135 = some false := by kernel_rfl
@[simp] theorem sz135 : szOf Tryz.prog 135 = some 1 := by kernel_rfl
@[simp] theorem zr135 : zeroOf Tryz.prog 135 = some [.nilf] := by kernel_rfl
attribute [simp] Tryz.underlying136
@[simp] theorem ag136 : aggOf Tryz.prog 136 = some false := by kernel_rfl
@[simp] theorem sz136 : szOf Tryz.prog 136 = some 1 := by kernel_rfl
@[simp] theorem zr136 : zeroOf Tryz.prog 136 = some [.nilf] := by kernel_rfl
attribute [simp] Tryz.underlying137
@[simp] theorem ag137 : aggOf Tryz.prog 137 = some false := by kernel_rfl
@[simp] theorem sz137 : szOf Tryz.prog 137 = some 1 := by kernel_rfl
attribute [simp] Tryz.underlying138
@[simp] theorem ag138 : aggOf Tryz.prog 138 = some false := by kernel_rfl
@[simp] theorem sz138 : szOf Tryz.prog 138 = some 1 := by kernel_rfl
@[simp] theorem zr138 : zeroOf Tryz.prog 138 = some [.nilf] := by kernel_rfl
attribute [simp] Tryz.underlying139
@[simp] theorem ag139 : aggOf Tryz.prog 139 = some false := by kernel_rfl
@[simp] theorem sz139 : szOf Tryz.prog 139 = some 1 := by kernel_rfl
@[simp] theorem zr139 : zeroOf Tryz.prog 139 = some [.nilf] := by kernel_rfl
attribute [simp] Tryz.underlying140
@[simp] theorem ag140 : aggOf Tryz.prog 140 = some false := by kernel_rfl
@[simp] theorem sz140 : szOf Tryz.prog 140 = some 1 := by kernel_rfl
@[simp] theorem zr140 : zeroOf Tryz.prog 140 = some [.nilf] := by kernel_rfl
attribute [simp] Tryz.underlying141
@[simp] theorem ag141 : aggOf Tryz.prog 141 = some false := by kernel_rfl
@[simp] theorem sz141 : szOf Tryz.prog 141 = some 1 := by kernel_rfl
@[simp] theorem zr141 : zeroOf Tryz.prog 141 = some [.nilf] := by kernel_rfl
attribute [simp] Tryz.underlying142
@[simp] theorem ag142 : aggOf Tryz.prog 142 = some false := by kernel_rfl
@[simp] theorem sz142 : szOf Tryz.prog 142 = some 1 := by kernel_rfl
@[simp] theorem zr142 : zeroOf Tryz.prog 142 = some [.int .u64 0] := by kernel_rfl
attribute [simp] Tryz.underlying143
@[simp] theorem ag143 : aggOf Tryz.prog 143 = some false := by kernel_rfl
@[simp] theorem sz143 : szOf Tryz.prog 143 = some 1 := by kernel_rfl
@[simp] theorem zr143 : zeroOf Tryz.prog 143 = some [.nilf] := by kernel_rfl
attribute [simp] Tryz.underlying144
@[simp] theorem ag144 : aggOf Tryz.prog 144 = some false := by kernel_rfl
@[simp] theorem sz144 : szOf Tryz.prog 144 = some 1 := by kernel_rfl
@[simp] theorem zr144 : zeroOf Tryz.prog 144 = some [.nilf] := by kernel_rfl
attribute [simp] Tryz.underlying145
@[simp] theorem ag145 : aggOf Tryz.prog 145 = some false := by kernel_rfl
@[simp] theorem sz145 : szOf Tryz.prog 145 = some 1 := by kernel_rfl
@[simp] theorem zr145 : zeroOf Tryz.prog 145 = some [.nilf] := by kernel_rfl
attribute [simp] Tryz.underlying146
@[simp] theorem ag146 : aggOf Tryz.prog 146 = some false := by kernel_rfl
@[simp] theorem sz146 : szOf Tryz.prog 146 = some 1 := by kernel_rfl
@[simp] theorem zr146 : zeroOf Tryz.prog 146 = some [.nilf] := by kernel_rfl
attribute [simp] Tryz.underlying147
@[simp] theorem ag147 : aggOf Tryz.prog 147 = some false := by kernel_rfl
@[simp] theorem sz147 : szOf Tryz.prog 147 = some 1 := by kernel_rfl
@[simp] theorem zr147 : zeroOf Tryz.prog 147 = some [.nilf] := by kernel_rfl
attribute [simp] Tryz.underlying148
@[simp] theorem ag148 : aggOf Tryz.prog 148 = some false := by kernel_rfl
@[simp] theorem sz148 : szOf Tryz.prog 148 = some 1 := by kernel_rfl
@[simp] theorem zr148 : zeroOf Tryz.prog 148 = some [.nilf] := by kernel_rfl
attribute [simp] Tryz.underlying149
@[simp] theorem ag149 : aggOf Tryz.prog 149 = some false := by kernel_rfl
@[simp] theorem sz149 : szOf Tryz.prog 149 = some 1 := by kernel_rfl
@[simp] theorem zr149 : zeroOf Tryz.prog 149 = some [.nilf] := by kernel_rfl
attribute [simp] Tryz.underlying150
@[simp] theorem ag150 : aggOf Tryz.prog 150 = some false := by kernel_rfl
@[simp] theorem sz150 : szOf Tryz.prog 150 = some 1 := by kernel_rfl
@[simp] theorem zr150 : zeroOf Tryz.prog 150 = some [.nilf] := by kernel_rfl
attribute [simp] Tryz.underlying151
@[simp] theorem ag151 : aggOf Tryz.prog 151 = some false := by kernel_rfl
@[simp] theorem sz151 : szOf Tryz.prog 151 = some 1 := by kernel_rfl
@[simp] theorem zr151 : zeroOf Tryz.prog 151 = some [.nilf] := by kernel_rfl
attribute [simp] Tryz.underlying152
@[simp] theorem ag152 : aggOf Tryz.prog 152 = some false := by kernel_rfl
@[simp] theorem sz152 : szOf Tryz.prog 152 = some 1 := by kernel_rfl
@[simp] theorem zr152 : zeroOf Tryz.prog 152 = some [.nilf] := by kernel_rfl
attribute [simp] Tryz.underlying153
@[simp] theorem ag153 : aggOf Tryz.prog 153 = some false := by kernel_rfl
@[simp] theorem sz153 : szOf Tryz.prog 153 = some 1 := by kernel_rfl
@[simp] theorem zr153 : zeroOf Tryz.prog 153 = some [.nilp] := by kernel_rfl
attribute [simp] Tryz.underlying154
@[simp] theorem ag154 : aggOf Tryz.prog 154 = some false := by kernel_rfl
@[simp] theorem sz154 : szOf Tryz.prog 154 = some 1 := by kernel_rfl
@[simp] theorem zr154 : zeroOf Tryz.prog 154 = some [.nilf] := by kernel_rfl
attribute [simp] Tryz.underlying155
@[simp] theorem ag155 : aggOf Tryz.prog 155 = some false := by kernel_rfl
@[simp] theorem sz155 : szOf Tryz.prog 155 = some 1 := by kernel_rfl
@[simp] theorem zr155 : zeroOf Tryz.prog 155 = some [.nilf] := by kernel_rfl
attribute [simp] Tryz.underlying156
@[simp] theorem ag156 : aggOf Tryz.prog 156 = some false := by kernel_rfl
@[simp] theorem sz156 : szOf Tryz.prog 156 = some 1 := by kernel_rfl
@[simp] theorem zr156 : zeroOf Tryz.prog 156 = some [.nilf] := by kernel_rfl
attribute [simp] Tryz.underlying157
@[simp] theorem ag157 : aggOf Tryz.prog 157 = some false := by kernel_rfl
@[simp] theorem sz157 : szOf Tryz.prog 157 = some 1 := by kernel_rfl
@[simp] theorem zr157 : zeroOf Tryz.prog 157 = some [.nilp] := by kernel_rfl
attribute [simp] Tryz.underlying158
@[simp] theorem ag158 : aggOf Tryz.prog 158 = some false := by kernel_rfl
@[simp] theorem sz158 : szOf Tryz.prog 158 = some 1 := by kernel_rfl
@[simp] theorem zr158 : zeroOf Tryz.prog 158 = some [.nilf] := by kernel_rfl
attribute [simp] Tryz.underlying159
@[simp] theorem ag159 : aggOf Tryz.prog 159 = some false := by kernel_rfl
@[simp] theorem sz159 : szOf Tryz.prog 159 = some 1 := by kernel_rfl
@[simp] theorem zr159 : zeroOf Tryz.prog 159 = some [.nilf] := by kernel_rfl
attribute [simp] Tryz.underlying160
@[simp] theorem ag160 : aggOf Tryz.prog 160 = some false := by kernel_rfl
@[simp] theorem sz160 : szOf Tryz.prog 160 = some 1 := by kernel_rfl
@[simp] theorem zr160 : zeroOf Tryz.prog 160 = some [.nilf] := by kernel_rfl
attribute [simp] Tryz.underlying161
@[simp] theorem ag161 : aggOf Tryz.prog 161 = some false := by kernel_rfl
@[simp] theorem sz161 : szOf Tryz.prog 161 = some 1 := by kernel_rfl
@[simp] theorem zr161 : zeroOf Tryz.prog 161 = some [.nilp] := by kernel_rfl
attribute [simp] Tryz.underlying162
@[simp] theorem ag162 : aggOf Tryz.prog 162 = some false := by kernel_rfl
@[simp] theorem sz162 : szOf Tryz.prog 162 = some 1 := by kernel_rfl
@[simp] theorem zr162 : zeroOf Tryz.prog 162 = some [.nilf] := by kernel_rfl
attribute [simp] Tryz.underlying163
@[simp] theorem ag163 : aggOf Tryz.prog 163 = some false := by kernel_rfl
@[simp] theorem sz163 : szOf Tryz.prog 163 = some 1 := by kernel_rfl
@[simp] theorem zr163 : zeroOf Tryz.prog 163 = some [.nilf] := by kernel_rfl
attribute [simp] Tryz.underlying164
@[simp] theorem ag164 : aggOf Tryz.prog 164 = some false := by kernel_rfl
@[simp] theorem sz164 : szOf Tryz.prog 164 = some 1 := by kernel_rfl
@[simp] theorem zr164 : zeroOf Tryz.prog 164 = some [.nilf] := by kernel_rfl
attribute [simp] Tryz.underlying165
@[simp] theorem ag165 : aggOf Tryz.prog 165 = some false := by kernel_rfl
@[simp] theorem sz165 : szOf Tryz.prog 165 = some 1 := by kernel_rfl
@[simp] theorem zr165 : zeroOf Tryz.prog 165 = some [.nilf] := by kernel_rfl
attribute [simp] Tryz.underlying166
@[simp] theorem ag166 : aggOf Tryz.prog 166 = some false := by kernel_rfl
@[simp] theorem sz166 : szOf Tryz.prog 166 = some 1 := by kernel_rfl
@[simp] theorem zr166 : zeroOf Tryz.prog 166 = some [.nilf] := by kernel_rfl
attribute [simp] Tryz.underlying167
@[simp] theorem ag167 : aggOf Tryz.prog 167 = some false := by kernel_rfl
@[simp] theorem sz167 : szOf Tryz.prog 167 = some 1 := by kernel_rfl
@[simp] theorem zr167 : zeroOf Tryz.prog 167 = some [.any] := by kernel_rfl
attribute [simp] Tryz.underlying168
@[simp] theorem ag168 : aggOf Tryz.prog 168 = some false := by kernel_rfl
@[simp] theorem sz168 : szOf Tryz.prog 168 = some 1 := by kernel_rfl
@[simp] theorem zr168 : zeroOf Tryz.prog 168 = some [.nils] := by kernel_rfl
attribute [simp] Tryz.underlying169
@[simp] theorem ag169 : aggOf Tryz.prog 169 = some false := by kernel_rfl
@[simp] theorem sz169 : szOf Tryz.prog 169 = some 1 := by kernel_rfl
attribute [simp] Tryz.underlying170
@[simp] theorem ag170 : aggOf Tryz.prog 170 = some false := by kernel_rfl
@[simp] theorem sz170 : szOf Tryz.prog 170 = some 1 := by kernel_rfl
@[simp] theorem zr170 : zeroOf Tryz.prog 170 = some [.nilf] := by kernel_rfl
attribute [simp] Tryz.underlying171
@[simp] theorem ag171 : aggOf Tryz.prog 171 = some true := by kernel_rfl
@[simp] theorem sz171 : szOf Tryz.prog 171 = some 2 := by kernel_rfl
@[simp] theorem zr171 : zeroOf Tryz.prog 171 = some [.int .i64 0, .int .i64 0] := by kernel_rfl
@[simp] theorem pl171 : placesOf Tryz.prog 171 = some (fun i => some (i * 1, 1)) := by kernel_rfl
attribute [simp] Tryz.underlying172
@[simp] theorem ag172 : aggOf Tryz.prog 172 = some true := by kernel_rfl
@[simp] theorem sz172 : szOf Tryz.prog 172 = some 2 := by kernel_rfl
@[simp] theorem zr172 : zeroOf Tryz.prog 172 = some [.int .i64 0, .int .i64 0] := by kernel_rfl
@[simp] theorem pl172 : placesOf Tryz.prog 172 = some (fun i => some (i * 1, 1)) := by kernel_rfl
attribute [simp] Tryz.underlying173
@[simp] theorem ag173 : aggOf Tryz.prog 173 = some false := by kernel_rfl
@[simp] theorem sz173 : szOf Tryz.prog 173 = some 1 := by kernel_rfl
@[simp] theorem zr173 : zeroOf Tryz.prog 173 = some [.nilf] := by kernel_rfl
attribute [simp] Tryz.underlying174
@[simp] theorem ag174 : aggOf Tryz.prog 174 = some false := by kernel_rfl
@[simp] theorem sz174 : szOf Tryz.prog 174 = some 1 := by kernel_rfl
@[simp] theorem zr174 : zeroOf Tryz.prog 174 = some [.int .i64 0] := by kernel_rfl
attribute [simp] Tryz.underlying175
@[simp] theorem ag175 : aggOf Tryz.prog 175 = some false := by kernel_rfl
@[simp] theorem sz175 : szOf Tryz.prog 175 = some 1 := by kernel_rfl
@[simp] theorem zr175 : zeroOf Tryz.prog 175 = some [.nilf] := by kernel_rfl
attribute [simp] Tryz.underlying176
@[simp] theorem ag176 : aggOf Tryz.prog 176 = some false := by kernel_rfl
@[simp] theorem sz176 : szOf Tryz.prog 176 = some 1 := by kernel_rfl
@[simp] theorem zr176 : zeroOf Tryz.prog 176 = some [.nilf] := by kernel_rfl
attribute [simp] Tryz.underlying177
@[simp] theorem ag177 : aggOf Tryz.prog 177 = some false := by kernel_rfl
@[simp] theorem sz177 : szOf Tryz.prog 177 = some 1 := by kernel_rfl
@[simp] theorem zr177 : zeroOf Tryz.prog 177 = some [.nilf] := by kernel_rfl
attribute [simp] Tryz.underlying178
@[simp] theorem ag178 : aggOf Tryz.prog 178 = some false := by kernel_rfl
@[simp] theorem sz178 : szOf Tryz.prog 178 = some 1 := by kernel_rfl
@[simp] theorem zr178 : zeroOf Tryz.prog 178 = some [.nilf] := by kernel_rfl
attribute [simp] Tryz.underlying179
@[simp] theorem ag179 : aggOf Tryz.prog 179 = some false := by kernel_rfl
@[simp] theorem sz179 : szOf Tryz.prog 179 = some 1 := by kernel_rfl
@[simp] theorem zr179 : zeroOf Tryz.prog 179 = some [.nilf] := by kernel_rfl
attribute [simp] Tryz.underlying180
@[simp] theorem ag180 : aggOf Tryz.prog 180 = some false := by kernel_rfl
@[simp] theorem sz180 : szOf Tryz.prog 180 = some 1 := by kernel_rfl
@[simp] theorem zr180 : zeroOf Tryz.prog 180 = some [.nilp] := by kernel_rfl
attribute [simp] Tryz.underlying181
@[simp] theorem ag181 : aggOf Tryz.prog 181 = some false := by kernel_rfl
@[simp] theorem sz181 : szOf Tryz.prog 181 = some 1 := by kernel_rfl
@[simp] theorem zr181 : zeroOf Tryz.prog 181 = some [.nilf] := by kernel_rfl
attribute [simp] Tryz.underlying182
@[simp] theorem ag182 : aggOf Tryz.prog 182 = some false := by kernel_rfl
@[simp] theorem sz182 : szOf Tryz.prog 182 = some 1 := by kernel_rfl
@[simp] theorem zr182 : zeroOf Tryz.prog 182 = some [.nilp] := by kernel_rfl
attribute [simp] Tryz.underlying183
@[simp] theorem ag183 : aggOf Tryz.prog 183 = some false := by kernel_rfl
@[simp] theorem sz183 : szOf Tryz.prog 183 = some 1 := by kernel_rfl
@[simp] theorem zr183 : zeroOf Tryz.prog 183 = some [.nilf] := by kernel_rfl
attribute [simp] Tryz.underlying184
@[simp] theorem ag184 : aggOf Tryz.prog 184 = some false := by kernel_rfl
@[simp] theorem sz184 : szOf Tryz.prog 184 = some 1 := by kernel_rfl
@[simp] theorem zr184 : zeroOf Tryz.prog 184 = some [.nilf] := by kernel_rfl
attribute [simp] Tryz.underlying185
@[simp] theorem ag185 : aggOf Tryz.prog 185 = some false := by kernel_rfl
@[simp] theorem sz185 : szOf Tryz.prog 185 = some 1 := by kernel_rfl
@[simp] theorem zr185 : zeroOf Tryz.prog 185 = some [.nilf] := by kernel_rfl
attribute [simp] Tryz.underlying186
@[simp] theorem ag186 : aggOf Tryz.prog 186 = some false := by kernel_rfl
@[simp] theorem sz186 : szOf Tryz.prog 186 = some 1 := by kernel_rfl
@[simp] theorem zr186 : zeroOf Tryz.prog 186 = some [.nilf] := by kernel_rfl
attribute [simp] Tryz.underlying187
@[simp] theorem ag187 : aggOf Tryz.prog 187 = some false := by kernel_rfl
@[simp] theorem sz187 : szOf Tryz.prog 187 = some 1 := by kernel_rfl
@[simp] theorem zr187 : zeroOf Tryz.prog 187 = some [.nilf] := by kernel_rfl
attribute [simp] Tryz.underlying188
@[simp] theorem ag188 : aggOf Tryz.prog 188 = some false := by kernel_rfl
@[simp] theorem sz188 : szOf Tryz.prog 188 = some 1 := by kernel_rfl
@[simp] theorem zr188 : zeroOf Tryz.prog 188 = some [.nilf] := by kernel_rfl
attribute [simp] Tryz.underlying189
@[simp] theorem ag189 : aggOf Tryz.prog 189 = some false := by kernel_rfl
@[simp] theorem sz189 : szOf Tryz.prog 189 = some 1 := by kernel_rfl
@[simp] theorem zr189 : zeroOf Tryz.prog 189 = some [.nilf] := by kernel_rfl
attribute [simp] Tryz.underlying190
@[simp] theorem ag190 : aggOf Tryz.prog 190 = some false := by kernel_rfl
@[simp] theorem sz190 : szOf Tryz.prog 190 = some 1 := by kernel_rfl
@[simp] theorem zr190 : zeroOf Tryz.prog 190 = some [.nilf] := by kernel_rfl
attribute [simp] Tryz.underlying191
@[simp] theorem ag191 : aggOf Tryz.prog 191 = some false := by kernel_rfl
@[simp] theorem sz191 : szOf Tryz.prog 191 = some 1 := by kernel_rfl
@[simp] theorem zr191 : zeroOf Tryz.prog 191 = some [.nilf] := by kernel_rfl
attribute [simp] Tryz.underlying192
@[simp] theorem ag192 : aggOf Tryz.prog 192 = some false := by kernel_rfl
@[simp] theorem sz192 : szOf Tryz.prog 192 = some 1 := by kernel_rfl
@[simp] theorem zr192 : zeroOf Tryz.prog 192 = some [.nilf] := by kernel_rfl
attribute [simp] Tryz.underlying193
@[simp] theorem ag193 : aggOf Tryz.prog 193 = some false := by kernel_rfl
@[simp] theorem sz193 : szOf Tryz.prog 193 = some 1 := by kernel_rfl
@[simp] theorem zr193 : zeroOf Tryz.prog 193 = some [.nilf] := by kernel_rfl
attribute [simp] Tryz.underlying194
@[simp] theorem ag194 : aggOf Tryz.prog 194 = some false := by kernel_rfl
@[simp] theorem sz194 : szOf Tryz.prog 194 = some 1 := by kernel_rfl
@[simp] theorem zr194 : zeroOf Tryz.prog 194 = some [.nilf] := by kernel_rfl
attribute [simp] Tryz.underlying195
@[simp] theorem ag195 : aggOf Tryz.prog 195 = some false := by kernel_rfl
@[simp] theorem sz195 : szOf Tryz.prog 195 = some 1 := by kernel_rfl
@[simp] theorem zr195 : zeroOf Tryz.prog 195 = some [.nilf] := by kernel_rfl
attribute [simp] Tryz.underlying196
@[simp] theorem ag196 : aggOf Tryz.prog 196 = some false := by kernel_rfl
@[simp] theorem sz196 : szOf Tryz.prog 196 = some 1 := by kernel_rfl
@[simp] theorem zr196 : zeroOf Tryz.prog 196 = some [.nilf] := by kernel_rfl
attribute [simp] Tryz.underlying197
@[simp] theorem ag197 : aggOf Tryz.prog 197 = some false := by kernel_rfl
@[simp] theorem sz197 : szOf Tryz.prog 197 = some 1 := by kernel_rfl
@[simp] theorem zr197 : zeroOf Tryz.prog 197 = some [.nilf] := by kernel_rfl
attribute [simp] Tryz.underlying198
@[simp] theorem ag198 : aggOf Tryz.prog 198 = some false := by kernel_rfl
@[simp] theorem sz198 : szOf Tryz.prog 198 = some 1 := by kernel_rfl
@[simp] theorem zr198 : zeroOf Tryz.prog 198 = some [.nilf] := by kernel_rfl
attribute [simp] Tryz.underlying199
@[simp] theorem ag199 : aggOf Tryz.prog 199 = some false := by kernel_rfl
@[simp] theorem sz199 : szOf Tryz.prog 199 = some 1 := by kernel_rfl
@[simp] theorem zr199 : zeroOf Tryz.prog 199 = some [.int .i64 0] := by kernel_rfl
attribute [simp] Tryz.underlying200
@[simp] theorem ag200 : aggOf Tryz.prog 200 = some false := by kernel_rfl
@[simp] theorem sz200 : szOf Tryz.prog 200 = some 1 := by kernel_rfl
attribute [simp] Tryz.underlying201
@[simp] theorem ag201 : aggOf Tryz.prog 201 = some false := by kernel_rfl
@[simp] theorem sz201 : szOf Tryz.prog 201 = some 1 := by kernel_rfl
@[simp] theorem zr201 : zeroOf Tryz.prog 201 = some [.nilf] := by kernel_rfl
attribute [simp] Tryz.underlying202
@[simp] theorem ag202 : aggOf Tryz.prog 202 = some false := by kernel_rfl
@[simp] theorem sz202 : szOf Tryz.prog 202 = some 1 := by kernel_rfl
@[simp] theorem zr202 : zeroOf Tryz.prog 202 = some [.nilf] := by kernel_rfl
attribute [simp] Tryz.underlying203
@[simp] theorem ag203 : aggOf Tryz.prog 203 = some false := by kernel_rfl
@[simp] theorem sz203 : szOf Tryz.prog 203 = some 1 := by kernel_rfl
@[simp] theorem zr203 : zeroOf Tryz.prog 203 = some [.nilf] := by kernel_rfl
attribute [simp] Tryz.underlying204
@[simp] theorem ag204 : aggOf Tryz.prog 204 = some false := by kernel_rfl
@[simp] theorem sz204 : szOf Tryz.prog 204 = some 1 := by kernel_rfl
attribute [simp] Tryz.underlying205
@[simp] theorem ag205 : aggOf Tryz.prog 205 = some false := by kernel_rfl
@[simp] theorem sz205 : szOf Tryz.prog 205 = some 1 := by kernel_rfl
@[simp] theorem zr205 : zeroOf Tryz.prog 205 = some [.nilf] := by kernel_rfl
attribute [simp] Tryz.underlying206
@[simp] theorem ag206 : aggOf Tryz.prog 206 = some false := by kernel_rfl
@[simp] theorem sz206 : szOf Tryz.prog 206 = some 1 := by kernel_rfl
@[simp] theorem zr206 : zeroOf Tryz.prog 206 = some [.nilf] := by kernel_rfl
attribute [simp] Tryz.underlying207
@[simp] theorem ag207 : aggOf Tryz.prog 207 = some false := by kernel_rfl
@[simp] theorem sz207 : szOf Tryz.prog 207 = some 1 := by kernel_rfl
@[simp] theorem zr207 : zeroOf Tryz.prog 207 = some [.nilf] := by kernel_rfl
attribute [simp] Tryz.underlying208
@[simp] theorem ag208 : aggOf Tryz.prog 208 = some false := by kernel_rfl
@[simp] theorem sz208 : szOf Tryz.prog 208 = some 1 := by kernel_rfl
@[simp] theorem zr208 : zeroOf Tryz.prog 208 = some [.nilf] := by kernel_rfl
attribute [simp] Tryz.underlying209
@[simp] theorem ag209 : aggOf Tryz.prog 209 = some false := by kernel_rfl
@[simp] theorem sz209 : szOf Tryz.prog 209 = some 1 := by kernel_rfl
@[simp] theorem zr209 : zeroOf Tryz.prog 209 = some [.int .u64 0] := by kernel_rfl
attribute [simp] Tryz.underlying210
@[simp] theorem ag210 : aggOf Tryz.prog 210 = some false := by kernel_rfl
@[simp] theorem sz210 : szOf Tryz.prog 210 = some 1 := by kernel_rfl
@[simp] theorem zr210 : zeroOf Tryz.prog 210 = some [.nilf] := by kernel_rfl
attribute [simp] Tryz.underlying211
@[simp] theorem ag211 : aggOf Tryz.prog 211 = some false := by kernel_rfl
@[simp] theorem sz211 : szOf Tryz.prog 211 = some 1 := by kernel_rfl
@[simp] theorem zr211 : zeroOf Tryz.prog 211 = some [.nilf] := by kernel_rfl
attribute [simp] Tryz.underlying212
@[simp] theorem ag212 : aggOf Tryz.prog 212 = some false := by kernel_rfl
@[simp] theorem sz212 : szOf Tryz.prog 212 = some 1 := by kernel_rfl
@[simp] theorem zr212 : zeroOf Tryz.prog 212 = some [.nilp] := by kernel_rfl
attribute [simp] Tryz.underlying213
@[simp] theorem ag213 : aggOf Tryz.prog 213 = some false := by kernel_rfl
@[simp] theorem sz213 : szOf Tryz.prog 213 = some 1 := by kernel_rfl
@[simp] theorem zr213 : zeroOf Tryz.prog 213 = some [.nilf] := by kernel_rfl
attribute [simp] Tryz.underlying214
@[simp] theorem ag214 : aggOf Tryz.prog 214 = some false := by kernel_rfl
@[simp] theorem sz214 : szOf Tryz.prog 214 = some 1 := by kernel_rfl
@[simp] theorem zr214 : zeroOf Tryz.prog 214 = some [.nilp] := by kernel_rfl
attribute [simp] Tryz.underlying215
@[simp] theorem ag215 : aggOf Tryz.prog 215 = some false := by kernel_rfl
@[simp] theorem sz215 : szOf Tryz.prog 215 = some 1 := by kernel_rfl
attribute [simp] Tryz.underlying216
@[simp] theorem ag216 : aggOf Tryz.prog 216 = some false := by kernel_rfl
@[simp] theorem sz216 : szOf Tryz.prog 216 = some 1 := by kernel_rfl
@[simp] theorem zr216 : zeroOf Tryz.prog 216 = some [.nilf] := by kernel_rfl
attribute [simp] Tryz.underlying217
@[simp] theorem ag217 : aggOf Tryz.prog 217 = some false := by kernel_rfl
@[simp] theorem sz217 : szOf Tryz.prog 217 = some 1 := by kernel_rfl
@[simp] theorem zr217 : zeroOf Tryz.prog 217 = some [.nilf] := by kernel_rfl
attribute [simp] Tryz.underlying218
@[simp] theorem ag218 : aggOf Tryz.prog 218 = some true := by kernel_rfl
@[simp] theorem sz218 : szOf Tryz.prog 218 = some 4 := by kernel_rfl
@[simp] theorem zr218 : zeroOf Tryz.prog 218 = some [.nilp, .nilp, .nilp, .str ⟨#[]⟩] := by kernel_rfl
@[simp] theorem pl218 : placesOf Tryz.prog 218 = some (fun i => ([(0, 1), (1, 1), (2, 1), (3, 1)] : List (Nat × Nat))[i]?) := by kernel_rfl
attribute [simp] Tryz.underlying219
@[simp] theorem ag219 : aggOf Tryz.prog 219 = some true := by kernel_rfl
@[simp] theorem sz219 : szOf Tryz.prog 219 = some 4 := by kernel_rfl
@[simp] theorem zr219 : zeroOf Tryz.prog 219 = some [.nilp, .nilp, .nilp, .str ⟨#[]⟩] := by kernel_rfl
@[simp] theorem pl219 : placesOf Tryz.prog 219 = some (fun i => ([(0, 1), (1, 1), (2, 1), (3, 1)] : List (Nat × Nat))[i]?) := by kernel_rfl
attribute [simp] Tryz.underlying220
@[simp] theorem ag220 : aggOf Tryz.prog 220 = some true := by kernel_rfl
@[simp] theorem sz220 : szOf Tryz.prog 220 = some 0 := by kernel_rfl
@[simp] theorem zr220 : zeroOf Tryz.prog 220 = some [] := by kernel_rfl
@[simp] theorem pl220 : placesOf Tryz.prog 220 = some (fun i => some (i * 1, 1)) := by kernel_rfl
attribute [simp] Tryz.underlying221
@[simp] theorem ag221 : aggOf Tryz.prog 221 = some true := by kernel_rfl
@[simp] theorem sz221 : szOf Tryz.prog 221 = some 0 := by kernel_rfl
@[simp] theorem zr221 : zeroOf Tryz.prog 221 = some [] := by kernel_rfl
@[simp] theorem pl221 : placesOf Tryz.prog 221 = some (fun i => ([(0, 0)] : List (Nat × Nat))[i]?) := by kernel_rfl
attribute [simp] Tryz.underlying222
@[simp] theorem ag222 : aggOf Tryz.prog 222 = some true := by kernel_rfl
@[simp] theorem sz222 : szOf Tryz.prog 222 = some 0 := by kernel_rfl
@[simp] theorem zr222 : zeroOf Tryz.prog 222 = some [] := by kernel_rfl
@[simp] theorem pl222 : placesOf Tryz.prog 222 = some (fun i => ([(0, 0)] : List (Nat × Nat))[i]?) := by kernel_rfl
attribute [simp] Tryz.underlying223
@[simp] theorem ag223 : aggOf Tryz.prog 223 = some false := by kernel_rfl
@[simp] theorem sz223 : szOf Tryz.prog 223 = some 1 := by kernel_rfl
@[simp] theorem zr223 : zeroOf Tryz.prog 223 = some [.nilf] := by kernel_rfl
attribute [simp] Tryz.underlying224
@[simp] theorem ag224 : aggOf Tryz.prog 224 = some false := by kernel_rfl
@[simp] theorem sz224 : szOf Tryz.prog 224 = some 1 := by kernel_rfl
@[simp] theorem zr224 : zeroOf Tryz.prog 224 = some [.int .u8 0] := by kernel_rfl
attribute [simp] Tryz.underlying225
@[simp] theorem ag225 : aggOf Tryz.prog 225 = some false := by kernel_rfl
@[simp] theorem sz225 : szOf Tryz.prog 225 = some 1 := by kernel_rfl
@[simp] theorem zr225 : zeroOf Tryz.prog 225 = some [.int .u8 0] := by kernel_rfl
attribute [simp] Tryz.underlying226
@[simp] theorem ag226 : aggOf Tryz.prog 226 = some false := by kernel_rfl
@[simp] theorem sz226 : szOf Tryz.prog 226 = some 1 := by kernel_rfl
@[simp] theorem zr226 : zeroOf Tryz.prog 226 = some [.nilf] := by kernel_rfl
attribute [simp] Tryz.underlying227
@[simp] theorem ag227 : aggOf Tryz.prog 227 = some false := by kernel_rfl
@[simp] theorem sz227 : szOf Tryz.prog 227 = some 1 := by kernel_rfl
@[simp] theorem zr227 : zeroOf Tryz.prog 227 = some [.nilp] := by kernel_rfl
attribute [simp] Tryz.underlying228
@[simp] theorem ag228 : aggOf Tryz.prog 228 = some false := by kernel_rfl
@[simp] theorem sz228 : szOf Tryz.prog 228 = some 1 := by kernel_rfl
@[simp] theorem zr228 : zeroOf Tryz.prog 228 = some [.int .i32 0] := by kernel_rfl
attribute [simp] Tryz.underlying229
@[simp] theorem ag229 : aggOf Tryz.prog 229 = some false := by kernel_rfl
@[simp] theorem sz229 : szOf Tryz.prog 229 = some 1 := by kernel_rfl
@[simp] theorem zr229 : zeroOf Tryz.prog 229 = some [.int .i32 0] := by kernel_rfl
attribute [simp] Tryz.underlying230
@[simp] theorem ag230 : aggOf Tryz.prog 230 = some true := by kernel_rfl
@[simp] theorem sz230 : szOf Tryz.prog 230 = some 11 := by kernel_rfl
@[simp] theorem zr230 : zeroOf Tryz.prog 230 = some [.int .u64 0, .int .u64 0, .int .u32 0, .int .u8 0, .int .u8 0, .int .u8 0, .int .u8 0, .nilf, .nilp, .int .i32 0, .int .i32 0] := by kernel_rfl
@[simp] theorem pl230 : placesOf Tryz.prog 230 = some (fun i => ([(0, 1), (1, 1), (2, 1), (3, 1), (4, 1), (5, 1), (6, 1), (7, 1), (8, 1), (9, 1), (10, 1)] : List (Nat × Nat))[i]?) := by kernel_rfl
attribute [simp] Tryz.underlying231
@[simp] theorem ag231 : aggOf Tryz.prog 231 = some true := by kernel_rfl
@[simp] theorem sz231 : szOf Tryz.prog 231 = some 11 := by kernel_rfl
@[simp] theorem zr231 : zeroOf Tryz.prog 231 = some [.int .u64 0, .int .u64 0, .int .u32 0, .int .u8 0, .int .u8 0, .int .u8 0, .int .u8 0, .nilf, .nilp, .int .i32 0, .int .i32 0] := by kernel_rfl
@[simp] theorem pl231 : placesOf Tryz.prog 231 = some (fun i => ([(0, 1), (1, 1), (2, 1), (3, 1), (4, 1), (5, 1), (6, 1), (7, 1), (8, 1), (9, 1), (10, 1)] : List (Nat × Nat))[i]?) := by kernel_rfl
@[simp] theorem by0 : bytesOf Tryz.prog 0 = some 0 := by kernel_rfl
@[simp] theorem by1 : bytesOf Tryz.prog 1 = some 8 := by kernel_rfl
@[simp] theorem by2 : bytesOf Tryz.prog 2 = some 8 := by kernel_rfl
@[simp] theorem by3 : bytesOf Tryz.prog 3 = some 8 := by kernel_rfl
@[simp] theorem by4 : bytesOf Tryz.prog 4 = some 1 := by kernel_rfl
@[simp] theorem by5 : bytesOf Tryz.prog 5 = some 1 := by kernel_rfl
@[simp] theorem by6 : bytesOf Tryz.prog 6 = some 1 := by kernel_rfl
@[simp] theorem by7 : bytesOf Tryz.prog 7 = some 24 := by kernel_rfl
@[simp] theorem by8 : bytesOf Tryz.prog 8 = some 24 := by kernel_rfl
@[simp] theorem by9 : bytesOf Tryz.prog 9 = some 16 := by kernel_rfl
@[simp] theorem by10 : bytesOf Tryz.prog 10 = some 16 := by kernel_rfl
@[simp] theorem by11 : bytesOf Tryz.prog 11 = some 16 := by kernel_rfl
@[simp] theorem by12 : bytesOf Tryz.prog 12 = some 8 := by kernel_rfl
@[simp] theorem by13 : bytesOf Tryz.prog 13 = some 24 := by kernel_rfl
@[simp] theorem by14 : bytesOf Tryz.prog 14 = some 24 := by kernel_rfl
@[simp] theorem by15 : bytesOf Tryz.prog 15 = some 8 := by kernel_rfl
@[simp] theorem by16 : bytesOf Tryz.prog 16 = some 8 := by kernel_rfl
@[simp] theorem by17 : bytesOf Tryz.prog 17 = some 8 := by kernel_rfl
@[simp] theorem by18 : bytesOf Tryz.prog 18 = some 8 := by kernel_rfl
@[simp] theorem by19 : bytesOf Tryz.prog 19 = some 8 := by kernel_rfl
@[simp] theorem by20 : bytesOf Tryz.prog 20 = some 16 := by kernel_rfl
@[simp] theorem by21 : bytesOf Tryz.prog 21 = some 4 := by kernel_rfl
@[simp] theorem by22 : bytesOf Tryz.prog 22 = some 24 := by kernel_rfl
@[simp] theorem by23 : bytesOf Tryz.prog 23 = some 8 := by kernel_rfl
@[simp] theorem by24 : bytesOf Tryz.prog 24 = some 24 := by kernel_rfl
@[simp] theorem by25 : bytesOf Tryz.prog 25 = some 24 := by kernel_rfl
@[simp] theorem by26 : bytesOf Tryz.prog 26 = some 48 := by kernel_rfl
@[simp] theorem by27 : bytesOf Tryz.prog 27 = some 48 := by kernel_rfl
@[simp] theorem by28 : bytesOf Tryz.prog 28 = some 24 := by kernel_rfl
@[simp] theorem by29 : bytesOf Tryz.prog 29 = some 4 := by kernel_rfl
@[simp] theorem by30 : bytesOf Tryz.prog 30 = some 24 := by kernel_rfl
@[simp] theorem by31 : bytesOf Tryz.prog 31 = some 12 := by kernel_rfl
@[simp] theorem by32 : bytesOf Tryz.prog 32 = some 12 := by kernel_rfl
@[simp] theorem by33 : bytesOf Tryz.prog 33 = some 120 := by kernel_rfl
@[simp] theorem by34 : bytesOf Tryz.prog 34 = some 120 := by kernel_rfl
@[simp] theorem by35 : bytesOf Tryz.prog 35 = some 8 := by kernel_rfl
@[simp] theorem by36 : bytesOf Tryz.prog 36 = some 24 := by kernel_rfl
@[simp] theorem by37 : bytesOf Tryz.prog 37 = some 8 := by kernel_rfl
@[simp] theorem by38 : bytesOf Tryz.prog 38 = some 8 := by kernel_rfl
@[simp] theorem by39 : bytesOf Tryz.prog 39 = some 0 := by kernel_rfl
@[simp] theorem by40 : bytesOf Tryz.prog 40 = some 8 := by kernel_rfl
@[simp] theorem by41 : bytesOf Tryz.prog 41 = some 0 := by kernel_rfl
@[simp] theorem by42 : bytesOf Tryz.prog 42 = some 8 := by kernel_rfl
@[simp] theorem by43 : bytesOf Tryz.prog 43 = some 0 := by kernel_rfl
@[simp] theorem by44 : bytesOf Tryz.prog 44 = some 8 := by kernel_rfl
@[simp] theorem by45 : bytesOf Tryz.prog 45 = some 8 := by kernel_rfl
@[simp] theorem by46 : bytesOf Tryz.prog 46 = some 8 := by kernel_rfl
@[simp] theorem by47 : bytesOf Tryz.prog 47 = some 0 := by kernel_rfl
@[simp] theorem by48 : bytesOf Tryz.prog 48 = some 8 := by kernel_rfl
@[simp] theorem by49 : bytesOf Tryz.prog 49 = some 8 := by kernel_rfl
@[simp] theorem by50 : bytesOf Tryz.prog 50 = some 8 := by kernel_rfl
@[simp] theorem by51 : bytesOf Tryz.prog 51 = some 144 := by kernel_rfl
@[simp] theorem by52 : bytesOf Tryz.prog 52 = some 144 := by kernel_rfl
@[simp] theorem by53 : bytesOf Tryz.prog 53 = some 0 := by kernel_rfl
@[simp] theorem by54 : bytesOf Tryz.prog 54 = some 8 := by kernel_rfl
@[simp] theorem by55 : bytesOf Tryz.prog 55 = some 0 := by kernel_rfl
@[simp] theorem by56 : bytesOf Tryz.prog 56 = some 8 := by kernel_rfl
@[simp] theorem by57 : bytesOf Tryz.prog 57 = some 8 := by kernel_rfl
@[simp] theorem by58 : bytesOf Tryz.prog 58 = some 8 := by kernel_rfl
@[simp] theorem by59 : bytesOf Tryz.prog 59 = some 8 := by kernel_rfl
@[simp] theorem by60 : bytesOf Tryz.prog 60 = some 8 := by kernel_rfl
@[simp] theorem by61 : bytesOf Tryz.prog 61 = some 0 := by kernel_rfl
@[simp] theorem by62 : bytesOf Tryz.prog 62 = some 8 := by kernel_rfl
@[simp] theorem by63 : bytesOf Tryz.prog 63 = some 8 := by kernel_rfl
@[simp] theorem by64 : bytesOf Tryz.prog 64 = some 0 := by kernel_rfl
@[simp] theorem by65 : bytesOf Tryz.prog 65 = some 8 := by kernel_rfl
@[simp] theorem by66 : bytesOf Tryz.prog 66 = some 0 := by kernel_rfl
@[simp] theorem by67 : bytesOf Tryz.prog 67 = some 8 := by kernel_rfl
@[simp] theorem by68 : bytesOf Tryz.prog 68 = some 8 := by kernel_rfl
@[simp] theorem by69 : bytesOf Tryz.prog 69 = some 8 := by kernel_rfl
@[simp] theorem by70 : bytesOf Tryz.prog 70 = some 8 := by kernel_rfl
@[simp] theorem by71 : bytesOf Tryz.prog 71 = some 8 := by kernel_rfl
@[simp] theorem by72 : bytesOf Tryz.prog 72 = some 8 := by kernel_rfl
@[simp] theorem by73 : bytesOf Tryz.prog 73 = some 8 := by kernel_rfl
@[simp] theorem by74 : bytesOf Tryz.prog 74 = some 8 := by kernel_rfl
@[simp] theorem by75 : bytesOf Tryz.prog 75 = some 8 := by kernel_rfl
@[simp] theorem by76 : bytesOf Tryz.prog 76 = some 8 := by kernel_rfl
@[simp] theorem by77 : bytesOf Tryz.prog 77 = some 8 := by kernel_rfl
@[simp] theorem by78 : bytesOf Tryz.prog 78 = some 8 := by kernel_rfl
@[simp] theorem by79 : bytesOf Tryz.prog 79 = some 8 := by kernel_rfl
@[simp] theorem by80 : bytesOf Tryz.prog 80 = some 8 := by kernel_rfl
@[simp] theorem by81 : bytesOf Tryz.prog 81 = some 8 := by kernel_rfl
@[simp] theorem by82 : bytesOf Tryz.prog 82 = some 8 := by kernel_rfl
@[simp] theorem by83 : bytesOf Tryz.prog 83 = some 8 := by kernel_rfl
@[simp] theorem by84 : bytesOf Tryz.prog 84 = some 8 := by kernel_rfl
@[simp] theorem by85 : bytesOf Tryz.prog 85 = some 8 := by kernel_rfl
@[simp] theorem by86 : bytesOf Tryz.prog 86 = some 8 := by kernel_rfl
@[simp] theorem by87 : bytesOf Tryz.prog 87 = some 24 := by kernel_rfl
@[simp] theorem by88 : bytesOf Tryz.prog 88 = some 24 := by kernel_rfl
@[simp] theorem by89 : bytesOf Tryz.prog 89 = some 8 := by kernel_rfl
@[simp] theorem by90 : bytesOf Tryz.prog 90 = some 8 := by kernel_rfl
@[simp] theorem by91 : bytesOf Tryz.prog 91 = some 8 := by kernel_rfl
@[simp] theorem by92 : bytesOf Tryz.prog 92 = some 8 := by kernel_rfl
@[simp] theorem by93 : bytesOf Tryz.prog 93 = some 8 := by kernel_rfl
@[simp] theorem by94 : bytesOf Tryz.prog 94 = some 8 := by kernel_rfl
@[simp] theorem by95 : bytesOf Tryz.prog 95 = some 8 := by kernel_rfl
@[simp] theorem by96 : bytesOf Tryz.prog 96 = some 8 := by kernel_rfl
@[simp] theorem by97 : bytesOf Tryz.prog 97 = some 8 := by kernel_rfl
@[simp] theorem by98 : bytesOf Tryz.prog 98 = some 8 := by kernel_rfl
@[simp] theorem by99 : bytesOf Tryz.prog 99 = some 8 := by kernel_rfl
@[simp] theorem by100 : bytesOf Tryz.prog 100 = some 8 := by kernel_rfl
@[simp] theorem by101 : bytesOf Tryz.prog 101 = some 8 := by kernel_rfl
@[simp] theorem by102 : bytesOf Tryz.prog 102 = some 8 := by kernel_rfl
@[simp] theorem by103 : bytesOf Tryz.prog 103 = some 24 := by kernel_rfl
@[simp] theorem by104 : bytesOf Tryz.prog 104 = some 8 := by kernel_rfl
@[simp] theorem by105 : bytesOf Tryz.prog 105 = some 8 := by kernel_rfl
@[simp] theorem by106 : bytesOf Tryz.prog 106 = some 8 := by kernel_rfl
@[simp] theorem by107 : bytesOf Tryz.prog 107 = some 8 := by kernel_rfl
@[simp] theorem by108 : bytesOf Tryz.prog 108 = some 40 := by kernel_rfl
@[simp] theorem by109 : bytesOf Tryz.prog 109 = some 40 := by kernel_rfl
@[simp] theorem by110 : bytesOf Tryz.prog 110 = some 8 := by kernel_rfl
@[simp] theorem by111 : bytesOf Tryz.prog 111 = some 8 := by kernel_rfl
@[simp] theorem by112 : bytesOf Tryz.prog 112 = some 8 := by kernel_rfl
@[simp] theorem by113 : bytesOf Tryz.prog 113 = some 8 := by kernel_rfl
@[simp] theorem by114 : bytesOf Tryz.prog 114 = some 8 := by kernel_rfl
@[simp] theorem by115 : bytesOf Tryz.prog 115 = some 8 := by kernel_rfl
@[simp] theorem by116 : bytesOf Tryz.prog 116 = some 8 := by kernel_rfl
@[simp] theorem by117 : bytesOf Tryz.prog 117 = some 8 := by kernel_rfl
@[simp] theorem by118 : bytesOf Tryz.prog 118 = some 8 := by kernel_rfl
@[simp] theorem by119 : bytesOf Tryz.prog 119 = some 8 := by kernel_rfl
@[simp] theorem by120 : bytesOf Tryz.prog 120 = some 8 := by kernel_rfl
@[simp] theorem by121 : bytesOf Tryz.prog 121 = some 8 := by kernel_rfl
@[simp] theorem by122 : bytesOf Tryz.prog 122 = some 8 := by kernel_rfl
@[simp] theorem by123 : bytesOf Tryz.prog 123 = some 8 := by kernel_rfl
@[simp] theorem by124 : bytesOf Tryz.prog 124 = some 0 := by kernel_rfl
@[simp] theorem by125 : bytesOf Tryz.prog 125 = some 0 := by kernel_rfl
@[simp] theorem by126 : bytesOf Tryz.prog 126 = some 0 := by kernel_rfl
@[simp] theorem by127 : bytesOf Tryz.prog 127 = some 0 := by kernel_rfl
@[simp] theorem by128 : bytesOf Tryz.prog 128 = some 8 := by kernel_rfl
@[simp] theorem by129 : bytesOf Tryz.prog 129 = some 8 := by kernel_rfl
@[simp] theorem by130 : bytesOf Tryz.prog 130 = some 4 := by kernel_rfl
@[simp] theorem by131 : bytesOf Tryz.prog 131 = some 16 := by kernel_rfl
@[simp] theorem by132 : bytesOf Tryz.prog 132 = some 16 := by kernel_rfl
@[simp] theorem by133 : bytesOf Tryz.prog 133 = some 8 := by kernel_rfl
@[simp] theorem by134 : bytesOf Tryz.prog 134 = some 8 := by kernel_rfl
@[simp] theorem by135 : bytesOf Tryz.prog 135 = some 8 := by kernel_rfl
@[simp] theorem by136 : bytesOf Tryz.prog 136 = some 8 := by kernel_rfl
@[simp] theorem by137 : bytesOf Tryz.prog 137 = some 0 := by kernel_rfl
@[simp] theorem by138 : bytesOf Tryz.prog 138 = some 8 := by kernel_rfl
@[simp] theorem by139 : bytesOf Tryz.prog 139 = some 8 := by kernel_rfl
@[simp] theorem by140 : bytesOf Tryz.prog 140 = some 8 := by kernel_rfl
@[simp] theorem by141 : bytesOf Tryz.prog 141 = some 8 := by kernel_rfl
@[simp] theorem by142 : bytesOf Tryz.prog 142 = some 8 := by kernel_rfl
@[simp] theorem by143 : bytesOf Tryz.prog 143 = some 8 := by kernel_rfl
@[simp] theorem by144 : bytesOf Tryz.prog 144 = some 8 := by kernel_rfl
@[simp] theorem by145 : bytesOf Tryz.prog 145 = some 8 := by kernel_rfl
@[simp] theorem by146 : bytesOf Tryz.prog 146 = some 8 := by kernel_rfl
@[simp] theorem by147 : bytesOf Tryz.prog 147 = some 8 := by kernel_rfl
@[simp] theorem by148 : bytesOf Tryz.prog 148 = some 8 := by kernel_rfl
@[simp] theorem by149 : bytesOf Tryz.prog 149 = some 8 := by kernel_rfl
@[simp] theorem by150 : bytesOf Tryz.prog 150 = some 8 := by kernel_rfl
@[simp] theorem by151 : bytesOf Tryz.prog 151 = some 8 := by kernel_rfl
@[simp] theorem by152 : bytesOf Tryz.prog 152 = some 8 := by kernel_rfl
@[simp] theorem by153 : bytesOf Tryz.prog 153 = some 8 := by kernel_rfl
@[simp] theorem by154 : bytesOf Tryz.prog 154 = some 8 := by kernel_rfl
@[simp] theorem by155 : bytesOf Tryz.prog 155 = some 8 := by kernel_rfl
@[simp] theorem by156 : bytesOf Tryz.prog 156 = some 8 := by kernel_rfl
@[simp] theorem by157 : bytesOf Tryz.prog 157 = some 8 := by kernel_rfl
@[simp] theorem by158 : bytesOf Tryz.prog 158 = some 8 := by kernel_rfl
@[simp] theorem by159 : bytesOf Tryz.prog 159 = some 8 := by kernel_rfl
@[simp] theorem by160 : bytesOf Tryz.prog 160 = some 8 := by kernel_rfl
@[simp] theorem by161 : bytesOf Tryz.prog 161 = some 8 := by kernel_rfl
@[simp] theorem by162 : bytesOf Tryz.prog 162 = some 8 := by kernel_rfl
@[simp] theorem by163 : bytesOf Tryz.prog 163 = some 8 := by kernel_rfl
@[simp] theorem by164 : bytesOf Tryz.prog 164 = some 8 := by kernel_rfl
@[simp] theorem by165 : bytesOf Tryz.prog 165 = some 8 := by kernel_rfl
@[simp] theorem by166 : bytesOf Tryz.prog 166 = some 8 := by kernel_rfl
@[simp] theorem by167 : bytesOf Tryz.prog 167 = some 8 := by kernel_rfl
@[simp] theorem by168 : bytesOf Tryz.prog 168 = some 24 := by kernel_rfl
@[simp] theorem by169 : bytesOf Tryz.prog 169 = some 0 := by kernel_rfl
@[simp] theorem by170 : bytesOf Tryz.prog 170 = some 8 := by kernel_rfl
@[simp] theorem by171 : bytesOf Tryz.prog 171 = some 16 := by kernel_rfl
@[simp] theorem by172 : bytesOf Tryz.prog 172 = some 16 := by kernel_rfl
@[simp] theorem by173 : bytesOf Tryz.prog 173 = some 8 := by kernel_rfl
@[simp] theorem by174 : bytesOf Tryz.prog 174 = some 8 := by kernel_rfl
@[simp] theorem by175 : bytesOf Tryz.prog 175 = some 8 := by kernel_rfl
@[simp] theorem by176 : bytesOf Tryz.prog 176 = some 8 := by kernel_rfl
@[simp] theorem by177 : bytesOf Tryz.prog 177 = some 8 := by kernel_rfl
@[simp] theorem by178 : bytesOf Tryz.prog 178 = some 8 := by kernel_rfl
@[simp] theorem by179 : bytesOf Tryz.prog 179 = some 8 := by kernel_rfl
@[simp] theorem by180 : bytesOf Tryz.prog 180 = some 8 := by kernel_rfl
@[simp] theorem by181 : bytesOf Tryz.prog 181 = some 8 := by kernel_rfl
@[simp] theorem by182 : bytesOf Tryz.prog 182 = some 8 := by kernel_rfl
@[simp] theorem by183 : bytesOf Tryz.prog 183 = some 8 := by kernel_rfl
@[simp] theorem by184 : bytesOf Tryz.prog 184 = some 8 := by kernel_rfl
@[simp] theorem by185 : bytesOf Tryz.prog 185 = some 8 := by kernel_rfl
@[simp] theorem by186 : bytesOf Tryz.prog 186 = some 8 := by kernel_rfl
@[simp] theorem by187 : bytesOf Tryz.prog 187 = some 8 := by kernel_rfl
@[simp] theorem by188 : bytesOf Tryz.prog 188 = some 8 := by kernel_rfl
@[simp] theorem by189 : bytesOf Tryz.prog 189 = some 8 := by kernel_rfl
@[simp] theorem by190 : bytesOf Tryz.prog 190 = some 8 := by kernel_rfl
@[simp] theorem by191 : bytesOf Tryz.prog 191 = some 8 := by kernel_rfl
@[simp] theorem by192 : bytesOf Tryz.prog 192 = some 8 := by kernel_rfl
@[simp] theorem by193 : bytesOf Tryz.prog 193 = some 8 := by kernel_rfl
@[simp] theorem by194 : bytesOf Tryz.prog 194 = some 8 := by kernel_rfl
@[simp] theorem by195 : bytesOf Tryz.prog 195 = some 8 := by kernel_rfl
@[simp] theorem by196 : bytesOf Tryz.prog 196 = some 8 := by kernel_rfl
@[simp] theorem by197 : bytesOf Tryz.prog 197 = some 8 := by kernel_rfl
@[simp] theorem by198 : bytesOf Tryz.prog 198 = some 8 := by kernel_rfl
@[simp] theorem by199 : bytesOf Tryz.prog 199 = some 8 := by kernel_rfl
@[simp] theorem by200 : bytesOf Tryz.prog 200 = some 0 := by kernel_rfl
@[simp] theorem by201 : bytesOf Tryz.prog 201 = some 8 := by kernel_rfl
@[simp] theorem by202 : bytesOf Tryz.prog 202 = some 8 := by kernel_rfl
@[simp] theorem by203 : bytesOf Tryz.prog 203 = some 8 := by kernel_rfl
@[simp] theorem by204 : bytesOf Tryz.prog 204 = some 0 := by kernel_rfl
@[simp] theorem by205 : bytesOf Tryz.prog 205 = some 8 := by kernel_rfl
@[simp] theorem by206 : bytesOf Tryz.prog 206 = some 8 := by kernel_rfl
@[simp] theorem by207 : bytesOf Tryz.prog 207 = some 8 := by kernel_rfl
@[simp] theorem by208 : bytesOf Tryz.prog 208 = some 8 := by kernel_rfl
@[simp] theorem by209 : bytesOf Tryz.prog 209 = some 8 := by kernel_rfl
@[simp] theorem by210 : bytesOf Tryz.prog 210 = some 8 := by kernel_rfl
@[simp] theorem by211 : bytesOf Tryz.prog 211 = some 8 := by kernel_rfl
@[simp] theorem by212 : bytesOf Tryz.prog 212 = some 8 := by kernel_rfl
@[simp] theorem by213 : bytesOf Tryz.prog 213 = some 8 := by kernel_rfl
@[simp] theorem by214 : bytesOf Tryz.prog 214 = some 8 := by kernel_rfl
@[simp] theorem by215 : bytesOf Tryz.prog 215 = some 0 := by kernel_rfl
@[simp] theorem by216 : bytesOf Tryz.prog 216 = some 8 := by kernel_rfl
@[simp] theorem by217 : bytesOf Tryz.prog 217 = some 8 := by kernel_rfl
@[simp] theorem by218 : bytesOf Tryz.prog 218 = some 40 := by kernel_rfl
@[simp] theorem by219 : bytesOf Tryz.prog 219 = some 40 := by kernel_rfl
@[simp] theorem by220 : bytesOf Tryz.prog 220 = some 0 := by kernel_rfl
@[simp] theorem by221 : bytesOf Tryz.prog 221 = some 0 := by kernel_rfl
@[simp] theorem by222 : bytesOf Tryz.prog 222 = some 0 := by kernel_rfl
@[simp] theorem by223 : bytesOf Tryz.prog 223 = some 8 := by kernel_rfl
@[simp] theorem by224 : bytesOf Tryz.prog 224 = some 1 := by kernel_rfl
@[simp] theorem by225 : bytesOf Tryz.prog 225 = some 1 := by kernel_rfl
@[simp] theorem by226 : bytesOf Tryz.prog 226 = some 8 := by kernel_rfl
@[simp] theorem by227 : bytesOf Tryz.prog 227 = some 8 := by kernel_rfl
@[simp] theorem by228 : bytesOf Tryz.prog 228 = some 4 := by kernel_rfl
@[simp] theorem by229 : bytesOf Tryz.prog 229 = some 4 := by kernel_rfl
@[simp] theorem by230 : bytesOf Tryz.prog 230 = some 48 := by kernel_rfl
@[simp] theorem by231 : bytesOf Tryz.prog 231 = some 48 := by kernel_rfl
theorem dr_ok : DrawOk Tryz.prog okN (drawK Tryz.prog) := drawK_ok (by kernel_rfl)
end Go.Proofs.YtnjpigkijdnpkaaGreat
