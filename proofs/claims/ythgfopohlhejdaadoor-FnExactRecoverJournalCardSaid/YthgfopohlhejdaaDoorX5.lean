/- What is known of package variables, from what the rows list.
Conditions: none. -/
import Derived.Test.YthgfopohlhejdaaDoorX0
import Derived.Test.YthgfopohlhejdaaDoorLaid
import Derived.Test.YthgfopohlhejdaaDoorCards
import Derived.Lib.LaidTab
import Derived.Stop.LaidErr
import Derived.Test.YthgfopohlhejdaaDoorEnt
namespace Go.Proofs.YthgfopohlhejdaaDoor
set_option linter.all false
open Go Go.Awp Go.RowKit
set_option maxRecDepth 100000

abbrev laid3 : List (String × DataW Unit) := [("math/bits.deBruijn32tab", Rows.laid_math_bits_deBruijn32tab), ("math/bits.deBruijn64tab", Rows.laid_math_bits_deBruijn64tab), ("internal/strconv.uint64pow10", Rows.laid_internal_strconv_uint64pow10)]
theorem tab_ok {W : World} (h : laidMetH Tryd.prog laid3 W) : Lib.TabIs Tryd.prog W "internal/strconv.uint64pow10" .u64 Lib.pow10Tab := by
  rw [MakeChecks.laidMetH_plain _ _ _ (by kernel_rfl)] at h
  have h3 : laidMet Tryd.prog (("internal/strconv.uint64pow10", Lib.tabData .u64 Lib.pow10Tab) :: []) W := laidMet.tail (laidMet.tail h)
  exact Lib.tabIs_of_head (g := 2) (t := 217) (e := 137) (n := 20) (by kernel_rfl) (by kernel_rfl) Tryd.underlying217 Tryd.underlying137 (by kernel_rfl) (by kernel_rfl) h3
theorem num_ok {W : World} (h : W.ShapedOpen Tryd.prog) : ∃ m, W.cell? ⟨1, 0, none⟩ = some (.int .i64 m) :=
  cell_of_shapedOpen_int (zero := #[.int .i64 0]) (t := 3) h (of_decide_eq_true (by kernel_rfl)) (by kernel_rfl) rfl (by kernel_rfl) (by kernel_rfl) Tryd.underlying3
theorem glob_ok {W : World} (h : W.ShapedOpen Tryd.prog) (hL : laidMetH Tryd.prog laid3 W) : GlobOk W (env0 W) := by
  have e : Lib.pow10Tab = [1, 10, 100, 1000, 10000, 100000, 1000000, 10000000, 100000000, 1000000000, 10000000000, 100000000000, 1000000000000, 10000000000000, 100000000000000, 1000000000000000, 10000000000000000, 100000000000000000, 1000000000000000000, 10000000000000000000] := by decide
  intro p hp
  refine ⟨?_, env0_live _ _⟩
  simp only [globs, List.mem_cons, List.not_mem_nil, or_false] at hp
  rcases hp with rfl | rfl
  · exact isNum_of (num_ok h)
  · rw [← e]; exact isTab_of (by kernel_rfl) (tab_ok hL)
theorem relL_of {W : World} {avs : List AV} {args : Array Value} (h1 : avs.length = args.toList.length) (h2 : ∀ (i : Nat) a v, avs[i]? = some a → args.toList[i]? = some v → VRel W (env0 W) a v) : RelL W (env0 W) avs args :=
  ⟨by simpa using h1, fun i a v ha hv => h2 i a v ha (by simpa using hv)⟩
theorem arg_Str : ArgOk Tryd.prog 9 fun a => ∃ t : List UInt8, t.length ≤ maxLen ∧ a = .str (bs t) :=
  argOk_one (by rw [Tryd.underlying9]; intro fs h; cases h) (by rw [Tryd.underlying9]; intro n e h; cases h) ((opens_string Tryd.underlying9).mono (by
    rintro l ⟨s, hs, rfl⟩
    exact ⟨_, ⟨s.data.toList, by rw [bs_of s, bs_size] at hs; exact hs, rfl⟩, by rw [← bs_of s]⟩))
end Go.Proofs.YthgfopohlhejdaaDoor
