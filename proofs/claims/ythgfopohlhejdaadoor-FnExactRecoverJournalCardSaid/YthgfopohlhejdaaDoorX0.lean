/- Contracts of library functions on texts.
Conditions: none. -/
import Derived.Test.YthgfopohlhejdaaDoorTyp
import Derived.Test.YthgfopohlhejdaaDoorLib
import Derived.Shelf.Small.Strs
import Derived.Shelf.Strings.Search3
import Derived.Shelf.Strings.Cut
import Derived.Shelf.Strconv.Itoa4
import Derived.Shelf.Lay
import Derived.Ground.NamesProg
namespace Go.Proofs
open Go.Shelf Go.RowKit Go.Lib Go.Sort
set_option linter.all false
shelf_lay Lays.n137 Nm 137 at Tryd as Tryd.lIndexByte
shelf_lay Lays.n144 Nm 144 at Tryd as Tryd.lContains
shelf_lay Lays.n145 Nm 145 at Tryd as Tryd.lCut
shelf_lay LaysM.n173 Nm 173 at Tryd as Tryd.lFormatInt
namespace YthgfopohlhejdaaDoor
open Go Go.Awp
set_option maxRecDepth 100000
set_option maxHeartbeats 8000000
set_option pp.deepTerms true

theorem g_tab {w : World} {E : Env} (h : GlobOk w E) : Lib.TabIs Tryd.prog w "internal/strconv.uint64pow10" .u64 Lib.pow10Tab := by
  have e : Lib.pow10Tab = [1, 10, 100, 1000, 10000, 100000, 1000000, 10000000, 100000000, 1000000000, 10000000000, 100000000000, 1000000000000, 10000000000000, 100000000000000, 1000000000000000, 10000000000000000, 100000000000000000, 1000000000000000000, 10000000000000000000] := by decide
  rw [e]
  obtain ⟨⟨o, h1, h2⟩, _⟩ := h (2, isTab .u64 [1, 10, 100, 1000, 10000, 100000, 1000000, 10000000, 100000000, 1000000000, 10000000000, 100000000000, 1000000000000, 10000000000000, 100000000000000, 1000000000000000, 10000000000000000, 100000000000000000, 1000000000000000000, 10000000000000000000]) (by simp [globs])
  exact tabIs_of (by kernel_rfl) h1 h2
theorem g_len {w : World} {E : Env} (h : GlobOk w E) : ∃ m, w.cell? ⟨1, 0, none⟩ = some (.int .i64 m) := by
  obtain ⟨⟨o, h1, h2⟩, _⟩ := h (1, isNum) (by simp [globs])
  exact num_of h1 h2

theorem c_IndexByte (s : List UInt8) (c : UInt8) : Fun Tryd.prog 85 [.str (bs s), .int .u8 c.toNat] [] (.int .i64 (Lib.indexByte s c)) [] :=
  fun_lib (enters_of Tryd.func85 (by kernel_rfl) rfl) (.cons (.str _) (.cons (.int _ _) .nil)) (.one (.int _ _)) fun w E hg =>
    (Any.strings_IndexByte Tryd.lIndexByte (bs s) c.toNat w).mono fun e w' ⟨h1, h2⟩ => by
      subst h2
      refine ⟨?_, .refl _ _⟩
      rw [h1, bs_list]
      simp
theorem c_Contains (s : List UInt8) (c : UInt8) : Fun Tryd.prog 34 [.str (bs s), .str (bs [c])] [] (.bool (decide (0 ≤ Lib.indexByte s c))) [] :=
  fun_lib (enters_of Tryd.func34 (by kernel_rfl) rfl) (.cons (.str _) (.cons (.str _) .nil)) (.one (.bool _)) fun w E hg =>
    (Any.strings_Contains_one Tryd.lContains (bs s) c w).mono fun e w' ⟨h1, h2⟩ => by
      subst h2
      refine ⟨?_, .refl _ _⟩
      rw [h1, bs_list]
theorem c_Cut (s sep : List UInt8) (hs : s.length < 4294967281) : Fun Tryd.prog 86 [.str (bs s), .str (bs sep)] [] (.tup [.str (bs (Lib.cut s sep).1), .str (bs (Lib.cut s sep).2.1), .bool (Lib.cut s sep).2.2]) [] :=
  fun_lib (enters_of Tryd.func86 (by kernel_rfl) rfl) (.cons (.str _) (.cons (.str _) .nil)) (.some (.cons (.str _) (.cons (.str _) (.cons (.bool _) .nil)))) fun w E hg => by
    obtain ⟨m, hm⟩ := g_len hg
    refine (Any.strings_Cut Tryd.lCut (bs s) (bs sep) m w (by rw [bs_size]; exact hs) hm).mono fun e w' ⟨h1, n, h2⟩ => ?_
    subst h2
    refine ⟨?_, Below.drew⟩
    rw [h1, bs_list, bs_list]
    rfl
theorem c_FormatInt (n : Int) (h0 : -9223372036854775808 ≤ n) (h1 : n ≤ 9223372036854775807) : Fun Tryd.prog 83 [.int .i64 n, .int .i64 10] [] (.str (bs (Lib.itoa n))) [] :=
  fun_lib (enters_of Tryd.func83 (by kernel_rfl) rfl) (.cons (.int _ _) (.cons (.int _ _) .nil)) (.one (.str _)) fun w E hg =>
    (Any.strconv_FormatInt_10 Tryd.lFormatInt n h0 h1 w (g_tab hg)).mono fun e w' ⟨h1, k, os, h2⟩ => by
      subst h2
      exact ⟨h1, Below.drewGrow (Nat.le_refl _)⟩
end YthgfopohlhejdaaDoor
end Go.Proofs
