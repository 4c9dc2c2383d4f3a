/- Contracts: copies of cloths.
Conditions: none. -/
import Derived.Test.YtafbecgidhoekaaK2
namespace Go.Proofs.Ytafbecgidhoekaa
set_option linter.all false
open Go Go.Awp
set_option maxRecDepth 100000
set_option maxHeartbeats 4000000
set_option pp.deepTerms false
set_option pp.deepTerms.threshold 8

theorem c_copyCloth (c : Clo) (hs : c.Small) : Fun Try.prog 94 [c.av] [] (c.own 0) c.mem := by
  obtain ⟨h1, h2, h3, h4⟩ := hs
  refine FnSpec.walk dr_ok Try.func94 rfl (by kernel_rfl) rfl rfl rfl (by simp) ?_
  simp
  refine ⟨by omega, by omega, by omega, by omega, by omega, by omega, by omega, by omega, ?_⟩
  (refine endG_keepT [(some 2, 0), (some 3, 0), (some 4, 0), (some 5, 0)] ?_ ?_ ?_ ?_ ?_ ?_ ?_ ⟨rfl, rfl⟩ ?_ <;> simp)
theorem c_l00Own (l : List Int) (h : l.length ≤ 1048576) : Fun Try.prog 93 [.view false (cIs l) l.length] [] (.slc 0 0 l.length 1) [.blk true false 2 (cIs l)] := by
  refine FnSpec.walk dr_ok Try.func93 rfl (by kernel_rfl) rfl rfl rfl (by simp) ?_
  simp
  refine ⟨by omega, by omega, ?_⟩
  (refine endG_keepT [(some 0, 0)] ?_ ?_ ?_ ?_ ?_ ?_ ?_ ⟨rfl, rfl⟩ ?_ <;> simp)
theorem c_l10Own (c : Clo) (hs : c.Small) : Fun Try.prog 92 [c.pv] [] (c.own 0) c.mem := by
  obtain ⟨h1, h2, h3, h4⟩ := hs
  refine FnSpec.walk dr_ok Try.func92 rfl (by kernel_rfl) rfl rfl rfl (by simp) ?_
  simp
  refine ⟨by omega, by omega, by omega, by omega, by omega, by omega, ?_⟩
  (first | refine callG_r ?_ | refine callD_r ?_); simp; (first | refine callN_flat (by with_reducible first | exact c_l00Own _ h4) rfl ?_ | refine callN_new (by with_reducible first | exact c_l00Own _ h4) ?_ | refine callM_flat (by with_reducible first | exact c_l00Own _ h4) rfl ?_ | refine callM_new (by with_reducible first | exact c_l00Own _ h4) ?_)
  simp
  (refine endG_keepT [(some 1, 0), (some 3, 0), (some 4, 0), (some 5, 0)] ?_ ?_ ?_ ?_ ?_ ?_ ?_ ⟨rfl, rfl⟩ ?_ <;> simp)
end Go.Proofs.Ytafbecgidhoekaa
