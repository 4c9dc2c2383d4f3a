/- Contracts: the reference's word on what a cloth must be; the law of it.
Conditions: none. -/
import Derived.Test.YtnpflgeenecaeaaK1
import Derived.Test.YtnpflgeenecaeaaA1
namespace Go.Proofs.Ytnpflgeenecaeaa
set_option linter.all false
open Go Go.Awp
set_option maxRecDepth 100000
set_option maxHeartbeats 4000000
set_option pp.deepTerms false
set_option pp.deepTerms.threshold 8

theorem c_l10Pins (l : List Int) (n : Nat) (hn : n ≤ 64) (h : l.length ≤ 1048576) : Fun Try.prog 59 [.view false (cIs l) l.length, .int .i64 n] [] (.bool (pinsF n (-1) l)) [] := by
  refine FnSpec.walkF dr_ok Try.func59 rfl (by kernel_rfl) rfl rfl rfl (by simp) ?_
  have hs : IntKind.i64.wrap ((n : Int) - 1) = (n : Int) - 1 := wrap64 (by omega) (by omega)
  simp [hs]
  (first | refine callG_r ?_ | refine callD_r ?_); simp; (first | refine callN_flat (by with_reducible first | exact c_l00Rises _ _ hn h) rfl ?_ | refine callN_new (by with_reducible first | exact c_l00Rises _ _ hn h) ?_ | refine callM_flat (by with_reducible first | exact c_l00Rises _ _ hn h) rfl ?_ | refine callM_new (by with_reducible first | exact c_l00Rises _ _ hn h) ?_)
  simp
/-- A pointer to a cloth that is only read. -/
abbrev Clo.pv (c : Clo) : AV := .vptr false [.view false (cVs c.pl) c.pl.length, .view false (cVs c.ol) c.ol.length, .view false (cTs c.th) c.th.length, .view false (cIs c.pin) c.pin.length]
attribute [simp] Clo.pv
theorem c_l10Is (c : Clo) (hs : c.Small) : Fun Try.prog 30 [c.pv] [] (.bool (vldC c)) [] := by
  obtain ⟨h1, h2, h3, h4⟩ := hs
  refine FnSpec.walkF dr_ok Try.func30 rfl (by kernel_rfl) rfl rfl rfl (by simp) ?_
  simp
  refine ⟨fun a1 => ⟨fun a2 => ⟨fun a3 => ?_, fun a3 => ?_⟩, fun a2 => ?_⟩, fun a1 => ?_⟩
  · have hv : vldC c = (c.th.all (thrB c.pl.length) && pinsF c.pl.length (-1) c.pin) := by
      unfold vldC
      rw [decide_eq_true (p := c.pl.length ≤ 64) (by omega), decide_eq_true (p := c.ol.length = c.pl.length) (by omega), decide_eq_true (p := c.th.length ≤ 256) (by omega)]; simp
    (first | refine callG_r ?_ | refine callD_r ?_); simp; (first | refine callN_flat (by with_reducible first | exact c_l10Pins _ _ (by omega) h4) rfl ?_ | refine callN_new (by with_reducible first | exact c_l10Pins _ _ (by omega) h4) ?_ | refine callM_flat (by with_reducible first | exact c_l10Pins _ _ (by omega) h4) rfl ?_ | refine callM_new (by with_reducible first | exact c_l10Pins _ _ (by omega) h4) ?_)
    simp
    refine ⟨fun e0 => by rw [hv, e0]; simp, fun e0 => ?_⟩
    rw [e0, Bool.and_true] at hv
    refine loopG_of (α := Nat) (fun k => k ≤ c.th.length ∧ vldC c = (c.th.drop k).all (thrB c.pl.length)) (fun k => c.th.length - k)
      (fun k => [(0, c.pv), (3, .int .i64 c.pl.length), (4, .int .i64 k)]) (fun k => []) 0 ⟨by omega, by simpa using hv⟩ (weak_UH rfl (by simp)) fun k ⟨hk, hi⟩ => ?_
    have hw := nat_wrap (k := k) (by omega)
    have hn : IntKind.i64.wrap ((c.pl.length : Int) - 1) = (c.pl.length : Int) - 1 := wrap64 (by omega) (by omega)
    by_cases b : k < c.th.length
    · rw [List.drop_eq_getElem_cons b, List.all_cons] at hi
      simp [b, hw, hn]
      (first | refine callG_r ?_ | refine callD_r ?_); simp; (first | refine callN_flat (by with_reducible first | exact c_l00In _ _ _) rfl ?_ | refine callN_new (by with_reducible first | exact c_l00In _ _ _) ?_ | refine callM_flat (by with_reducible first | exact c_l00In _ _ _) rfl ?_ | refine callM_new (by with_reducible first | exact c_l00In _ _ _) ?_)
      simp [hw, hn]
      refine ⟨fun e1 => ?_, fun e1 => by rw [hi]; simp [thrB, e1]⟩
      (first | refine callG_r ?_ | refine callD_r ?_); simp; (first | refine callN_flat (by with_reducible first | exact c_l00In _ _ _) rfl ?_ | refine callN_new (by with_reducible first | exact c_l00In _ _ _) ?_ | refine callM_flat (by with_reducible first | exact c_l00In _ _ _) rfl ?_ | refine callM_new (by with_reducible first | exact c_l00In _ _ _) ?_)
      simp [hw, hn]
      refine ⟨fun e2 => ⟨fun e3 => ?_, fun e3 => by rw [hi]; simp [thrB, e3]⟩, fun e2 => by rw [hi]; simp [thrB, e2]⟩
      (first | refine callG_r ?_ | refine callD_r ?_); simp; (first | refine callN_flat (by with_reducible first | exact c_l02Size _) rfl ?_ | refine callN_new (by with_reducible first | exact c_l02Size _) ?_ | refine callM_flat (by with_reducible first | exact c_l02Size _) rfl ?_ | refine callM_new (by with_reducible first | exact c_l02Size _) ?_)
      simp [hw, hn]
      refine ⟨fun e4 => by rw [hi]; simp [thrB, e4], fun e4 => ?_⟩
      refine loopK_next (k + 1) ?_ ?_ ?_
      · omega
      · refine ⟨by omega, ?_⟩
        rw [hi]; simp [thrB, e1, e2, e3, e4]
      · (refine weak_gc [] ?_ ?_ ?_ ?_ ?_ <;> simp)
    · obtain rfl : k = c.th.length := by omega
      simp
      rw [hi]; simp
  · unfold vldC
    rw [decide_eq_false (p := c.th.length ≤ 256) (by omega)]; simp
  · unfold vldC
    rw [decide_eq_false (p := c.ol.length = c.pl.length) (by omega)]; simp
  · unfold vldC
    rw [decide_eq_false (p := c.pl.length ≤ 64) (by omega)]; simp
theorem small_of {c : Clo} (h : 0 ≤ szC c.pl.length c.ol.length c.th.length c.pin.length) : c.Small := by
  obtain ⟨h1, h2, h3, h4⟩ := szC_ok (Int.not_lt.2 h)
  exact ⟨h1, h2, h3, h4⟩
end Go.Proofs.Ytnpflgeenecaeaa
