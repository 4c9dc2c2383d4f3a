/- Contracts of what the laws do with their arguments.
Conditions: none. -/
import Derived.Test.YtnpflgeenecaeaaC2
namespace Go.Proofs.Ytnpflgeenecaeaa
set_option linter.all false
open Go Go.Awp
set_option maxRecDepth 100000
set_option maxHeartbeats 4000000

theorem c_toVector (x y z : Nat) : Fun Try.prog 61 [.agg [.flt .f32 x, .flt .f32 y, .flt .f32 z]] [] (.agg [.flt .f32 x, .flt .f32 y, .flt .f32 z]) [] := by
  refine FnSpec.walkF dr_ok Try.func61 rfl (by kernel_rfl) rfl rfl rfl (by simp) ?_
  simp
theorem c_toThread (x y : Int) (z : Nat) : Fun Try.prog 62 [.agg [.int .i64 x, .int .i64 y, .flt .f32 z]] [] (.agg [.int .i64 x, .int .i64 y, .flt .f32 z]) [] := by
  refine FnSpec.walkF dr_ok Try.func62 rfl (by kernel_rfl) rfl rfl rfl (by simp) ?_
  simp
theorem c_toVectorS (l : List V) (h : l.length ≤ 1048576) : Fun Try.prog 33 [.view false (cVs l) l.length] [] (.slc 0 0 l.length 3) [.blk true false 57 (cVs l)] := by
  have hl := List.length_replicate (n := l.length) (a := ((0, 0, 0) : V))
  refine FnSpec.walk dr_ok Try.func33 rfl (by kernel_rfl) rfl rfl rfl (by simp) ?_
  simp
  refine ⟨by omega, by omega, ?_⟩
  refine loopG_of (α := Nat) (fun k => k ≤ l.length) (fun k => l.length - k) (fun k => [(0, .view false (cVs l) l.length), (3, .slc 0 0 l.length 3), (4, .int .i64 k)]) (fun k => [.blk true false 57 (cVs (mixN l (List.replicate l.length (0, 0, 0)) k))]) 0 (by simp) (weak_UH (by simp) (by simp)) fun k hk => ?_
  have hw := nat_wrap (k := k) (by omega)
  have hm := mixN_length k hl.symm
  by_cases c : k < l.length
  · simp [c, hw, hm]
    (first | refine callG_r ?_ | refine callD_r ?_); simp; (first | refine callN_flat (by with_reducible first | exact c_toVector _ _ _) rfl ?_ | refine callN_new (by with_reducible first | exact c_toVector _ _ _) ?_ | refine callM_flat (by with_reducible first | exact c_toVector _ _ _) rfl ?_ | refine callM_new (by with_reducible first | exact c_toVector _ _ _) ?_)
    simp [c, hw, hm]
    refine ⟨by omega, loopK_next (k + 1) (by omega) (by omega) (weak_UH ?_ (by simp))⟩
    rw [mixN_set c hl.symm rfl]
  · obtain rfl : k = l.length := by omega
    simp
    rw [mixN_all (by omega) (by omega)]
    refine endG_keepT [(some 0, 0)] ?_ ?_ ?_ ?_ ?_ ?_ ?_ ⟨rfl, rfl⟩ ?_ <;> simp
theorem c_toThreadS (l : List Th) (h : l.length ≤ 1048576) : Fun Try.prog 34 [.view false (cTs l) l.length] [] (.slc 0 0 l.length 3) [.blk true false 77 (cTs l)] := by
  have hl := List.length_replicate (n := l.length) (a := ((0, 0, 0) : Th))
  refine FnSpec.walk dr_ok Try.func34 rfl (by kernel_rfl) rfl rfl rfl (by simp) ?_
  simp
  refine ⟨by omega, by omega, ?_⟩
  refine loopG_of (α := Nat) (fun k => k ≤ l.length) (fun k => l.length - k) (fun k => [(0, .view false (cTs l) l.length), (3, .slc 0 0 l.length 3), (4, .int .i64 k)]) (fun k => [.blk true false 77 (cTs (mixN l (List.replicate l.length (0, 0, 0)) k))]) 0 (by simp) (weak_UH (by simp) (by simp)) fun k hk => ?_
  have hw := nat_wrap (k := k) (by omega)
  have hm := mixN_length k hl.symm
  by_cases c : k < l.length
  · simp [c, hw, hm]
    (first | refine callG_r ?_ | refine callD_r ?_); simp; (first | refine callN_flat (by with_reducible first | exact c_toThread _ _ _) rfl ?_ | refine callN_new (by with_reducible first | exact c_toThread _ _ _) ?_ | refine callM_flat (by with_reducible first | exact c_toThread _ _ _) rfl ?_ | refine callM_new (by with_reducible first | exact c_toThread _ _ _) ?_)
    simp [c, hw, hm]
    refine ⟨by omega, loopK_next (k + 1) (by omega) (by omega) (weak_UH ?_ (by simp))⟩
    rw [mixN_set c hl.symm rfl]
  · obtain rfl : k = l.length := by omega
    simp
    rw [mixN_all (by omega) (by omega)]
    refine endG_keepT [(some 0, 0)] ?_ ?_ ?_ ?_ ?_ ?_ ?_ ⟨rfl, rfl⟩ ?_ <;> simp
theorem c_toInt64S (l : List Int) (h : l.length ≤ 1048576) : Fun Try.prog 35 [.view false (cIs l) l.length] [] (.slc 0 0 l.length 1) [.blk true false 2 (cIs l)] := by
  have hl := List.length_replicate (n := l.length) (a := (0 : Int))
  refine FnSpec.walk dr_ok Try.func35 rfl (by kernel_rfl) rfl rfl rfl (by simp) ?_
  simp
  refine ⟨by omega, by omega, ?_⟩
  refine loopG_of (α := Nat) (fun k => k ≤ l.length) (fun k => l.length - k) (fun k => [(0, .view false (cIs l) l.length), (3, .slc 0 0 l.length 1), (4, .int .i64 k)]) (fun k => [.blk true false 2 (cIs (mixN l (List.replicate l.length 0) k))]) 0 (by simp) (weak_UH (by simp) (by simp)) fun k hk => ?_
  have hw := nat_wrap (k := k) (by omega)
  have hm := mixN_length k hl.symm
  by_cases c : k < l.length
  · simp [c, hw, hm]
    refine ⟨by omega, loopK_next (k + 1) (by omega) (by omega) (weak_UH ?_ (by simp))⟩
    rw [mixN_set c hl.symm rfl]
  · obtain rfl : k = l.length := by omega
    simp
    rw [mixN_all (by omega) (by omega)]
    refine endG_keepT [(some 0, 0)] ?_ ?_ ?_ ?_ ?_ ?_ ?_ ⟨rfl, rfl⟩ ?_ <;> simp
end Go.Proofs.Ytnpflgeenecaeaa
