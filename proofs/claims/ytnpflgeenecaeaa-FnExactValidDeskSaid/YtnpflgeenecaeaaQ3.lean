/- What the laws copy and compare of springs, meshes, bodies, desks.
Conditions: none. -/
import Derived.Test.YtnpflgeenecaeaaQ2
namespace Go.Proofs.Ytnpflgeenecaeaa
set_option linter.all false
open Go Go.Awp
set_option maxRecDepth 100000
set_option maxHeartbeats 4000000
set_option pp.deepTerms true

theorem c_toSpring (x y : Int) (z u : Nat) : Fun Try.prog 89 [.agg [.int .i64 x, .int .i64 y, .flt .f32 z, .flt .f32 u]] [] (.agg [.int .i64 x, .int .i64 y, .flt .f32 z, .flt .f32 u]) [] := by
  refine FnSpec.walkF dr_ok Try.func89 rfl (by kernel_rfl) rfl rfl rfl (by simp) ?_
  simp
theorem c_toSpringS (l : List Sp) (h : l.length ≤ 1048576) : Fun Try.prog 71 [.view false (cSs l) l.length] [] (.slc 0 0 l.length 4) [.blk true false 142 (cSs l)] := by
  have hl := List.length_replicate (n := l.length) (a := ((0, 0, 0, 0) : Sp))
  refine FnSpec.walk dr_ok Try.func71 rfl (by kernel_rfl) rfl rfl rfl (by simp) ?_
  simp
  refine ⟨by omega, by omega, ?_⟩
  refine loopG_of (α := Nat) (fun k => k ≤ l.length) (fun k => l.length - k) (fun k => [(0, .view false (cSs l) l.length), (3, .slc 0 0 l.length 4), (4, .int .i64 k)]) (fun k => [.blk true false 142 (cSs (mixN l (List.replicate l.length (0, 0, 0, 0)) k))]) 0 (by simp) (weak_UH (by simp) (by simp)) fun k hk => ?_
  have hw := nat_wrap (k := k) (by omega)
  have hm := mixN_length k hl.symm
  by_cases c : k < l.length
  · simp [c, hw, hm]
    (first | refine callG_r ?_ | refine callD_r ?_); simp; (first | refine callN_flat (by with_reducible first | exact c_toSpring _ _ _ _) rfl ?_ | refine callN_new (by with_reducible first | exact c_toSpring _ _ _ _) ?_ | refine callM_flat (by with_reducible first | exact c_toSpring _ _ _ _) rfl ?_ | refine callM_new (by with_reducible first | exact c_toSpring _ _ _ _) ?_)
    simp [c, hw, hm]
    refine ⟨by omega, loopK_next (k + 1) (by omega) (by omega) (weak_UH ?_ (by simp))⟩
    rw [mixN_set c hl.symm rfl]
  · obtain rfl : k = l.length := by omega
    simp
    rw [mixN_all (by omega) (by omega)]
    refine endG_keepT [(some 0, 0)] ?_ ?_ ?_ ?_ ?_ ?_ ?_ ⟨rfl, rfl⟩ ?_ <;> simp
theorem c_toFloat32S (l : List Nat) (h : l.length ≤ 1048576) : Fun Try.prog 72 [.view false (cFs l) l.length] [] (.slc 0 0 l.length 1) [.blk true false 44 (cFs l)] := by
  have hl := List.length_replicate (n := l.length) (a := (0 : Nat))
  refine FnSpec.walk dr_ok Try.func72 rfl (by kernel_rfl) rfl rfl rfl (by simp) ?_
  simp
  refine ⟨by omega, by omega, ?_⟩
  refine loopG_of (α := Nat) (fun k => k ≤ l.length) (fun k => l.length - k) (fun k => [(0, .view false (cFs l) l.length), (3, .slc 0 0 l.length 1), (4, .int .i64 k)]) (fun k => [.blk true false 44 (cFs (mixN l (List.replicate l.length 0) k))]) 0 (by simp) (weak_UH (by simp) (by simp)) fun k hk => ?_
  have hw := nat_wrap (k := k) (by omega)
  have hm := mixN_length k hl.symm
  by_cases c : k < l.length
  · simp [c, hw, hm]
    refine ⟨by omega, loopK_next (k + 1) (by omega) (by omega) (weak_UH ?_ (by simp))⟩
    rw [mixN_set c hl.symm rfl]
  · obtain rfl : k = l.length := by omega
    simp
    rw [mixN_all (by omega) (by omega)]
    refine endG_keepT [(some 0, 0)] ?_ ?_ ?_ ?_ ?_ ?_ ?_ ⟨rfl, rfl⟩ ?_ <;> simp
theorem c_toMesh (m : Msh) (h : m.Small) : Fun Try.prog 22 [m.av] [] (m.own 0) m.mem := by
  obtain ⟨h1, h2⟩ := h
  refine FnSpec.walk dr_ok Try.func22 rfl (by kernel_rfl) rfl rfl rfl (by simp) ?_
  simp
  (first | refine callG_r ?_ | refine callD_r ?_); simp; (first | refine callN_flat (by with_reducible first | exact c_toVectorS _ h1) rfl ?_ | refine callN_new (by with_reducible first | exact c_toVectorS _ h1) ?_ | refine callM_flat (by with_reducible first | exact c_toVectorS _ h1) rfl ?_ | refine callM_new (by with_reducible first | exact c_toVectorS _ h1) ?_)
  simp
  (first | refine callG_r ?_ | refine callD_r ?_); simp; (first | refine callN_flat (by with_reducible first | exact c_toSS _ h2) rfl ?_ | refine callN_new (by with_reducible first | exact c_toSS _ h2) ?_ | refine callM_flat (by with_reducible first | exact c_toSS _ h2) rfl ?_ | refine callM_new (by with_reducible first | exact c_toSS _ h2) ?_)
  simp
  (refine endG_keepT [(some 3, 0)] ?_ ?_ ?_ ?_ ?_ ?_ ?_ ⟨rfl, rfl⟩ ?_ <;> simp)
theorem c_toBody (b : Bod) (h : b.Small) : Fun Try.prog 43 [b.av] [] (b.own 0) b.mem := by
  obtain ⟨h1, h2, h3⟩ := h
  refine FnSpec.walk dr_ok Try.func43 rfl (by kernel_rfl) rfl rfl rfl (by simp) ?_
  simp
  (first | refine callG_r ?_ | refine callD_r ?_); simp; (first | refine callN_flat (by with_reducible first | exact c_toMesh b.me h1) rfl ?_ | refine callN_new (by with_reducible first | exact c_toMesh b.me h1) ?_ | refine callM_flat (by with_reducible first | exact c_toMesh b.me h1) rfl ?_ | refine callM_new (by with_reducible first | exact c_toMesh b.me h1) ?_)
  simp
  (first | refine callG_r ?_ | refine callD_r ?_); simp; (first | refine callN_flat (by with_reducible first | exact c_toSpringS _ h2) rfl ?_ | refine callN_new (by with_reducible first | exact c_toSpringS _ h2) ?_ | refine callM_flat (by with_reducible first | exact c_toSpringS _ h2) rfl ?_ | refine callM_new (by with_reducible first | exact c_toSpringS _ h2) ?_)
  simp
  (first | refine callG_r ?_ | refine callD_r ?_); simp; (first | refine callN_flat (by with_reducible first | exact c_toFloat32S _ h3) rfl ?_ | refine callN_new (by with_reducible first | exact c_toFloat32S _ h3) ?_ | refine callM_flat (by with_reducible first | exact c_toFloat32S _ h3) rfl ?_ | refine callM_new (by with_reducible first | exact c_toFloat32S _ h3) ?_)
  simp
  (first | refine callG_r ?_ | refine callD_r ?_); simp; (first | refine callN_flat (by with_reducible first | exact c_toVector _ _ _) rfl ?_ | refine callN_new (by with_reducible first | exact c_toVector _ _ _) ?_ | refine callM_flat (by with_reducible first | exact c_toVector _ _ _) rfl ?_ | refine callM_new (by with_reducible first | exact c_toVector _ _ _) ?_)
  simp
  (refine endG_keepT [(some 3, 0), (some 4, 0), (some 5, 0)] ?_ ?_ ?_ ?_ ?_ ?_ ?_ ⟨rfl, rfl⟩ ?_ <;> simp)
theorem c_toDesk (d : Dsk) (h : d.Small) : Fun Try.prog 17 [d.av] [] (d.own 0) d.mem := by
  obtain ⟨h1, h2⟩ := h
  refine FnSpec.walk dr_ok Try.func17 rfl (by kernel_rfl) rfl rfl rfl (by simp) ?_
  simp
  (first | refine callG_r ?_ | refine callD_r ?_); simp; (first | refine callN_flat (by with_reducible first | exact c_toBody d.bo h1) rfl ?_ | refine callN_new (by with_reducible first | exact c_toBody d.bo h1) ?_ | refine callM_flat (by with_reducible first | exact c_toBody d.bo h1) rfl ?_ | refine callM_new (by with_reducible first | exact c_toBody d.bo h1) ?_)
  simp
  (first | refine callG_r ?_ | refine callD_r ?_); simp; (first | refine callN_flat (by with_reducible first | exact c_toInt64S _ h2) rfl ?_ | refine callN_new (by with_reducible first | exact c_toInt64S _ h2) ?_ | refine callM_flat (by with_reducible first | exact c_toInt64S _ h2) rfl ?_ | refine callM_new (by with_reducible first | exact c_toInt64S _ h2) ?_)
  simp
  (refine endG_keepT [(some 3, 0), (some 4, 0), (some 5, 0), (some 6, 0)] ?_ ?_ ?_ ?_ ?_ ?_ ?_ ⟨rfl, rfl⟩ ?_ <;> simp)

-- equality of what is equal
theorem c_eqSS (T : List (List Int)) (n m : Nat) (hn : n = T.length) (hm : m = T.length) (h : RsOk T) : Fun Try.prog 55 [.view false (cRs false T) n, .view false (cRs false T) m] [] (.bool true) [] := by
  subst hn; subst hm
  have h1 := h.len
  refine FnSpec.walkF dr_ok Try.func55 rfl (by kernel_rfl) rfl rfl rfl (by simp) ?_
  simp
  refine loopG_of (α := Nat) (fun k => k ≤ T.length) (fun k => T.length - k) (fun k => [(0, .view false (cRs false T) T.length), (1, .view false (cRs false T) T.length), (5, .int .i64 k)]) (fun k => []) 0 (by simp) (weak_UH (by simp) (by simp)) fun k hk => ?_
  have hw := nat_wrap (k := k) (by omega)
  by_cases c : k < T.length
  · have h2 := h.all _ (List.getElem_mem c)
    simp [c, hw]
    (first | refine callG_r ?_ | refine callD_r ?_); simp; (first | refine callN_flat (by with_reducible first | exact c_eqInt64S _ _ _ rfl rfl (by omega)) rfl ?_ | refine callN_new (by with_reducible first | exact c_eqInt64S _ _ _ rfl rfl (by omega)) ?_ | refine callM_flat (by with_reducible first | exact c_eqInt64S _ _ _ rfl rfl (by omega)) rfl ?_ | refine callM_new (by with_reducible first | exact c_eqInt64S _ _ _ rfl rfl (by omega)) ?_)
    simp [c, hw]
    refine loopK_next (k + 1) (by omega) (by omega) (weak_UH (by simp) (by simp))
  · obtain rfl : k = T.length := by omega
    simp
theorem c_eqSpring (x y : Int) (z u : Nat) : Fun Try.prog 90 [.agg [.int .i64 x, .int .i64 y, .flt .f32 z, .flt .f32 u], .agg [.int .i64 x, .int .i64 y, .flt .f32 z, .flt .f32 u]] [] (.bool true) [] := by
  refine FnSpec.walkF dr_ok Try.func90 rfl (by kernel_rfl) rfl rfl rfl (by simp) ?_
  simp
  (first | refine callG_r ?_ | refine callD_r ?_); simp; (first | refine callN_flat (by with_reducible first | exact c_sameFloat _) rfl ?_ | refine callN_new (by with_reducible first | exact c_sameFloat _) ?_ | refine callM_flat (by with_reducible first | exact c_sameFloat _) rfl ?_ | refine callM_new (by with_reducible first | exact c_sameFloat _) ?_)
  simp
  (first | refine callG_r ?_ | refine callD_r ?_); simp; (first | refine callN_flat (by with_reducible first | exact c_sameFloat _) rfl ?_ | refine callN_new (by with_reducible first | exact c_sameFloat _) ?_ | refine callM_flat (by with_reducible first | exact c_sameFloat _) rfl ?_ | refine callM_new (by with_reducible first | exact c_sameFloat _) ?_)
  simp
theorem c_eqSpringS (l : List Sp) (n m : Nat) (hn : n = l.length) (hm : m = l.length) (h : l.length < 9223372036854775807) : Fun Try.prog 74 [.view false (cSs l) n, .view false (cSs l) m] [] (.bool true) [] := by
  subst hn; subst hm
  refine FnSpec.walkF dr_ok Try.func74 rfl (by kernel_rfl) rfl rfl rfl (by simp) ?_
  simp
  refine loopG_of (α := Nat) (fun k => k ≤ l.length) (fun k => l.length - k) (fun k => [(0, .view false (cSs l) l.length), (1, .view false (cSs l) l.length), (5, .int .i64 k)]) (fun k => []) 0 (by simp) (weak_UH (by simp) (by simp)) fun k hk => ?_
  have hw := nat_wrap (k := k) (by omega)
  by_cases c : k < l.length
  · simp [c, hw]
    (first | refine callG_r ?_ | refine callD_r ?_); simp; (first | refine callN_flat (by with_reducible first | exact c_eqSpring _ _ _ _) rfl ?_ | refine callN_new (by with_reducible first | exact c_eqSpring _ _ _ _) ?_ | refine callM_flat (by with_reducible first | exact c_eqSpring _ _ _ _) rfl ?_ | refine callM_new (by with_reducible first | exact c_eqSpring _ _ _ _) ?_)
    simp [c, hw]
    refine loopK_next (k + 1) (by omega) (by omega) (weak_UH (by simp) (by simp))
  · obtain rfl : k = l.length := by omega
    simp
theorem c_eqFloat32S (l : List Nat) (n m : Nat) (hn : n = l.length) (hm : m = l.length) (h : l.length < 9223372036854775807) : Fun Try.prog 76 [.view false (cFs l) n, .view false (cFs l) m] [] (.bool true) [] := by
  subst hn; subst hm
  refine FnSpec.walkF dr_ok Try.func76 rfl (by kernel_rfl) rfl rfl rfl (by simp) ?_
  simp
  refine loopG_of (α := Nat) (fun k => k ≤ l.length) (fun k => l.length - k) (fun k => [(0, .view false (cFs l) l.length), (1, .view false (cFs l) l.length), (5, .int .i64 k)]) (fun k => []) 0 (by simp) (weak_UH (by simp) (by simp)) fun k hk => ?_
  have hw := nat_wrap (k := k) (by omega)
  by_cases c : k < l.length
  · simp [c, hw]
    (first | refine callG_r ?_ | refine callD_r ?_); simp; (first | refine callN_flat (by with_reducible first | exact c_sameFloat _) rfl ?_ | refine callN_new (by with_reducible first | exact c_sameFloat _) ?_ | refine callM_flat (by with_reducible first | exact c_sameFloat _) rfl ?_ | refine callM_new (by with_reducible first | exact c_sameFloat _) ?_)
    simp [c, hw]
    refine loopK_next (k + 1) (by omega) (by omega) (weak_UH (by simp) (by simp))
  · obtain rfl : k = l.length := by omega
    simp
theorem c_eqMesh (m : Msh) (h : m.Small) : Fun Try.prog 24 [m.av, m.av] [] (.bool true) [] := by
  obtain ⟨h1, h2⟩ := h
  refine FnSpec.walkF dr_ok Try.func24 rfl (by kernel_rfl) rfl rfl rfl (by simp) ?_
  simp
  (first | refine callG_r ?_ | refine callD_r ?_); simp; (first | refine callN_flat (by with_reducible first | exact c_eqVectorS _ _ _ rfl rfl (by omega)) rfl ?_ | refine callN_new (by with_reducible first | exact c_eqVectorS _ _ _ rfl rfl (by omega)) ?_ | refine callM_flat (by with_reducible first | exact c_eqVectorS _ _ _ rfl rfl (by omega)) rfl ?_ | refine callM_new (by with_reducible first | exact c_eqVectorS _ _ _ rfl rfl (by omega)) ?_)
  simp
  (first | refine callG_r ?_ | refine callD_r ?_); simp; (first | refine callN_flat (by with_reducible first | exact c_eqSS _ _ _ rfl rfl h2) rfl ?_ | refine callN_new (by with_reducible first | exact c_eqSS _ _ _ rfl rfl h2) ?_ | refine callM_flat (by with_reducible first | exact c_eqSS _ _ _ rfl rfl h2) rfl ?_ | refine callM_new (by with_reducible first | exact c_eqSS _ _ _ rfl rfl h2) ?_)
  simp
theorem c_eqBody (b : Bod) (h : b.Small) : Fun Try.prog 45 [b.av, b.av] [] (.bool true) [] := by
  obtain ⟨h1, h2, h3⟩ := h
  refine FnSpec.walkF dr_ok Try.func45 rfl (by kernel_rfl) rfl rfl rfl (by simp) ?_
  simp
  (first | refine callG_r ?_ | refine callD_r ?_); simp; (first | refine callN_flat (by with_reducible first | exact c_eqMesh b.me h1) rfl ?_ | refine callN_new (by with_reducible first | exact c_eqMesh b.me h1) ?_ | refine callM_flat (by with_reducible first | exact c_eqMesh b.me h1) rfl ?_ | refine callM_new (by with_reducible first | exact c_eqMesh b.me h1) ?_)
  simp
  (first | refine callG_r ?_ | refine callD_r ?_); simp; (first | refine callN_flat (by with_reducible first | exact c_eqSpringS _ _ _ rfl rfl (by omega)) rfl ?_ | refine callN_new (by with_reducible first | exact c_eqSpringS _ _ _ rfl rfl (by omega)) ?_ | refine callM_flat (by with_reducible first | exact c_eqSpringS _ _ _ rfl rfl (by omega)) rfl ?_ | refine callM_new (by with_reducible first | exact c_eqSpringS _ _ _ rfl rfl (by omega)) ?_)
  simp
  (first | refine callG_r ?_ | refine callD_r ?_); simp; (first | refine callN_flat (by with_reducible first | exact c_sameFloat _) rfl ?_ | refine callN_new (by with_reducible first | exact c_sameFloat _) ?_ | refine callM_flat (by with_reducible first | exact c_sameFloat _) rfl ?_ | refine callM_new (by with_reducible first | exact c_sameFloat _) ?_)
  simp
  (first | refine callG_r ?_ | refine callD_r ?_); simp; (first | refine callN_flat (by with_reducible first | exact c_sameFloat _) rfl ?_ | refine callN_new (by with_reducible first | exact c_sameFloat _) ?_ | refine callM_flat (by with_reducible first | exact c_sameFloat _) rfl ?_ | refine callM_new (by with_reducible first | exact c_sameFloat _) ?_)
  simp
  (first | refine callG_r ?_ | refine callD_r ?_); simp; (first | refine callN_flat (by with_reducible first | exact c_eqFloat32S _ _ _ rfl rfl (by omega)) rfl ?_ | refine callN_new (by with_reducible first | exact c_eqFloat32S _ _ _ rfl rfl (by omega)) ?_ | refine callM_flat (by with_reducible first | exact c_eqFloat32S _ _ _ rfl rfl (by omega)) rfl ?_ | refine callM_new (by with_reducible first | exact c_eqFloat32S _ _ _ rfl rfl (by omega)) ?_)
  simp
  (first | refine callG_r ?_ | refine callD_r ?_); simp; (first | refine callN_flat (by with_reducible first | exact c_eqVector _ _ _) rfl ?_ | refine callN_new (by with_reducible first | exact c_eqVector _ _ _) ?_ | refine callM_flat (by with_reducible first | exact c_eqVector _ _ _) rfl ?_ | refine callM_new (by with_reducible first | exact c_eqVector _ _ _) ?_)
  simp
theorem c_eqDesk (d : Dsk) (h : d.Small) : Fun Try.prog 19 [d.av, d.av] [] (.bool true) [] := by
  obtain ⟨h1, h2⟩ := h
  refine FnSpec.walkF dr_ok Try.func19 rfl (by kernel_rfl) rfl rfl rfl (by simp) ?_
  simp
  (first | refine callG_r ?_ | refine callD_r ?_); simp; (first | refine callN_flat (by with_reducible first | exact c_eqBody d.bo h1) rfl ?_ | refine callN_new (by with_reducible first | exact c_eqBody d.bo h1) ?_ | refine callM_flat (by with_reducible first | exact c_eqBody d.bo h1) rfl ?_ | refine callM_new (by with_reducible first | exact c_eqBody d.bo h1) ?_)
  simp
  (first | refine callG_r ?_ | refine callD_r ?_); simp; (first | refine callN_flat (by with_reducible first | exact c_eqInt64S _ _ _ rfl rfl (by omega)) rfl ?_ | refine callN_new (by with_reducible first | exact c_eqInt64S _ _ _ rfl rfl (by omega)) ?_ | refine callM_flat (by with_reducible first | exact c_eqInt64S _ _ _ rfl rfl (by omega)) rfl ?_ | refine callM_new (by with_reducible first | exact c_eqInt64S _ _ _ rfl rfl (by omega)) ?_)
  simp
end Go.Proofs.Ytnpflgeenecaeaa
