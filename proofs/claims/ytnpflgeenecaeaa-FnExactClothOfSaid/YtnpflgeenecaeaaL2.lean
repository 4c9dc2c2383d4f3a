/- Contracts of what the laws do with cloths: sizes, copies, equality.
Conditions: none. -/
import Derived.Test.YtnpflgeenecaeaaL1
namespace Go.Proofs.Ytnpflgeenecaeaa
set_option linter.all false
open Go Go.Awp
set_option maxRecDepth 100000
set_option maxHeartbeats 4000000

/-- What is left of a size. -/
def szL (n : Nat) (left : Int) : Int := if left - n < 0 then -1 else left - n
theorem c_szVectorS (c : List AV) (n : Nat) (left : Int) (h : n ≤ 9223372036854775807) (h0 : 0 ≤ left) (h1 : left ≤ 1048576) : Fun Try.prog 27 [.view false c n, .int .i64 left] [] (.int .i64 (szL n left)) [] := by
  refine FnSpec.walkF dr_ok Try.func27 rfl (by kernel_rfl) rfl rfl rfl (by simp) ?_
  have e : IntKind.i64.wrap (left - n) = left - n := wrap64 (by omega) (by omega)
  simp [e, szL]
  grind
theorem c_szThreadS (c : List AV) (n : Nat) (left : Int) (h : n ≤ 9223372036854775807) (h0 : 0 ≤ left) (h1 : left ≤ 1048576) : Fun Try.prog 28 [.view false c n, .int .i64 left] [] (.int .i64 (szL n left)) [] := by
  refine FnSpec.walkF dr_ok Try.func28 rfl (by kernel_rfl) rfl rfl rfl (by simp) ?_
  have e : IntKind.i64.wrap (left - n) = left - n := wrap64 (by omega) (by omega)
  simp [e, szL]
  grind
theorem c_szInt64S (c : List AV) (n : Nat) (left : Int) (h : n ≤ 9223372036854775807) (h0 : 0 ≤ left) (h1 : left ≤ 1048576) : Fun Try.prog 29 [.view false c n, .int .i64 left] [] (.int .i64 (szL n left)) [] := by
  refine FnSpec.walkF dr_ok Try.func29 rfl (by kernel_rfl) rfl rfl rfl (by simp) ?_
  have e : IntKind.i64.wrap (left - n) = left - n := wrap64 (by omega) (by omega)
  simp [e, szL]
  grind
theorem szL_le {n : Nat} {left : Int} (h : left ≤ 1048576) : szL n left ≤ 1048576 := by unfold szL; split <;> omega
theorem szL_ok {n : Nat} {left : Int} (h : ¬ szL n left < 0) : (n : Int) ≤ left := by unfold szL at h; split at h <;> omega
def szC (a b c d : Nat) : Int := if szL a 1048576 < 0 then -1 else if szL b (szL a 1048576) < 0 then -1 else if szL c (szL b (szL a 1048576)) < 0 then -1 else if szL d (szL c (szL b (szL a 1048576))) < 0 then -1 else szL d (szL c (szL b (szL a 1048576)))
theorem szC_ok {a b c d : Nat} (h : ¬ szC a b c d < 0) : a ≤ 1048576 ∧ b ≤ 1048576 ∧ c ≤ 1048576 ∧ d ≤ 1048576 := by
  unfold szC at h
  split at h
  · omega
  · split at h
    · omega
    · split at h
      · omega
      · split at h
        · omega
        · rename_i h1 h2 h3 h4
          have a1 := szL_ok h1
          have a2 := szL_ok h2
          have a3 := szL_ok h3
          have a4 := szL_ok h4
          have b1 := szL_le (n := a) (left := 1048576) (by omega)
          have b2 := szL_le (n := b) b1
          have b3 := szL_le (n := c) b2
          omega
theorem c_szCloth (ca cb cc cd : List AV) (a b c d : Nat) (h1 : a ≤ 9223372036854775807) (h2 : b ≤ 9223372036854775807) (h3 : c ≤ 9223372036854775807) (h4 : d ≤ 9223372036854775807) :
    Fun Try.prog 6 [.agg [.view false ca a, .view false cb b, .view false cc c, .view false cd d], .int .i64 1048576] [] (.int .i64 (szC a b c d)) [] := by
  refine FnSpec.walkF dr_ok Try.func6 rfl (by kernel_rfl) rfl rfl rfl (by simp) ?_
  simp
  (first | refine callG_r ?_ | refine callD_r ?_); simp; (first | refine callN_flat (by with_reducible first | exact c_szVectorS _ _ _ h1 (by omega) (by omega)) rfl ?_ | refine callN_new (by with_reducible first | exact c_szVectorS _ _ _ h1 (by omega) (by omega)) ?_ | refine callM_flat (by with_reducible first | exact c_szVectorS _ _ _ h1 (by omega) (by omega)) rfl ?_ | refine callM_new (by with_reducible first | exact c_szVectorS _ _ _ h1 (by omega) (by omega)) ?_)
  simp
  unfold szC
  have b1 := szL_le (n := a) (left := 1048576) (by omega)
  generalize szL a 1048576 = x at *
  refine ⟨fun k1 => by rw [if_pos k1], fun k1 => ?_⟩
  (first | refine callG_r ?_ | refine callD_r ?_); simp; (first | refine callN_flat (by with_reducible first | exact c_szVectorS _ _ _ h2 (by omega) b1) rfl ?_ | refine callN_new (by with_reducible first | exact c_szVectorS _ _ _ h2 (by omega) b1) ?_ | refine callM_flat (by with_reducible first | exact c_szVectorS _ _ _ h2 (by omega) b1) rfl ?_ | refine callM_new (by with_reducible first | exact c_szVectorS _ _ _ h2 (by omega) b1) ?_)
  simp
  have b2 := szL_le (n := b) b1
  generalize szL b x = y at *
  refine ⟨fun k2 => by intros; omega, fun k2 => ?_⟩
  (first | refine callG_r ?_ | refine callD_r ?_); simp; (first | refine callN_flat (by with_reducible first | exact c_szThreadS _ _ _ h3 (by omega) b2) rfl ?_ | refine callN_new (by with_reducible first | exact c_szThreadS _ _ _ h3 (by omega) b2) ?_ | refine callM_flat (by with_reducible first | exact c_szThreadS _ _ _ h3 (by omega) b2) rfl ?_ | refine callM_new (by with_reducible first | exact c_szThreadS _ _ _ h3 (by omega) b2) ?_)
  simp
  have b3 := szL_le (n := c) b2
  generalize szL c y = z at *
  refine ⟨fun k3 => by intros; omega, fun k3 => ?_⟩
  (first | refine callG_r ?_ | refine callD_r ?_); simp; (first | refine callN_flat (by with_reducible first | exact c_szInt64S _ _ _ h4 (by omega) b3) rfl ?_ | refine callN_new (by with_reducible first | exact c_szInt64S _ _ _ h4 (by omega) b3) ?_ | refine callM_flat (by with_reducible first | exact c_szInt64S _ _ _ h4 (by omega) b3) rfl ?_ | refine callM_new (by with_reducible first | exact c_szInt64S _ _ _ h4 (by omega) b3) ?_)
  simp
  grind

/-- A cloth: places, where they were, threads, pins. -/
structure Clo where
  pl : List V
  ol : List V
  th : List Th
  pin : List Int
/-- A cloth as what is only read. -/
abbrev Clo.av (c : Clo) : AV := .agg [.view false (cVs c.pl) c.pl.length, .view false (cVs c.ol) c.ol.length, .view false (cTs c.th) c.th.length, .view false (cIs c.pin) c.pin.length]
/-- A cloth in memory of its own. -/
abbrev Clo.own (c : Clo) (r : Nat) : AV := .agg [.slc r 0 c.pl.length 3, .slc (r + 1) 0 c.ol.length 3, .slc (r + 2) 0 c.th.length 3, .slc (r + 3) 0 c.pin.length 1]
abbrev Clo.mem (c : Clo) : Heap := [.blk true false 57 (cVs c.pl), .blk true false 57 (cVs c.ol), .blk true false 77 (cTs c.th), .blk true false 2 (cIs c.pin)]
attribute [simp] Clo.av Clo.own Clo.mem
structure Clo.Small (c : Clo) : Prop where
  pl : c.pl.length ≤ 1048576
  ol : c.ol.length ≤ 1048576
  th : c.th.length ≤ 1048576
  pin : c.pin.length ≤ 1048576

theorem c_toCloth (c : Clo) (h : c.Small) : Fun Try.prog 8 [c.av] [] (c.own 0) c.mem := by
  obtain ⟨h1, h2, h3, h4⟩ := h
  refine FnSpec.walk dr_ok Try.func8 rfl (by kernel_rfl) rfl rfl rfl (by simp) ?_
  simp
  (first | refine callG_r ?_ | refine callD_r ?_); simp; (first | refine callN_flat (by with_reducible first | exact c_toVectorS _ h1) rfl ?_ | refine callN_new (by with_reducible first | exact c_toVectorS _ h1) ?_ | refine callM_flat (by with_reducible first | exact c_toVectorS _ h1) rfl ?_ | refine callM_new (by with_reducible first | exact c_toVectorS _ h1) ?_)
  simp
  (first | refine callG_r ?_ | refine callD_r ?_); simp; (first | refine callN_flat (by with_reducible first | exact c_toVectorS _ h2) rfl ?_ | refine callN_new (by with_reducible first | exact c_toVectorS _ h2) ?_ | refine callM_flat (by with_reducible first | exact c_toVectorS _ h2) rfl ?_ | refine callM_new (by with_reducible first | exact c_toVectorS _ h2) ?_)
  simp
  (first | refine callG_r ?_ | refine callD_r ?_); simp; (first | refine callN_flat (by with_reducible first | exact c_toThreadS _ h3) rfl ?_ | refine callN_new (by with_reducible first | exact c_toThreadS _ h3) ?_ | refine callM_flat (by with_reducible first | exact c_toThreadS _ h3) rfl ?_ | refine callM_new (by with_reducible first | exact c_toThreadS _ h3) ?_)
  simp
  (first | refine callG_r ?_ | refine callD_r ?_); simp; (first | refine callN_flat (by with_reducible first | exact c_toInt64S _ h4) rfl ?_ | refine callN_new (by with_reducible first | exact c_toInt64S _ h4) ?_ | refine callM_flat (by with_reducible first | exact c_toInt64S _ h4) rfl ?_ | refine callM_new (by with_reducible first | exact c_toInt64S _ h4) ?_)
  simp
  (refine endG_keepT [(some 3, 0), (some 4, 0), (some 5, 0), (some 6, 0)] ?_ ?_ ?_ ?_ ?_ ?_ ?_ ⟨rfl, rfl⟩ ?_ <;> simp)

-- equality of what is equal
theorem c_sameFloat (x : Nat) : Fun Try.prog 75 [.flt .f64 x, .flt .f64 x] [] (.bool true) [] := by
  refine FnSpec.walkF dr_ok Try.func75 rfl (by kernel_rfl) rfl rfl rfl (by simp) ?_
  by_cases h : ford .f64 x x = some .eq <;> simp [h]
theorem c_eqVector (x y z : Nat) : Fun Try.prog 65 [.agg [.flt .f32 x, .flt .f32 y, .flt .f32 z], .agg [.flt .f32 x, .flt .f32 y, .flt .f32 z]] [] (.bool true) [] := by
  refine FnSpec.walkF dr_ok Try.func65 rfl (by kernel_rfl) rfl rfl rfl (by simp) ?_
  simp
  (first | refine callG_r ?_ | refine callD_r ?_); simp; (first | refine callN_flat (by with_reducible first | exact c_sameFloat _) rfl ?_ | refine callN_new (by with_reducible first | exact c_sameFloat _) ?_ | refine callM_flat (by with_reducible first | exact c_sameFloat _) rfl ?_ | refine callM_new (by with_reducible first | exact c_sameFloat _) ?_)
  simp
  (first | refine callG_r ?_ | refine callD_r ?_); simp; (first | refine callN_flat (by with_reducible first | exact c_sameFloat _) rfl ?_ | refine callN_new (by with_reducible first | exact c_sameFloat _) ?_ | refine callM_flat (by with_reducible first | exact c_sameFloat _) rfl ?_ | refine callM_new (by with_reducible first | exact c_sameFloat _) ?_)
  simp
  (first | refine callG_r ?_ | refine callD_r ?_); simp; (first | refine callN_flat (by with_reducible first | exact c_sameFloat _) rfl ?_ | refine callN_new (by with_reducible first | exact c_sameFloat _) ?_ | refine callM_flat (by with_reducible first | exact c_sameFloat _) rfl ?_ | refine callM_new (by with_reducible first | exact c_sameFloat _) ?_)
  simp
theorem c_eqThread (x y : Int) (z : Nat) : Fun Try.prog 66 [.agg [.int .i64 x, .int .i64 y, .flt .f32 z], .agg [.int .i64 x, .int .i64 y, .flt .f32 z]] [] (.bool true) [] := by
  refine FnSpec.walkF dr_ok Try.func66 rfl (by kernel_rfl) rfl rfl rfl (by simp) ?_
  simp
  (first | refine callG_r ?_ | refine callD_r ?_); simp; (first | refine callN_flat (by with_reducible first | exact c_sameFloat _) rfl ?_ | refine callN_new (by with_reducible first | exact c_sameFloat _) ?_ | refine callM_flat (by with_reducible first | exact c_sameFloat _) rfl ?_ | refine callM_new (by with_reducible first | exact c_sameFloat _) ?_)
  simp
theorem c_eqVectorS (l : List V) (n m : Nat) (hn : n = l.length) (hm : m = l.length) (h : l.length < 9223372036854775807) : Fun Try.prog 37 [.view false (cVs l) n, .view false (cVs l) m] [] (.bool true) [] := by
  subst hn; subst hm
  refine FnSpec.walkF dr_ok Try.func37 rfl (by kernel_rfl) rfl rfl rfl (by simp) ?_
  simp
  refine loopG_of (α := Nat) (fun k => k ≤ l.length) (fun k => l.length - k) (fun k => [(0, .view false (cVs l) l.length), (1, .view false (cVs l) l.length), (5, .int .i64 k)]) (fun k => []) 0 (by simp) (weak_UH (by simp) (by simp)) fun k hk => ?_
  have hw := nat_wrap (k := k) (by omega)
  by_cases c : k < l.length
  · simp [c, hw]
    (first | refine callG_r ?_ | refine callD_r ?_); simp; (first | refine callN_flat (by with_reducible first | exact c_eqVector _ _ _) rfl ?_ | refine callN_new (by with_reducible first | exact c_eqVector _ _ _) ?_ | refine callM_flat (by with_reducible first | exact c_eqVector _ _ _) rfl ?_ | refine callM_new (by with_reducible first | exact c_eqVector _ _ _) ?_)
    simp [c, hw]
    refine loopK_next (k + 1) (by omega) (by omega) (weak_UH (by simp) (by simp))
  · obtain rfl : k = l.length := by omega
    simp
theorem c_eqThreadS (l : List Th) (n m : Nat) (hn : n = l.length) (hm : m = l.length) (h : l.length < 9223372036854775807) : Fun Try.prog 38 [.view false (cTs l) n, .view false (cTs l) m] [] (.bool true) [] := by
  subst hn; subst hm
  refine FnSpec.walkF dr_ok Try.func38 rfl (by kernel_rfl) rfl rfl rfl (by simp) ?_
  simp
  refine loopG_of (α := Nat) (fun k => k ≤ l.length) (fun k => l.length - k) (fun k => [(0, .view false (cTs l) l.length), (1, .view false (cTs l) l.length), (5, .int .i64 k)]) (fun k => []) 0 (by simp) (weak_UH (by simp) (by simp)) fun k hk => ?_
  have hw := nat_wrap (k := k) (by omega)
  by_cases c : k < l.length
  · simp [c, hw]
    (first | refine callG_r ?_ | refine callD_r ?_); simp; (first | refine callN_flat (by with_reducible first | exact c_eqThread _ _ _) rfl ?_ | refine callN_new (by with_reducible first | exact c_eqThread _ _ _) ?_ | refine callM_flat (by with_reducible first | exact c_eqThread _ _ _) rfl ?_ | refine callM_new (by with_reducible first | exact c_eqThread _ _ _) ?_)
    simp [c, hw]
    refine loopK_next (k + 1) (by omega) (by omega) (weak_UH (by simp) (by simp))
  · obtain rfl : k = l.length := by omega
    simp
theorem c_eqInt64S (l : List Int) (n m : Nat) (hn : n = l.length) (hm : m = l.length) (h : l.length < 9223372036854775807) : Fun Try.prog 10 [.view false (cIs l) n, .view false (cIs l) m] [] (.bool true) [] := by
  subst hn; subst hm
  refine FnSpec.walkF dr_ok Try.func10 rfl (by kernel_rfl) rfl rfl rfl (by simp) ?_
  simp
  refine loopG_of (α := Nat) (fun k => k ≤ l.length) (fun k => l.length - k) (fun k => [(0, .view false (cIs l) l.length), (1, .view false (cIs l) l.length), (5, .int .i64 k)]) (fun k => []) 0 (by simp) (weak_UH (by simp) (by simp)) fun k hk => ?_
  have hw := nat_wrap (k := k) (by omega)
  by_cases c : k < l.length
  · simp [c, hw]
    refine loopK_next (k + 1) (by omega) (by omega) (weak_UH (by simp) (by simp))
  · obtain rfl : k = l.length := by omega
    simp
theorem c_eqCloth (a : List V) (b : List V) (c : List Th) (d : List Int) (na nb nc nd ma mb mc md : Nat) (h1 : na = a.length) (h2 : nb = b.length) (h3 : nc = c.length) (h4 : nd = d.length) (k1 : ma = a.length) (k2 : mb = b.length) (k3 : mc = c.length) (k4 : md = d.length)
    (g1 : a.length ≤ 1048576) (g2 : b.length ≤ 1048576) (g3 : c.length ≤ 1048576) (g4 : d.length ≤ 1048576) :
    Fun Try.prog 11 [.agg [.view false (cVs a) na, .view false (cVs b) nb, .view false (cTs c) nc, .view false (cIs d) nd], .agg [.view false (cVs a) ma, .view false (cVs b) mb, .view false (cTs c) mc, .view false (cIs d) md]] [] (.bool true) [] := by
  refine FnSpec.walkF dr_ok Try.func11 rfl (by kernel_rfl) rfl rfl rfl (by simp) ?_
  simp
  (first | refine callG_r ?_ | refine callD_r ?_); simp; (first | refine callN_flat (by with_reducible first | exact c_eqVectorS _ _ _ h1 k1 (by omega)) rfl ?_ | refine callN_new (by with_reducible first | exact c_eqVectorS _ _ _ h1 k1 (by omega)) ?_ | refine callM_flat (by with_reducible first | exact c_eqVectorS _ _ _ h1 k1 (by omega)) rfl ?_ | refine callM_new (by with_reducible first | exact c_eqVectorS _ _ _ h1 k1 (by omega)) ?_)
  simp
  (first | refine callG_r ?_ | refine callD_r ?_); simp; (first | refine callN_flat (by with_reducible first | exact c_eqVectorS _ _ _ h2 k2 (by omega)) rfl ?_ | refine callN_new (by with_reducible first | exact c_eqVectorS _ _ _ h2 k2 (by omega)) ?_ | refine callM_flat (by with_reducible first | exact c_eqVectorS _ _ _ h2 k2 (by omega)) rfl ?_ | refine callM_new (by with_reducible first | exact c_eqVectorS _ _ _ h2 k2 (by omega)) ?_)
  simp
  (first | refine callG_r ?_ | refine callD_r ?_); simp; (first | refine callN_flat (by with_reducible first | exact c_eqThreadS _ _ _ h3 k3 (by omega)) rfl ?_ | refine callN_new (by with_reducible first | exact c_eqThreadS _ _ _ h3 k3 (by omega)) ?_ | refine callM_flat (by with_reducible first | exact c_eqThreadS _ _ _ h3 k3 (by omega)) rfl ?_ | refine callM_new (by with_reducible first | exact c_eqThreadS _ _ _ h3 k3 (by omega)) ?_)
  simp
  (first | refine callG_r ?_ | refine callD_r ?_); simp; (first | refine callN_flat (by with_reducible first | exact c_eqInt64S _ _ _ h4 k4 (by omega)) rfl ?_ | refine callN_new (by with_reducible first | exact c_eqInt64S _ _ _ h4 k4 (by omega)) ?_ | refine callM_flat (by with_reducible first | exact c_eqInt64S _ _ _ h4 k4 (by omega)) rfl ?_ | refine callM_new (by with_reducible first | exact c_eqInt64S _ _ _ h4 k4 (by omega)) ?_)
  simp
end Go.Proofs.Ytnpflgeenecaeaa
