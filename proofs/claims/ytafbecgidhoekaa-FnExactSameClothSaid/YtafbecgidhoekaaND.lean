/- The law of cloths that are the same.
Conditions: none. -/
import Derived.Test.YtafbecgidhoekaaMC
import Derived.Test.YtafbecgidhoekaaL4
namespace Go.Proofs.Ytafbecgidhoekaa
set_option linter.all false
open Go Go.Awp
set_option maxRecDepth 100000
set_option maxHeartbeats 4000000
set_option pp.deepTerms true

def szC' (a b c d : Nat) (l : Int) : Int := if szL a l < 0 then -1 else if szL b (szL a l) < 0 then -1 else if szL c (szL b (szL a l)) < 0 then -1 else if szL d (szL c (szL b (szL a l))) < 0 then -1 else szL d (szL c (szL b (szL a l)))
theorem szC_le {a b c d : Nat} : szC a b c d ≤ 1048576 := by
  have b1 := szL_le (n := a) (left := 1048576) (by omega)
  have b2 := szL_le (n := b) b1
  have b3 := szL_le (n := c) b2
  have b4 := szL_le (n := d) b3
  unfold szC
  repeat' split
  all_goals omega
theorem szC'_ok {a b c d : Nat} {l : Int} (hl : l ≤ 1048576) (h : ¬ szC' a b c d l < 0) : a ≤ 1048576 ∧ b ≤ 1048576 ∧ c ≤ 1048576 ∧ d ≤ 1048576 := by
  unfold szC' at h
  split at h
  · omega
  · split at h
    · omega
    · split at h
      · omega
      · split at h
        · omega
        · rename_i h1 h2 h3 h4
          have a1 := szL_ok h1
          have a2 := szL_ok h2
          have a3 := szL_ok h3
          have a4 := szL_ok h4
          have b1 := szL_le (n := a) hl
          have b2 := szL_le (n := b) b1
          have b3 := szL_le (n := c) b2
          omega
theorem c_szClothL (ca cb cc cd : List AV) (a b c d : Nat) (l : Int) (h1 : a ≤ 9223372036854775807) (h2 : b ≤ 9223372036854775807) (h3 : c ≤ 9223372036854775807) (h4 : d ≤ 9223372036854775807) (l0 : 0 ≤ l) (l1 : l ≤ 1048576) :
    Fun Try.prog 19 [.agg [.view false ca a, .view false cb b, .view false cc c, .view false cd d], .int .i64 l] [] (.int .i64 (szC' a b c d l)) [] := by
  refine FnSpec.walkF dr_ok Try.func19 rfl (by kernel_rfl) rfl rfl rfl (by simp) ?_
  simp
  (first | refine callG_r ?_ | refine callD_r ?_); simp; (first | refine callN_flat (by with_reducible first | exact c_szVectorS _ _ _ h1 l0 l1) rfl ?_ | refine callN_new (by with_reducible first | exact c_szVectorS _ _ _ h1 l0 l1) ?_ | refine callM_flat (by with_reducible first | exact c_szVectorS _ _ _ h1 l0 l1) rfl ?_ | refine callM_new (by with_reducible first | exact c_szVectorS _ _ _ h1 l0 l1) ?_)
  simp
  unfold szC'
  have b1 := szL_le (n := a) l1
  generalize szL a l = x at *
  refine ⟨fun k1 => by rw [if_pos k1], fun k1 => ?_⟩
  (first | refine callG_r ?_ | refine callD_r ?_); simp; (first | refine callN_flat (by with_reducible first | exact c_szVectorS _ _ _ h2 (by omega) b1) rfl ?_ | refine callN_new (by with_reducible first | exact c_szVectorS _ _ _ h2 (by omega) b1) ?_ | refine callM_flat (by with_reducible first | exact c_szVectorS _ _ _ h2 (by omega) b1) rfl ?_ | refine callM_new (by with_reducible first | exact c_szVectorS _ _ _ h2 (by omega) b1) ?_)
  simp
  have b2 := szL_le (n := b) b1
  generalize szL b x = y at *
  refine ⟨fun k2 => by intros; omega, fun k2 => ?_⟩
  (first | refine callG_r ?_ | refine callD_r ?_); simp; (first | refine callN_flat (by with_reducible first | exact c_szThreadS _ _ _ h3 (by omega) b2) rfl ?_ | refine callN_new (by with_reducible first | exact c_szThreadS _ _ _ h3 (by omega) b2) ?_ | refine callM_flat (by with_reducible first | exact c_szThreadS _ _ _ h3 (by omega) b2) rfl ?_ | refine callM_new (by with_reducible first | exact c_szThreadS _ _ _ h3 (by omega) b2) ?_)
  simp
  have b3 := szL_le (n := c) b2
  generalize szL c y = z at *
  refine ⟨fun k3 => by intros; omega, fun k3 => ?_⟩
  (first | refine callG_r ?_ | refine callD_r ?_); simp; (first | refine callN_flat (by with_reducible first | exact c_szInt64S _ _ _ h4 (by omega) b3) rfl ?_ | refine callN_new (by with_reducible first | exact c_szInt64S _ _ _ h4 (by omega) b3) ?_ | refine callM_flat (by with_reducible first | exact c_szInt64S _ _ _ h4 (by omega) b3) rfl ?_ | refine callM_new (by with_reducible first | exact c_szInt64S _ _ _ h4 (by omega) b3) ?_)
  simp
  grind
theorem law_SameCloth (a b : Clo) (ha : a.Len ∧ a.Can) (hb : b.Len ∧ b.Can) : FnSpec Try.prog 4 [a.av, b.av] [] fun av _ => av = .bool true := by
  obtain ⟨ha, ka⟩ := ha
  obtain ⟨hb, kb⟩ := hb
  refine FnSpec.walkF dr_ok Try.func4 rfl (by kernel_rfl) rfl rfl rfl (by simp) ?_
  simp
  (first | refine callG_r ?_ | refine callD_r ?_); simp; (first | refine callN_flat (by with_reducible first | exact c_szCloth _ _ _ _ _ _ _ _ ha.1 ha.2 ha.3 ha.4) rfl ?_ | refine callN_new (by with_reducible first | exact c_szCloth _ _ _ _ _ _ _ _ ha.1 ha.2 ha.3 ha.4) ?_ | refine callM_flat (by with_reducible first | exact c_szCloth _ _ _ _ _ _ _ _ ha.1 ha.2 ha.3 ha.4) rfl ?_ | refine callM_new (by with_reducible first | exact c_szCloth _ _ _ _ _ _ _ _ ha.1 ha.2 ha.3 ha.4) ?_)
  simp
  intro h0
  have sa := small_of h0
  (first | refine callG_r ?_ | refine callD_r ?_); simp; (first | refine callN_flat (by with_reducible first | exact c_szClothL _ _ _ _ _ _ _ _ _ hb.1 hb.2 hb.3 hb.4 h0 szC_le) rfl ?_ | refine callN_new (by with_reducible first | exact c_szClothL _ _ _ _ _ _ _ _ _ hb.1 hb.2 hb.3 hb.4 h0 szC_le) ?_ | refine callM_flat (by with_reducible first | exact c_szClothL _ _ _ _ _ _ _ _ _ hb.1 hb.2 hb.3 hb.4 h0 szC_le) rfl ?_ | refine callM_new (by with_reducible first | exact c_szClothL _ _ _ _ _ _ _ _ _ hb.1 hb.2 hb.3 hb.4 h0 szC_le) ?_)
  simp
  intro h1
  have sb : b.Small := by
    obtain ⟨q1, q2, q3, q4⟩ := szC'_ok szC_le (Int.not_lt.2 h1)
    exact ⟨q1, q2, q3, q4⟩
  (first | refine callG_r ?_ | refine callD_r ?_); simp; (first | refine callN_flat (by with_reducible first | exact c_toCloth a sa) rfl ?_ | refine callN_new (by with_reducible first | exact c_toCloth a sa) ?_ | refine callM_flat (by with_reducible first | exact c_toCloth a sa) rfl ?_ | refine callM_new (by with_reducible first | exact c_toCloth a sa) ?_)
  simp
  (first | refine callG_r ?_ | refine callD_r ?_); simp; (first | refine callN_flat (by with_reducible first | exact c_toCloth b sb) rfl ?_ | refine callN_new (by with_reducible first | exact c_toCloth b sb) ?_ | refine callM_flat (by with_reducible first | exact c_toCloth b sb) rfl ?_ | refine callM_new (by with_reducible first | exact c_toCloth b sb) ?_)
  simp
  (first | refine callG_r ?_ | refine callD_r ?_); simp; (first | refine callN_flat (by with_reducible first | exact c_specSameCloth a b sa sb ka kb) rfl ?_ | refine callN_new (by with_reducible first | exact c_specSameCloth a b sa sb ka kb) ?_ | refine callM_flat (by with_reducible first | exact c_specSameCloth a b sa sb ka kb) rfl ?_ | refine callM_new (by with_reducible first | exact c_specSameCloth a b sa sb ka kb) ?_)
  simp
  (first | refine callG_r ?_ | refine callD_r ?_); simp; (first | refine callN_flat (by with_reducible first | exact c_toCloth a sa) rfl ?_ | refine callN_new (by with_reducible first | exact c_toCloth a sa) ?_ | refine callM_flat (by with_reducible first | exact c_toCloth a sa) rfl ?_ | refine callM_new (by with_reducible first | exact c_toCloth a sa) ?_)
  simp
  (first | refine callG_r ?_ | refine callD_r ?_); simp; (first | refine callN_flat (by with_reducible first | exact c_toCloth b sb) rfl ?_ | refine callN_new (by with_reducible first | exact c_toCloth b sb) ?_ | refine callM_flat (by with_reducible first | exact c_toCloth b sb) rfl ?_ | refine callM_new (by with_reducible first | exact c_toCloth b sb) ?_)
  simp
  (first | refine callG_r ?_ | refine callD_r ?_); simp; (first | refine callN_flat (by with_reducible first | exact c_SameCloth a b sa sb ka kb) rfl ?_ | refine callN_new (by with_reducible first | exact c_SameCloth a b sa sb ka kb) ?_ | refine callM_flat (by with_reducible first | exact c_SameCloth a b sa sb ka kb) rfl ?_ | refine callM_new (by with_reducible first | exact c_SameCloth a b sa sb ka kb) ?_)
  simp
  (first | refine callG_r ?_ | refine callD_r ?_); simp; (first | refine callN_flat (by with_reducible first | exact c_toCloth a sa) rfl ?_ | refine callN_new (by with_reducible first | exact c_toCloth a sa) ?_ | refine callM_flat (by with_reducible first | exact c_toCloth a sa) rfl ?_ | refine callM_new (by with_reducible first | exact c_toCloth a sa) ?_)
  simp
  obtain ⟨e1, e2, e3, e4⟩ := sa
  (first | refine callG_r ?_ | refine callD_r ?_); simp; (first | refine callN_flat (by with_reducible first | exact c_eqCloth _ _ _ _ _ _ _ _ _ _ _ _ rfl rfl rfl rfl rfl rfl rfl rfl e1 e2 e3 e4) rfl ?_ | refine callN_new (by with_reducible first | exact c_eqCloth _ _ _ _ _ _ _ _ _ _ _ _ rfl rfl rfl rfl rfl rfl rfl rfl e1 e2 e3 e4) ?_ | refine callM_flat (by with_reducible first | exact c_eqCloth _ _ _ _ _ _ _ _ _ _ _ _ rfl rfl rfl rfl rfl rfl rfl rfl e1 e2 e3 e4) rfl ?_ | refine callM_new (by with_reducible first | exact c_eqCloth _ _ _ _ _ _ _ _ _ _ _ _ rfl rfl rfl rfl rfl rfl rfl rfl e1 e2 e3 e4) ?_)
  simp
  (first | refine callG_r ?_ | refine callD_r ?_); simp; (first | refine callN_flat (by with_reducible first | exact c_toCloth b sb) rfl ?_ | refine callN_new (by with_reducible first | exact c_toCloth b sb) ?_ | refine callM_flat (by with_reducible first | exact c_toCloth b sb) rfl ?_ | refine callM_new (by with_reducible first | exact c_toCloth b sb) ?_)
  simp
  obtain ⟨e1, e2, e3, e4⟩ := sb
  (first | refine callG_r ?_ | refine callD_r ?_); simp; (first | refine callN_flat (by with_reducible first | exact c_eqCloth _ _ _ _ _ _ _ _ _ _ _ _ rfl rfl rfl rfl rfl rfl rfl rfl e1 e2 e3 e4) rfl ?_ | refine callN_new (by with_reducible first | exact c_eqCloth _ _ _ _ _ _ _ _ _ _ _ _ rfl rfl rfl rfl rfl rfl rfl rfl e1 e2 e3 e4) ?_ | refine callM_flat (by with_reducible first | exact c_eqCloth _ _ _ _ _ _ _ _ _ _ _ _ rfl rfl rfl rfl rfl rfl rfl rfl e1 e2 e3 e4) rfl ?_ | refine callM_new (by with_reducible first | exact c_eqCloth _ _ _ _ _ _ _ _ _ _ _ _ rfl rfl rfl rfl rfl rfl rfl rfl e1 e2 e3 e4) ?_)
  simp
end Go.Proofs.Ytafbecgidhoekaa
