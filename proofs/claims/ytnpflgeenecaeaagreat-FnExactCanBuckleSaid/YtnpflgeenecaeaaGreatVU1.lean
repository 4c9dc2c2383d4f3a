/- The law of Rayleigh's quotient.
Conditions: none. -/
import Derived.Test.YtnpflgeenecaeaaGreatW5
import Derived.Test.YtnpflgeenecaeaaGreatW1
namespace Go.Proofs.YtnpflgeenecaeaaGreat
set_option linter.all false
open Go Go.Awp
set_option maxRecDepth 100000
set_option maxHeartbeats 4000000
set_option pp.deepTerms true

theorem arg_Vs : ArgOk Tryz.prog 22 fun a => ∃ vs : List V, ((∀ v ∈ vs, CanV v) ∧ vs.length ≤ maxLen) ∧ a = .view false (cVs vs) vs.length :=
  argOk_one (by rw [Tryz.underlying22]; intro fs h; cases h) (by rw [Tryz.underlying22]; intro n e h; cases h) (opens_Vs.mono (by
    rintro l ⟨x, hx, rfl⟩
    exact ⟨_, ⟨x, hx, rfl⟩, rfl⟩))
theorem law_RayleighOf (b : Bod) (held : List Int) (v : List V) (step : Nat) (h : b.Len) (hh : held.length ≤ 9223372036854775807) (hl : v.length ≤ 9223372036854775807) :
    FnSpec Tryz.prog 4 [b.av, .view false (cIs held) held.length, .view false (cVs v) v.length, .flt .f32 step] [] fun av _ => av = .bool true := by
  refine FnSpec.walkF dr_ok Tryz.func4 rfl (by kernel_rfl) rfl rfl rfl (by simp) ?_
  simp
  intro hh1
  have hh2 : held.length ≤ 1048576 := by omega
  (first | refine callG_r ?_ | refine callD_r ?_); simp; (first | refine callN_flat (by with_reducible first | exact c_szBody b h 1048576 (by omega) (by omega)) rfl ?_ | refine callN_new (by with_reducible first | exact c_szBody b h 1048576 (by omega) (by omega)) ?_ | refine callM_flat (by with_reducible first | exact c_szBody b h 1048576 (by omega) (by omega)) rfl ?_ | refine callM_new (by with_reducible first | exact c_szBody b h 1048576 (by omega) (by omega)) ?_)
  simp
  intro h0
  have hz := szOk_B b (left := 1048576) (by omega) (by omega)
  have hs : b.Small := hz.ok h0
  have hzl := hz.le
  generalize szB b 1048576 = z at *
  (first | refine callG_r ?_ | refine callD_r ?_); simp; (first | refine callN_flat (by with_reducible first | exact c_szVectorS _ _ _ hl h0 hzl) rfl ?_ | refine callN_new (by with_reducible first | exact c_szVectorS _ _ _ hl h0 hzl) ?_ | refine callM_flat (by with_reducible first | exact c_szVectorS _ _ _ hl h0 hzl) rfl ?_ | refine callM_new (by with_reducible first | exact c_szVectorS _ _ _ hl h0 hzl) ?_)
  simp
  intro h1
  have hl2 : v.length ≤ 1048576 := by have := (szOk_L v.length h0 hzl).ok h1; omega
  (first | refine callG_r ?_ | refine callD_r ?_); simp; (first | refine callN_flat (by with_reducible first | exact c_toBody b hs) rfl ?_ | refine callN_new (by with_reducible first | exact c_toBody b hs) ?_ | refine callM_flat (by with_reducible first | exact c_toBody b hs) rfl ?_ | refine callM_new (by with_reducible first | exact c_toBody b hs) ?_)
  simp
  (first | refine callG_r ?_ | refine callD_r ?_); simp; (first | refine callN_flat (by with_reducible first | exact c_toInt64S held hh2) rfl ?_ | refine callN_new (by with_reducible first | exact c_toInt64S held hh2) ?_ | refine callM_flat (by with_reducible first | exact c_toInt64S held hh2) rfl ?_ | refine callM_new (by with_reducible first | exact c_toInt64S held hh2) ?_)
  simp
  (first | refine callG_r ?_ | refine callD_r ?_); simp; (first | refine callN_flat (by with_reducible first | exact c_toVectorS v hl2) rfl ?_ | refine callN_new (by with_reducible first | exact c_toVectorS v hl2) ?_ | refine callM_flat (by with_reducible first | exact c_toVectorS v hl2) rfl ?_ | refine callM_new (by with_reducible first | exact c_toVectorS v hl2) ?_)
  simp
  (first | refine callG_r ?_ | refine callD_r ?_); simp; (first | refine callN_flat (by with_reducible first | exact c_specRayleighOf b held v step hs hh2 hl2) rfl ?_ | refine callN_new (by with_reducible first | exact c_specRayleighOf b held v step hs hh2 hl2) ?_ | refine callM_flat (by with_reducible first | exact c_specRayleighOf b held v step hs hh2 hl2) rfl ?_ | refine callM_new (by with_reducible first | exact c_specRayleighOf b held v step hs hh2 hl2) ?_)
  simp
  (first | refine callG_r ?_ | refine callD_r ?_); simp; (first | refine callN_flat (by with_reducible first | exact c_toBody b hs) rfl ?_ | refine callN_new (by with_reducible first | exact c_toBody b hs) ?_ | refine callM_flat (by with_reducible first | exact c_toBody b hs) rfl ?_ | refine callM_new (by with_reducible first | exact c_toBody b hs) ?_)
  simp
  (first | refine callG_r ?_ | refine callD_r ?_); simp; (first | refine callN_flat (by with_reducible first | exact c_toInt64S held hh2) rfl ?_ | refine callN_new (by with_reducible first | exact c_toInt64S held hh2) ?_ | refine callM_flat (by with_reducible first | exact c_toInt64S held hh2) rfl ?_ | refine callM_new (by with_reducible first | exact c_toInt64S held hh2) ?_)
  simp
  (first | refine callG_r ?_ | refine callD_r ?_); simp; (first | refine callN_flat (by with_reducible first | exact c_toVectorS v hl2) rfl ?_ | refine callN_new (by with_reducible first | exact c_toVectorS v hl2) ?_ | refine callM_flat (by with_reducible first | exact c_toVectorS v hl2) rfl ?_ | refine callM_new (by with_reducible first | exact c_toVectorS v hl2) ?_)
  simp
  (first | refine callG_r ?_ | refine callD_r ?_); simp; (first | refine callN_flat (by with_reducible first | exact c_RayleighOf b held v step hs hh2 hl2) rfl ?_ | refine callN_new (by with_reducible first | exact c_RayleighOf b held v step hs hh2 hl2) ?_ | refine callM_flat (by with_reducible first | exact c_RayleighOf b held v step hs hh2 hl2) rfl ?_ | refine callM_new (by with_reducible first | exact c_RayleighOf b held v step hs hh2 hl2) ?_)
  simp
  (first | refine callG_r ?_ | refine callD_r ?_); simp; (first | refine callN_flat (by with_reducible first | exact c_sameFloat _) rfl ?_ | refine callN_new (by with_reducible first | exact c_sameFloat _) ?_ | refine callM_flat (by with_reducible first | exact c_sameFloat _) rfl ?_ | refine callM_new (by with_reducible first | exact c_sameFloat _) ?_)
  simp
  (first | refine callG_r ?_ | refine callD_r ?_); simp; (first | refine callN_flat (by with_reducible first | exact c_toBody b hs) rfl ?_ | refine callN_new (by with_reducible first | exact c_toBody b hs) ?_ | refine callM_flat (by with_reducible first | exact c_toBody b hs) rfl ?_ | refine callM_new (by with_reducible first | exact c_toBody b hs) ?_)
  simp
  (first | refine callG_r ?_ | refine callD_r ?_); simp; (first | refine callN_flat (by with_reducible first | exact c_eqBody b hs) rfl ?_ | refine callN_new (by with_reducible first | exact c_eqBody b hs) ?_ | refine callM_flat (by with_reducible first | exact c_eqBody b hs) rfl ?_ | refine callM_new (by with_reducible first | exact c_eqBody b hs) ?_)
  simp
  (first | refine callG_r ?_ | refine callD_r ?_); simp; (first | refine callN_flat (by with_reducible first | exact c_toInt64S held hh2) rfl ?_ | refine callN_new (by with_reducible first | exact c_toInt64S held hh2) ?_ | refine callM_flat (by with_reducible first | exact c_toInt64S held hh2) rfl ?_ | refine callM_new (by with_reducible first | exact c_toInt64S held hh2) ?_)
  simp
  (first | refine callG_r ?_ | refine callD_r ?_); simp; (first | refine callN_flat (by with_reducible first | exact c_eqInt64S _ _ _ rfl rfl (by omega)) rfl ?_ | refine callN_new (by with_reducible first | exact c_eqInt64S _ _ _ rfl rfl (by omega)) ?_ | refine callM_flat (by with_reducible first | exact c_eqInt64S _ _ _ rfl rfl (by omega)) rfl ?_ | refine callM_new (by with_reducible first | exact c_eqInt64S _ _ _ rfl rfl (by omega)) ?_)
  simp
  (first | refine callG_r ?_ | refine callD_r ?_); simp; (first | refine callN_flat (by with_reducible first | exact c_toVectorS v hl2) rfl ?_ | refine callN_new (by with_reducible first | exact c_toVectorS v hl2) ?_ | refine callM_flat (by with_reducible first | exact c_toVectorS v hl2) rfl ?_ | refine callM_new (by with_reducible first | exact c_toVectorS v hl2) ?_)
  simp
  (first | refine callG_r ?_ | refine callD_r ?_); simp; (first | refine callN_flat (by with_reducible first | exact c_eqVectorS _ _ _ rfl rfl (by omega)) rfl ?_ | refine callN_new (by with_reducible first | exact c_eqVectorS _ _ _ rfl rfl (by omega)) ?_ | refine callM_flat (by with_reducible first | exact c_eqVectorS _ _ _ rfl rfl (by omega)) rfl ?_ | refine callM_new (by with_reducible first | exact c_eqVectorS _ _ _ rfl rfl (by omega)) ?_)
  simp
end Go.Proofs.YtnpflgeenecaeaaGreat
