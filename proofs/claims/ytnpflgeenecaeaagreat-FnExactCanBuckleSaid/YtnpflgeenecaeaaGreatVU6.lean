/- The law of CanBuckle.
Conditions: none. -/
import Derived.Test.YtnpflgeenecaeaaGreatW9
import Derived.Test.YtnpflgeenecaeaaGreatVU1
namespace Go.Proofs.YtnpflgeenecaeaaGreat
set_option linter.all false
open Go Go.Awp
set_option maxRecDepth 100000
set_option maxHeartbeats 4000000
set_option pp.deepTerms true

def bucB (b : Bod) (held : List Int) (v : List V) (step shift : Nat) (rounds : Int) : Bool := sofK b held v step shift rounds && (ford .f32 (sofX b held v step shift rounds) 0 == some .lt)
theorem c_CanBuckle (b : Bod) (held : List Int) (v : List V) (step shift : Nat) (rounds : Int) (hs : b.Small) (hh : held.length ≤ 1048576) (hl : v.length ≤ 1048576) :
    Fun Tryz.prog 36 [b.av, .view false (cIs held) held.length, .view false (cVs v) v.length, .flt .f32 step, .flt .f32 shift, .int .i64 rounds] [] (.tup [.bool (bucB b held v step shift rounds), .bool (sofK b held v step shift rounds)]) [] := by
  refine FnSpec.walkF dr_ok Tryz.func36 rfl (by kernel_rfl) rfl rfl rfl (by simp) ?_
  simp
  (first | refine callG_r ?_ | refine callD_r ?_); simp; (first | refine callN_flat (by with_reducible first | exact c_SoftModeU b held v step shift rounds hs hh hl) rfl ?_ | refine callN_new (by with_reducible first | exact c_SoftModeU b held v step shift rounds hs hh hl) ?_ | refine callM_flat (by with_reducible first | exact c_SoftModeU b held v step shift rounds hs hh hl) rfl ?_ | refine callM_new (by with_reducible first | exact c_SoftModeU b held v step shift rounds hs hh hl) ?_)
  simp [bucB]
  cases h : sofK b held v step shift rounds <;> simp [h]
theorem c_specCanBuckle (b : Bod) (held : List Int) (v : List V) (step shift : Nat) (rounds : Int) (hs : b.Small) (hh : held.length ≤ 1048576) (hl : v.length ≤ 1048576) :
    Fun Tryz.prog 35 [b.av, .view false (cIs held) held.length, .view false (cVs v) v.length, .flt .f32 step, .flt .f32 shift, .int .i64 rounds] [] (.tup [.bool (bucB b held v step shift rounds), .bool (sofK b held v step shift rounds)]) [] := by
  refine FnSpec.walkF dr_ok Tryz.func35 rfl (by kernel_rfl) rfl rfl rfl (by simp) ?_
  simp
  (first | refine callG_r ?_ | refine callD_r ?_); simp; (first | refine callN_flat (by with_reducible first | exact c_l09Can b _ held v step hs hh hl) rfl ?_ | refine callN_new (by with_reducible first | exact c_l09Can b _ held v step hs hh hl) ?_ | refine callM_flat (by with_reducible first | exact c_l09Can b _ held v step hs hh hl) rfl ?_ | refine callM_new (by with_reducible first | exact c_l09Can b _ held v step hs hh hl) ?_)
  cases hc : canB b held v step with
  | false =>
    have e : sofR b held v step shift rounds = none := by simp [sofR, hc]
    simp [bucB, sofK, e]
  | true =>
  simp
  (first | refine callG_r ?_ | refine callD_r ?_); simp; (first | refine callN_flat (by with_reducible first | exact c_l00In _ _ _) rfl ?_ | refine callN_new (by with_reducible first | exact c_l00In _ _ _) ?_ | refine callM_flat (by with_reducible first | exact c_l00In _ _ _) rfl ?_ | refine callM_new (by with_reducible first | exact c_l00In _ _ _) ?_)
  cases hi : inB rounds 0 40 with
  | false =>
    have e : sofR b held v step shift rounds = none := by simp [sofR, hi]
    simp [bucB, sofK, e]
  | true =>
  obtain ⟨hv, hp, hlen, hst⟩ := canB_of hc
  have hpl := (vldB_of hv).pl
  simp
  have eR : sofR b held v step shift rounds = sftR b held v step shift rounds.toNat := by simp [sofR, hc, hi, sftR]
  have hi' := hi
  simp [inB] at hi'
  obtain ⟨r, rfl⟩ : ∃ r : Nat, rounds = r := ⟨rounds.toNat, by omega⟩
  rw [Int.toNat_natCast] at eR
  cases hm : sftR b held v step shift r with
  | none =>
    rw [hm] at eR
    (first | refine callG_r ?_ | refine callD_r ?_); simp; (first | refine callN_flat (by with_reducible first | exact c_l09Soft0 b _ held v step shift r hs hv hlen hh hp (by omega) hm) rfl ?_ | refine callN_new (by with_reducible first | exact c_l09Soft0 b _ held v step shift r hs hv hlen hh hp (by omega) hm) ?_ | refine callM_flat (by with_reducible first | exact c_l09Soft0 b _ held v step shift r hs hv hlen hh hp (by omega) hm) rfl ?_ | refine callM_new (by with_reducible first | exact c_l09Soft0 b _ held v step shift r hs hv hlen hh hp (by omega) hm) ?_)
    simp [bucB, sofK, eR]
  | some W =>
    rw [hm] at eR
    (first | refine callG_r ?_ | refine callD_r ?_); simp; (first | refine callN_flat (by with_reducible first | exact c_l09Soft b _ held v step shift r hs hv hlen hh hp (by omega) W hm) rfl ?_ | refine callN_new (by with_reducible first | exact c_l09Soft b _ held v step shift r hs hv hlen hh hp (by omega) W hm) ?_ | refine callM_flat (by with_reducible first | exact c_l09Soft b _ held v step shift r hs hv hlen hh hp (by omega) W hm) rfl ?_ | refine callM_new (by with_reducible first | exact c_l09Soft b _ held v step shift r hs hv hlen hh hp (by omega) W hm) ?_)
    simp [bucB, sofK, sofX, eR]
theorem law_CanBuckle (b : Bod) (held : List Int) (v : List V) (step shift : Nat) (rounds : Int) (h : b.Len) (hh : held.length ≤ 9223372036854775807) (hl : v.length ≤ 9223372036854775807) :
    FnSpec Tryz.prog 7 [b.av, .view false (cIs held) held.length, .view false (cVs v) v.length, .flt .f32 step, .flt .f32 shift, .int .i64 rounds] [] fun av _ => av = .bool true := by
  refine FnSpec.walkF dr_ok Tryz.func7 rfl (by kernel_rfl) rfl rfl rfl (by simp) ?_
  simp
  intro hh1
  have hh2 : held.length ≤ 1048576 := by omega
  (first | refine callG_r ?_ | refine callD_r ?_); simp; (first | refine callN_flat (by with_reducible first | exact c_szBody b h 1048576 (by omega) (by omega)) rfl ?_ | refine callN_new (by with_reducible first | exact c_szBody b h 1048576 (by omega) (by omega)) ?_ | refine callM_flat (by with_reducible first | exact c_szBody b h 1048576 (by omega) (by omega)) rfl ?_ | refine callM_new (by with_reducible first | exact c_szBody b h 1048576 (by omega) (by omega)) ?_)
  simp
  intro h0
  have hz := szOk_B b (left := 1048576) (by omega) (by omega)
  have hs : b.Small := hz.ok h0
  have hzl := hz.le
  generalize szB b 1048576 = z at *
  (first | refine callG_r ?_ | refine callD_r ?_); simp; (first | refine callN_flat (by with_reducible first | exact c_szVectorS _ _ _ hl h0 hzl) rfl ?_ | refine callN_new (by with_reducible first | exact c_szVectorS _ _ _ hl h0 hzl) ?_ | refine callM_flat (by with_reducible first | exact c_szVectorS _ _ _ hl h0 hzl) rfl ?_ | refine callM_new (by with_reducible first | exact c_szVectorS _ _ _ hl h0 hzl) ?_)
  simp
  intro h1
  have hl2 : v.length ≤ 1048576 := by have := (szOk_L v.length h0 hzl).ok h1; omega
  have kI := c_CanBuckle b held v step shift rounds hs hh2 hl2
  have kS := c_specCanBuckle b held v step shift rounds hs hh2 hl2
  generalize bucB b held v step shift rounds = X at *
  generalize sofK b held v step shift rounds = ok at *
  (first | refine callG_r ?_ | refine callD_r ?_); simp; (first | refine callN_flat (by with_reducible first | exact c_toBody b hs) rfl ?_ | refine callN_new (by with_reducible first | exact c_toBody b hs) ?_ | refine callM_flat (by with_reducible first | exact c_toBody b hs) rfl ?_ | refine callM_new (by with_reducible first | exact c_toBody b hs) ?_)
  simp
  (first | refine callG_r ?_ | refine callD_r ?_); simp; (first | refine callN_flat (by with_reducible first | exact c_toInt64S held hh2) rfl ?_ | refine callN_new (by with_reducible first | exact c_toInt64S held hh2) ?_ | refine callM_flat (by with_reducible first | exact c_toInt64S held hh2) rfl ?_ | refine callM_new (by with_reducible first | exact c_toInt64S held hh2) ?_)
  simp
  (first | refine callG_r ?_ | refine callD_r ?_); simp; (first | refine callN_flat (by with_reducible first | exact c_toVectorS v hl2) rfl ?_ | refine callN_new (by with_reducible first | exact c_toVectorS v hl2) ?_ | refine callM_flat (by with_reducible first | exact c_toVectorS v hl2) rfl ?_ | refine callM_new (by with_reducible first | exact c_toVectorS v hl2) ?_)
  simp
  (first | refine callG_r ?_ | refine callD_r ?_); simp; (first | refine callN_flat (by with_reducible first | exact kS) rfl ?_ | refine callN_new (by with_reducible first | exact kS) ?_ | refine callM_flat (by with_reducible first | exact kS) rfl ?_ | refine callM_new (by with_reducible first | exact kS) ?_)
  simp
  (first | refine callG_r ?_ | refine callD_r ?_); simp; (first | refine callN_flat (by with_reducible first | exact c_toBody b hs) rfl ?_ | refine callN_new (by with_reducible first | exact c_toBody b hs) ?_ | refine callM_flat (by with_reducible first | exact c_toBody b hs) rfl ?_ | refine callM_new (by with_reducible first | exact c_toBody b hs) ?_)
  simp
  (first | refine callG_r ?_ | refine callD_r ?_); simp; (first | refine callN_flat (by with_reducible first | exact c_toInt64S held hh2) rfl ?_ | refine callN_new (by with_reducible first | exact c_toInt64S held hh2) ?_ | refine callM_flat (by with_reducible first | exact c_toInt64S held hh2) rfl ?_ | refine callM_new (by with_reducible first | exact c_toInt64S held hh2) ?_)
  simp
  (first | refine callG_r ?_ | refine callD_r ?_); simp; (first | refine callN_flat (by with_reducible first | exact c_toVectorS v hl2) rfl ?_ | refine callN_new (by with_reducible first | exact c_toVectorS v hl2) ?_ | refine callM_flat (by with_reducible first | exact c_toVectorS v hl2) rfl ?_ | refine callM_new (by with_reducible first | exact c_toVectorS v hl2) ?_)
  simp
  (first | refine callG_r ?_ | refine callD_r ?_); simp; (first | refine callN_flat (by with_reducible first | exact kI) rfl ?_ | refine callN_new (by with_reducible first | exact kI) ?_ | refine callM_flat (by with_reducible first | exact kI) rfl ?_ | refine callM_new (by with_reducible first | exact kI) ?_)
  simp
  (first | refine callG_r ?_ | refine callD_r ?_); simp; (first | refine callN_flat (by with_reducible first | exact c_toBody b hs) rfl ?_ | refine callN_new (by with_reducible first | exact c_toBody b hs) ?_ | refine callM_flat (by with_reducible first | exact c_toBody b hs) rfl ?_ | refine callM_new (by with_reducible first | exact c_toBody b hs) ?_)
  simp
  (first | refine callG_r ?_ | refine callD_r ?_); simp; (first | refine callN_flat (by with_reducible first | exact c_eqBody b hs) rfl ?_ | refine callN_new (by with_reducible first | exact c_eqBody b hs) ?_ | refine callM_flat (by with_reducible first | exact c_eqBody b hs) rfl ?_ | refine callM_new (by with_reducible first | exact c_eqBody b hs) ?_)
  simp
  (first | refine callG_r ?_ | refine callD_r ?_); simp; (first | refine callN_flat (by with_reducible first | exact c_toInt64S held hh2) rfl ?_ | refine callN_new (by with_reducible first | exact c_toInt64S held hh2) ?_ | refine callM_flat (by with_reducible first | exact c_toInt64S held hh2) rfl ?_ | refine callM_new (by with_reducible first | exact c_toInt64S held hh2) ?_)
  simp
  (first | refine callG_r ?_ | refine callD_r ?_); simp; (first | refine callN_flat (by with_reducible first | exact c_eqInt64S _ _ _ rfl rfl (by omega)) rfl ?_ | refine callN_new (by with_reducible first | exact c_eqInt64S _ _ _ rfl rfl (by omega)) ?_ | refine callM_flat (by with_reducible first | exact c_eqInt64S _ _ _ rfl rfl (by omega)) rfl ?_ | refine callM_new (by with_reducible first | exact c_eqInt64S _ _ _ rfl rfl (by omega)) ?_)
  simp
  (first | refine callG_r ?_ | refine callD_r ?_); simp; (first | refine callN_flat (by with_reducible first | exact c_toVectorS v hl2) rfl ?_ | refine callN_new (by with_reducible first | exact c_toVectorS v hl2) ?_ | refine callM_flat (by with_reducible first | exact c_toVectorS v hl2) rfl ?_ | refine callM_new (by with_reducible first | exact c_toVectorS v hl2) ?_)
  simp
  (first | refine callG_r ?_ | refine callD_r ?_); simp; (first | refine callN_flat (by with_reducible first | exact c_eqVectorS _ _ _ rfl rfl (by omega)) rfl ?_ | refine callN_new (by with_reducible first | exact c_eqVectorS _ _ _ rfl rfl (by omega)) ?_ | refine callM_flat (by with_reducible first | exact c_eqVectorS _ _ _ rfl rfl (by omega)) rfl ?_ | refine callM_new (by with_reducible first | exact c_eqVectorS _ _ _ rfl rfl (by omega)) ?_)
  simp
end Go.Proofs.YtnpflgeenecaeaaGreat
