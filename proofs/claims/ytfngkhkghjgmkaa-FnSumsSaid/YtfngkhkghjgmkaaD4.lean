/- Contracts: the next lesser number, numbers that are the same, numbers drawn.
Conditions: none. -/
import Derived.Test.YtfngkhkghjgmkaaD2
namespace Go.Proofs.Ytfngkhkghjgmkaa
set_option linter.all false
open Go Go.Awp
set_option maxRecDepth 100000
set_option maxHeartbeats 4000000
set_option pp.deepTerms true

theorem c_bits64 {x : Nat} (h : nanB .f64 x = false) : Fun Try.prog 85 [.flt .f64 x] [] (.int .u64 x) [] := by
  refine FnSpec.of_extern (e := Extern.MathFloatBits.float64bits) Try.func85 rfl rfl (by kernel_rfl) (by kernel_rfl) fun w E vs hv => ?_
  obtain ⟨h1, h2⟩ := hv
  obtain ⟨vs⟩ := vs
  match vs, h1 with
  | [v], _ =>
    have hr := h2 0 _ v rfl rfl
    cases hr with
    | flt _ _ r hr hl =>
      have hn : nanB .f64 r = false := by rw [← nanB_cn, hr]; exact h
      have e : r = x := by rw [← hr, cn_num hn]
      subst e
      exact ⟨.int .u64 r, 0, .int .u64 r, rfl, .int _ _, rfl, rfl, rfl⟩
theorem c_Signbit {x : Nat} (h : nanB .f64 x = false) (hx : x < 2 ^ FloatKind.f64.format.width) : Fun Try.prog 54 [.flt .f64 x] [] (.bool (sgB .f64 x)) [] := by
  refine FnSpec.walkF dr_ok Try.func54 rfl (by kernel_rfl) rfl rfl rfl (by simp) ?_
  simp
  (first | refine callG_r ?_ | refine callD_r ?_); simp; (first | refine callN_flat (by with_reducible first | exact c_bits64 h) rfl ?_ | refine callN_new (by with_reducible first | exact c_bits64 h) ?_ | refine callM_flat (by with_reducible first | exact c_bits64 h) rfl ?_ | refine callM_new (by with_reducible first | exact c_bits64 h) ?_)
  simp
  have hx : x < 18446744073709551616 := hx
  have hs : FloatKind.f64.format.signWeight = 9223372036854775808 := by decide +kernel
  unfold sgB
  rw [hs]
  have hw : IntKind.i64.wrap (x : Int) = if x < 9223372036854775808 then (x : Int) else x - 18446744073709551616 := by
    by_cases c : x < 9223372036854775808
    · rw [if_pos c, wrap64 (by omega) (by omega)]
    · rw [if_neg c, IntKind.wrap_i64]; omega
  rw [hw]
  by_cases c : x < 9223372036854775808
  · rw [if_pos c, Nat.div_eq_of_lt c]; simp
  · rw [if_neg c]
    have : x / 9223372036854775808 = 1 := by omega
    rw [this]; simp; omega
theorem c_SameNumber {x y : Nat} (hx : CanF .f32 x) (hy : CanF .f32 y) : Fun Try.prog 18 [.flt .f32 x, .flt .f32 y] [] (.bool (decide (x = y))) [] := by
  refine FnSpec.walkF dr_ok Try.func18 rfl (by kernel_rfl) rfl rfl rfl (by simp) ?_
  cases nx : nanB .f32 x with
  | true =>
    have ex := canF_nan hx nx
    have f1 : ford .f32 x x = none := ford_nan_l nx
    cases ny : nanB .f32 y with
    | true =>
      have ey := canF_nan hy ny
      have f2 : ford .f32 y y = none := ford_nan_l ny
      subst ex; subst ey
      simp [f1]
    | false =>
      have f2 : ford .f32 y y = some .eq := ford_self ny
      have : x ≠ y := by intro e; rw [e, ny] at nx; cases nx
      simp [f1, f2, this]
  | false =>
    have f1 : ford .f32 x x = some .eq := ford_self nx
    cases ny : nanB .f32 y with
    | true =>
      have f2 : ford .f32 y y = none := ford_nan_l ny
      have : x ≠ y := by intro e; rw [e, ny] at nx; cases nx
      simp [f1, f2, this]
    | false =>
      have f2 : ford .f32 y y = some .eq := ford_self ny
      have hs := same_word hx.2 hy.2 nx ny
      obtain ⟨a1, a2, a3⟩ := wid_sign nx
      obtain ⟨b1, b2, b3⟩ := wid_sign ny
      simp [f1, f2]
      by_cases c : ford .f32 x y = some .eq
      · simp [c]
        (first | refine callG_r ?_ | refine callD_r ?_); simp; (first | refine callN_flat (by with_reducible first | exact c_Signbit a1 a2) rfl ?_ | refine callN_new (by with_reducible first | exact c_Signbit a1 a2) ?_ | refine callM_flat (by with_reducible first | exact c_Signbit a1 a2) rfl ?_ | refine callM_new (by with_reducible first | exact c_Signbit a1 a2) ?_)
        simp
        (first | refine callG_r ?_ | refine callD_r ?_); simp; (first | refine callN_flat (by with_reducible first | exact c_Signbit b1 b2) rfl ?_ | refine callN_new (by with_reducible first | exact c_Signbit b1 b2) ?_ | refine callM_flat (by with_reducible first | exact c_Signbit b1 b2) rfl ?_ | refine callM_new (by with_reducible first | exact c_Signbit b1 b2) ?_)
        simp
        rw [a3, b3]
        rw [Bool.eq_iff_iff]
        simp
        rw [← hs]
        simp [c]
      · simp [c]
        intro e
        exact c (hs.2 e).1
theorem canF_fneg {x : Nat} (h : x < 4294967296) : CanF .f32 (fneg .f32 x) := ⟨cn_cn _ _, cn_lt (negFloat_lt .f32 x h)⟩
theorem canF_num {x : Nat} (h : x < 4294967296) (n : nanB .f32 x = false) : CanF .f32 x := ⟨cn_num n, h⟩
theorem canF_nup {x : Nat} (h : CanF .f32 x) : CanF .f32 (nup x) := by
  cases n : nanB .f32 x with
  | true => rw [nup_nan n]; exact h
  | false => obtain ⟨a, b⟩ := nup_num h.2 n; exact canF_num b a
theorem c_NextDown {x : Nat} (hx : CanF .f32 x) : Fun Try.prog 21 [.flt .f32 x] [] (.flt .f32 (ndn x)) [] := by
  refine FnSpec.walkF dr_ok Try.func21 rfl (by kernel_rfl) rfl rfl rfl (by simp) ?_
  simp
  have hf := canF_fneg hx.2
  (first | refine callG_r ?_ | refine callD_r ?_); simp; (first | refine callN_flat (by with_reducible first | exact c_NextUp hf) rfl ?_ | refine callN_new (by with_reducible first | exact c_NextUp hf) ?_ | refine callM_flat (by with_reducible first | exact c_NextUp hf) rfl ?_ | refine callM_new (by with_reducible first | exact c_NextUp hf) ?_)
  simp [ndn]
theorem canF_fop (op : BinOp) (x y : Nat) : CanF .f32 (fop op .f32 x y) := by
  unfold fop
  cases h : floatBits op .f32 x y with
  | some r =>
    have hw := floatBits_wf h
    have hl : r < 4294967296 := by simpa [Lit.wf] using hw
    exact canF_num hl (floatBits_num h)
  | none => exact ⟨cn_nan (nanB_qnan .f32), qnan_lt .f32⟩
/-- One of some integers. -/
theorem c_among (l : List Nat) (k : Nat) (xs : List Int) (m : Nat) (seed : Int) (hl : l.length ≤ 1048576) (hb : ∀ b ∈ l, b < 256) (hk : k + 2 < 1000000000000) (hm : m = xs.length) (h1 : 1 < m) (h2 : m ≤ 65536) :
    FnSpec Try.prog 84 [.ptr 0 0, .slc 1 0 m 1] [rd false l k seed, .blk false false 2 (cIs xs)] fun av H => ∃ (k' : Nat) (seed' x : Int), k' ≤ k + 2 ∧ x ∈ xs ∧ H = [rd false l k' seed', .blk false false 2 (cIs xs)] ∧ av = .int .i64 x := by
  subst hm
  refine FnSpec.walk dr_ok Try.func84 rfl (by kernel_rfl) rfl rfl rfl (by simp) ?_
  simp
  refine callG_on false [0] ?_; simp; refine callN_all (by with_reducible exact c_pick l k xs.length seed hl hb hk h1 h2) ?_; rintro _ _ ⟨k1, s1, hk1, rfl, x, hx, rfl⟩; refine ⟨fun e => (by cases e), ?_⟩; simp
  simp [hx]
  refine endG_keepT (r := .int .i64 xs[x]) (Hout := [rd false l k1 s1, .blk false false 2 (cIs xs)]) [] ?_ ?_ ?_ ?_ ?_ ?_ ?_ ?_ ?_ <;> simp
  exact ⟨k1, by omega, rfl⟩
theorem c_DrawPlain (l : List Nat) (k : Nat) (seed : Int) (hl : l.length ≤ 1048576) (hb : ∀ b ∈ l, b < 256) (hk : k + 4 < 1000000000000) :
    FnSpec Try.prog 83 [.ptr 0 0] [rd false l k seed] (RdR l k 4 QF) := by
  refine FnSpec.walk dr_ok Try.func83 rfl (by kernel_rfl) rfl rfl rfl (by simp) ?_
  simp
  refine callG_on false [0] ?_; simp; refine callN_all (by with_reducible exact c_pickL l k 129 129 seed rfl hl hb (by omega) (by omega) (by omega)) ?_; rintro _ _ ⟨k1, s1, hk1, rfl, x, hx, rfl⟩; refine ⟨fun e => (by cases e), ?_⟩; simp
  refine callG_on false [0] ?_; simp; refine callN_all (by with_reducible exact c_oneL l k1 4 4 s1 rfl hl hb (by omega) (by omega) (by omega)) ?_; rintro _ _ ⟨k2, s2, hk2, rfl, b, rfl⟩; refine ⟨fun e => (by cases e), ?_⟩; simp
  refine ⟨fun e => endG_src ?_, fun e => endG_src ?_⟩
  all_goals
    simp
    exact ⟨k2, s2, by omega, rfl, _, canF_fop _ _ _, rfl⟩
theorem c_DrawFloat (l : List Nat) (k : Nat) (seed : Int) (hl : l.length ≤ 1048576) (hb : ∀ b ∈ l, b < 256) (hk : k + 20 < 1000000000000) :
    FnSpec Try.prog 46 [.ptr 0 0] [rd false l k seed] (RdR l k 12 QF) := by
  refine FnSpec.walk dr_ok Try.func46 rfl (by kernel_rfl) rfl rfl rfl (by simp) ?_
  simp
  refine callG_on false [0] ?_; simp; refine callN_all (by with_reducible exact c_oneL l k 12 12 seed rfl hl hb (by omega) (by omega) (by omega)) ?_; rintro _ _ ⟨k1, s1, hk1, rfl, b, rfl⟩; refine ⟨fun e => (by cases e), ?_⟩; simp
  refine ⟨fun e => ?_, fun e => ?_⟩
  · refine callG_on false [0] ?_; simp; refine callN_all (by with_reducible exact c_DrawPlain l k1 s1 hl hb (by omega)) ?_; rintro _ _ ⟨k2, s2, hk2, rfl, y, hy, rfl⟩; refine ⟨fun e => (by cases e), ?_⟩; simp
    refine endG_src ?_
    simp
    exact ⟨k2, s2, by omega, rfl, y, hy, rfl⟩
  · refine callG_on false [0] ?_; simp; refine callN_all (by with_reducible exact c_pickL l k1 4 4 s1 rfl hl hb (by omega) (by omega) (by omega)) ?_; rintro _ _ ⟨k2, s2, hk2, rfl, x, hx, rfl⟩; refine ⟨fun e => (by cases e), ?_⟩; simp
    have hx4 : x = 0 ∨ x = 1 ∨ x = 2 ∨ x = 3 := by omega
    rcases hx4 with rfl | rfl | rfl | rfl
    · simp
      refine callG_on false [0, 1] ?_; simp; refine callN_all (by with_reducible exact c_among l k2 [0, 2147483648, 2139095040, 4286578688, 2143289344, 1, 2139095039, 8388608, 8388607, 2147483649] 10 s2 hl hb (by omega) rfl (by omega) (by omega)) ?_; rintro _ _ ⟨k3, s3, x, hk3, hx, rfl, rfl⟩; refine ⟨fun e => (by cases e), ?_⟩; simp
      have hall : ∀ y ∈ [(0 : Int), 2147483648, 2139095040, 4286578688, 2143289344, 1, 2139095039, 8388608, 8388607, 2147483649], 0 ≤ y ∧ y < 4294967296 := by decide
      obtain ⟨h1, h2⟩ := hall x hx
      obtain ⟨n, rfl⟩ := Int.eq_ofNat_of_zero_le h1
      have hn : n < 4294967296 := by omega
      (first | refine callG_r ?_ | refine callD_r ?_); simp; (first | refine callN_flat (by with_reducible first | exact c_l01From hn) rfl ?_ | refine callN_new (by with_reducible first | exact c_l01From hn) ?_ | refine callM_flat (by with_reducible first | exact c_l01From hn) rfl ?_ | refine callM_new (by with_reducible first | exact c_l01From hn) ?_)
      refine endG_keepT (r := .flt .f32 (cn .f32 n)) (Hout := [rd false l k3 s3]) [] ?_ ?_ ?_ ?_ ?_ ?_ ?_ ⟨k3, s3, by omega, rfl, _, canF_cn hn, rfl⟩ ?_ <;> simp
    · simp
      refine callG_on false [0] ?_; simp; refine callN_all (by with_reducible exact c_pickL l k2 65536 65536 s2 rfl hl hb (by omega) (by omega) (by omega)) ?_; rintro _ _ ⟨k3, s3, hk3, rfl, x, hx, rfl⟩; refine ⟨fun e => (by cases e), ?_⟩; simp
      have hm : IntKind.i64.wrap ((x : Int) * 65536) = ((x * 65536 : Nat) : Int) := by rw [wrap64 (by omega) (by omega)]; simp
      refine callG_on false [0] ?_; simp; refine callN_all (by with_reducible exact c_pickL l k3 65536 65536 s3 rfl hl hb (by omega) (by omega) (by omega)) ?_; rintro _ _ ⟨k4, s4, hk4, rfl, y, hy, rfl⟩; refine ⟨fun e => (by cases e), ?_⟩; simp
      have ha : IntKind.i64.wrap ((x : Int) * 65536 + (y : Int)) = ((x * 65536 + y : Nat) : Int) := by rw [wrap64 (by omega) (by omega)]; simp
      have hn : x * 65536 + y < 4294967296 := by omega
      have hc := c_l01From hn
      rw [show ((x * 65536 + y : Nat) : Int) = (x : Int) * 65536 + (y : Int) by simp] at hc
      simp [hm, ha]
      (first | refine callG_r ?_ | refine callD_r ?_); simp; (first | refine callN_flat (by with_reducible first | exact hc) rfl ?_ | refine callN_new (by with_reducible first | exact hc) ?_ | refine callM_flat (by with_reducible first | exact hc) rfl ?_ | refine callM_new (by with_reducible first | exact hc) ?_)
      refine endG_src ?_
      simp
      exact ⟨k4, s4, by omega, rfl, _, canF_cn hn, rfl⟩
    · simp
      refine callG_on false [0] ?_; simp; refine callN_all (by with_reducible exact c_pickL l k2 65536 65536 s2 rfl hl hb (by omega) (by omega) (by omega)) ?_; rintro _ _ ⟨k3, s3, hk3, rfl, x, hx, rfl⟩; refine ⟨fun e => (by cases e), ?_⟩; simp
      have hm : IntKind.i64.wrap ((x : Int) * 65536) = ((x * 65536 : Nat) : Int) := by rw [wrap64 (by omega) (by omega)]; simp
      have hn : x * 65536 < 4294967296 := by omega
      have hc := c_l01From hn
      rw [show ((x * 65536 : Nat) : Int) = (x : Int) * 65536 by simp] at hc
      simp [hm]
      (first | refine callG_r ?_ | refine callD_r ?_); simp; (first | refine callN_flat (by with_reducible first | exact hc) rfl ?_ | refine callN_new (by with_reducible first | exact hc) ?_ | refine callM_flat (by with_reducible first | exact hc) rfl ?_ | refine callM_new (by with_reducible first | exact hc) ?_)
      refine endG_src ?_
      simp
      exact ⟨k3, s3, by omega, rfl, _, canF_cn hn, rfl⟩
    · simp
      refine callG_on false [0] ?_; simp; refine callN_all (by with_reducible exact c_DrawPlain l k2 s2 hl hb (by omega)) ?_; rintro _ _ ⟨k3, s3, hk3, rfl, z, hz, rfl⟩; refine ⟨fun e => (by cases e), ?_⟩; simp
      refine callG_on false [0, 1] ?_; simp; refine callN_all (by with_reducible exact c_among l k3 [8388608, 2130706432, 1610612736, 536870912] 4 s3 hl hb (by omega) rfl (by omega) (by omega)) ?_; rintro _ _ ⟨k4, s4, x, hk4, hx, rfl, rfl⟩; refine ⟨fun e => (by cases e), ?_⟩; simp
      have hall : ∀ y ∈ [(8388608 : Int), 2130706432, 1610612736, 536870912], 0 ≤ y ∧ y < 4294967296 := by decide
      obtain ⟨h1, h2⟩ := hall x hx
      obtain ⟨n, rfl⟩ := Int.eq_ofNat_of_zero_le h1
      have hn : n < 4294967296 := by omega
      (first | refine callG_r ?_ | refine callD_r ?_); simp; (first | refine callN_flat (by with_reducible first | exact c_l01From hn) rfl ?_ | refine callN_new (by with_reducible first | exact c_l01From hn) ?_ | refine callM_flat (by with_reducible first | exact c_l01From hn) rfl ?_ | refine callM_new (by with_reducible first | exact c_l01From hn) ?_)
      simp
      refine endG_keepT (r := .flt .f32 (fop .mul .f32 z (cn .f32 n))) (Hout := [rd false l k4 s4]) [] ?_ ?_ ?_ ?_ ?_ ?_ ?_ ⟨k4, s4, by omega, rfl, _, canF_fop _ _ _, rfl⟩ ?_ <;> simp
/-- A number drawn. -/
theorem c_B10Number (l : List Nat) (n : Nat) (hn : n = l.length) (hl : l.length ≤ 1048576) (hb : ∀ b ∈ l, b < 256) :
    FnSpec Try.prog 10 [.view false (cBy l) n] [] fun av H => H = [] ∧ av.flats = true ∧ QF av := by
  subst hn
  refine FnSpec.walkF dr_ok Try.func10 rfl (by kernel_rfl) rfl rfl rfl (by simp) ?_
  simp
  refine callG_v ?_; simp; refine callNV_fun (by with_reducible exact c_l00From l) ?_
  simp
  have h1 : FnSpec Try.prog 43 [.ptr 0 0, .int .i64 2] [.blk false true 95 [.view false (cBy l) l.length, .int .i64 0, .int .u64 0]] (RdR l 0 2 QB) := c_oneL l 0 2 2 0 rfl hl hb (by omega) (by omega) (by omega)
  refine callG_on false [0] ?_; simp; refine callN_all (by with_reducible exact h1) ?_; rintro _ _ ⟨k1, s1, hk1, rfl, b, rfl⟩; refine ⟨fun e => (by cases e), ?_⟩; simp
  refine ⟨fun e => ?_, fun e => ?_⟩
  · refine callG_on false [0] ?_; simp; refine callN_all (by with_reducible exact c_pickL l k1 65536 65536 s1 rfl hl hb (by omega) (by omega) (by omega)) ?_; rintro _ _ ⟨k3, s3, hk3, rfl, x, hx, rfl⟩; refine ⟨fun e => (by cases e), ?_⟩; simp
    have hm : IntKind.i64.wrap ((x : Int) * 65536) = ((x * 65536 : Nat) : Int) := by rw [wrap64 (by omega) (by omega)]; simp
    refine callG_on false [0] ?_; simp; refine callN_all (by with_reducible exact c_pickL l k3 65536 65536 s3 rfl hl hb (by omega) (by omega) (by omega)) ?_; rintro _ _ ⟨k4, s4, hk4, rfl, y, hy, rfl⟩; refine ⟨fun e => (by cases e), ?_⟩; simp
    have ha : IntKind.i64.wrap ((x : Int) * 65536 + (y : Int)) = ((x * 65536 + y : Nat) : Int) := by rw [wrap64 (by omega) (by omega)]; simp
    have hn : x * 65536 + y < 4294967296 := by omega
    have hc := c_l01From hn
    rw [show ((x * 65536 + y : Nat) : Int) = (x : Int) * 65536 + (y : Int) by simp] at hc
    simp [hm, ha]
    (first | refine callG_r ?_ | refine callD_r ?_); simp; (first | refine callN_flat (by with_reducible first | exact hc) rfl ?_ | refine callN_new (by with_reducible first | exact hc) ?_ | refine callM_flat (by with_reducible first | exact hc) rfl ?_ | refine callM_new (by with_reducible first | exact hc) ?_)
    simp
    exact ⟨_, canF_cn hn, rfl⟩
  · refine callG_on false [0] ?_; simp; refine callN_all (by with_reducible exact c_DrawFloat l k1 s1 hl hb (by omega)) ?_; rintro _ _ ⟨k2, s2, hk2, rfl, y, hy, rfl⟩; refine ⟨fun e => (by cases e), ?_⟩; simp
    exact ⟨y, hy, rfl⟩
end Go.Proofs.Ytfngkhkghjgmkaa
