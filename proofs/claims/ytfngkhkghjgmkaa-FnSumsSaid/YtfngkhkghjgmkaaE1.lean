/- The law of bits of numbers; what laws of drawn things are given.
Conditions: none. -/
import Derived.Test.YtfngkhkghjgmkaaD4
namespace Go.Proofs.Ytfngkhkghjgmkaa
set_option linter.all false
open Go Go.Awp
set_option maxRecDepth 100000
set_option maxHeartbeats 4000000
set_option pp.deepTerms true

theorem wf_u8 {n : Int} (h : (Lit.int .u8 n).wf = true) : ∃ m : Nat, m < 256 ∧ n = m := by
  have h2 : Lit.wf (.int .u8 n) = decide (IntKind.u8.min ≤ n ∧ n ≤ IntKind.u8.max) := by simp [Lit.wf]
  rw [h2] at h
  have := of_decide_eq_true h
  have e1 : IntKind.u8.min = 0 := by decide
  have e2 : IntKind.u8.max = 255 := by decide
  rw [e1, e2] at this
  exact ⟨n.toNat, by omega, by omega⟩
theorem opens_By : Opens Try.prog 5 fun l => ∃ n : Nat, n < 256 ∧ l = [.int .u8 (n : Int)] := (opens_int Try.underlying5).mono (by
    rintro l ⟨x, hx, rfl⟩
    obtain ⟨m, hm, rfl⟩ := wf_u8 hx
    exact ⟨m, hm, rfl⟩)
theorem flat_bytes (l : List Nat) : l.flatMap (fun n : Nat => [AV.int .u8 (n : Int)]) = cBy l := by
  induction l with
  | nil => rfl
  | cons a l ih => simp only [List.flatMap_cons, ih]; rfl
theorem opens_Bys : Opens Try.prog 22 fun l => ∃ vs : List Nat, ((∀ v ∈ vs, v < 256) ∧ vs.length ≤ maxLen) ∧ l = [.view false (cBy vs) vs.length] :=
  (opens_slice (enc' := fun n : Nat => [AV.int .u8 (n : Int)]) Try.underlying22 (by kernel_rfl) (by decide : 0 < 1) (fun _ => rfl) opens_By).mono (by
    rintro l ⟨vs, h, rfl⟩
    exact ⟨vs, h, by rw [flat_bytes]⟩)
theorem arg_Bys : ArgOk Try.prog 22 fun a => ∃ vs : List Nat, ((∀ v ∈ vs, v < 256) ∧ vs.length ≤ maxLen) ∧ a = .view false (cBy vs) vs.length :=
  argOk_one (by rw [Try.underlying22]; intro fs h; cases h) (by rw [Try.underlying22]; intro n e h; cases h) (opens_Bys.mono (by
    rintro l ⟨x, hx, rfl⟩
    exact ⟨_, ⟨x, hx, rfl⟩, rfl⟩))
theorem relL_of {W : World} {avs : List AV} {args : Array Value} (h1 : avs.length = args.toList.length) (h2 : ∀ (i : Nat) a v, avs[i]? = some a → args.toList[i]? = some v → VRel W (env0 W) a v) : RelL W (env0 W) avs args :=
  ⟨by simpa using h1, fun i a v ha hv => h2 i a v ha (by simpa using hv)⟩
theorem c_b10Long (l m : List Nat) (h1 : l.length ≤ maxLen) (h2 : m.length ≤ maxLen) : Fun Try.prog 9 [.view false (cBy l) l.length, .view false (cBy m) m.length] [] (.bool (decide (1048576 < l.length) || decide (1048576 < m.length))) [] := by
  refine FnSpec.walkF dr_ok Try.func9 rfl (by kernel_rfl) rfl rfl rfl (by simp) ?_
  simp
  grind
theorem cmp_gt' {a b : Int} (h : compare a b = .gt) : b < a := by
  rcases Int.lt_trichotomy a b with c | c | c
  · rw [cmp_lt c] at h; cases h
  · rw [cmp_eq c] at h; cases h
  · exact c
theorem cmp_lt' {a b : Int} (h : compare a b = .lt) : a < b := by
  rcases Int.lt_trichotomy a b with c | c | c
  · exact c
  · rw [cmp_eq c] at h; cases h
  · rw [cmp_gt c] at h; cases h
theorem gt_of {x y : Nat} (hx : x < 4294967296) (hy : y < 4294967296) (nx : nanB .f32 x = false) (ny : nanB .f32 y = false) (h : ford .f32 x y = some .gt) : k32 y < k32 x := by
  rw [ford32 hx hy nx ny] at h; exact cmp_gt' (Option.some.inj h)
theorem lt_of {x y : Nat} (hx : x < 4294967296) (hy : y < 4294967296) (nx : nanB .f32 x = false) (ny : nanB .f32 y = false) (h : ford .f32 x y = some .lt) : k32 x < k32 y := by
  rw [ford32 hx hy nx ny] at h; exact cmp_lt' (Option.some.inj h)
theorem law_FnBits (l m : List Nat) (hb : ∀ b ∈ l, b < 256) (hb' : ∀ b ∈ m, b < 256) (h1 : l.length ≤ maxLen) (h2 : m.length ≤ maxLen) : FnSpec Try.prog 4 [.view false (cBy l) l.length, .view false (cBy m) m.length] [] fun av _ => av = .bool true := by
  refine FnSpec.walkF dr_ok Try.func4 rfl (by kernel_rfl) rfl rfl rfl (by simp) ?_
  simp
  (first | refine callG_r ?_ | refine callD_r ?_); simp; (first | refine callN_flat (by with_reducible first | exact c_b10Long l m h1 h2) rfl ?_ | refine callN_new (by with_reducible first | exact c_b10Long l m h1 h2) ?_ | refine callM_flat (by with_reducible first | exact c_b10Long l m h1 h2) rfl ?_ | refine callM_new (by with_reducible first | exact c_b10Long l m h1 h2) ?_)
  simp
  intro q1 q2
  refine callG_r ?_
  simp
  refine callN_rel (c_B10Number l _ rfl (by omega) hb) ?_
  rintro _ ⟨x, hx, rfl⟩
  simp
  refine callG_r ?_
  simp
  refine callN_rel (c_B10Number m _ rfl (by omega) hb') ?_
  rintro _ ⟨y, hy, rfl⟩
  simp
  (first | refine callG_r ?_ | refine callD_r ?_); simp; (first | refine callN_flat (by with_reducible first | exact c_BitsOf hx) rfl ?_ | refine callN_new (by with_reducible first | exact c_BitsOf hx) ?_ | refine callM_flat (by with_reducible first | exact c_BitsOf hx) rfl ?_ | refine callM_new (by with_reducible first | exact c_BitsOf hx) ?_)
  have hxl : x < 4294967296 := hx.2
  simp
  (first | refine callG_r ?_ | refine callD_r ?_); simp; (first | refine callN_flat (by with_reducible first | exact c_FromBits hxl) rfl ?_ | refine callN_new (by with_reducible first | exact c_FromBits hxl) ?_ | refine callM_flat (by with_reducible first | exact c_FromBits hxl) rfl ?_ | refine callM_new (by with_reducible first | exact c_FromBits hxl) ?_)
  have hle : (x : Int) ≤ 4294967295 := by omega
  have d1 : decide (x = y) = ((x : Int) == (y : Int)) := by rw [Bool.eq_iff_iff]; simp; omega
  cases nx : nanB .f32 x with
  | true =>
    have ex := canF_nan hx nx
    have f1 : ford .f32 x x = none := ford_nan_l nx
    have f2 : ford .f32 (fop .sub .f32 x x) 0 = none := by unfold fop; rw [floatBits_nan_l nx]; exact ford_nan_l (nanB_qnan .f32)
    have f3 : bitsV .and .i64 (x : Int) 2139095040 = 2139095040 := (fin_and hxl).2 (by rw [ex]; rfl)
    have ex' : (x : Int) = 2143289344 := by omega
    have f4 : ford .f32 (nup x) (nup x) = none := by rw [nup_nan nx]; exact f1
    have f5 : ford .f32 (ndn x) (ndn x) = none := by rw [ex]; exact ford_nan_l (by decide +kernel)
    simp [hx.1, hle]
    (first | refine callG_r ?_ | refine callD_r ?_); simp; (first | refine callN_flat (by with_reducible first | exact c_SameNumber hx hx) rfl ?_ | refine callN_new (by with_reducible first | exact c_SameNumber hx hx) ?_ | refine callM_flat (by with_reducible first | exact c_SameNumber hx hx) rfl ?_ | refine callM_new (by with_reducible first | exact c_SameNumber hx hx) ?_)
    simp
    (first | refine callG_r ?_ | refine callD_r ?_); simp; (first | refine callN_flat (by with_reducible first | exact c_SameNumber hx hy) rfl ?_ | refine callN_new (by with_reducible first | exact c_SameNumber hx hy) ?_ | refine callM_flat (by with_reducible first | exact c_SameNumber hx hy) rfl ?_ | refine callM_new (by with_reducible first | exact c_SameNumber hx hy) ?_)
    simp
    (first | refine callG_r ?_ | refine callD_r ?_); simp; (first | refine callN_flat (by with_reducible first | exact c_BitsOf hy) rfl ?_ | refine callN_new (by with_reducible first | exact c_BitsOf hy) ?_ | refine callM_flat (by with_reducible first | exact c_BitsOf hy) rfl ?_ | refine callM_new (by with_reducible first | exact c_BitsOf hy) ?_)
    simp [f1]
    refine ⟨fun _ => ⟨fun _ => ?_, by rw [ex']; rfl⟩, d1⟩
    (first | refine callG_r ?_ | refine callD_r ?_); simp; (first | refine callN_flat (by with_reducible first | exact c_IsFinite x) rfl ?_ | refine callN_new (by with_reducible first | exact c_IsFinite x) ?_ | refine callM_flat (by with_reducible first | exact c_IsFinite x) rfl ?_ | refine callM_new (by with_reducible first | exact c_IsFinite x) ?_)
    simp [f2, f3]
    (first | refine callG_r ?_ | refine callD_r ?_); simp; (first | refine callN_flat (by with_reducible first | exact c_NextUp hx) rfl ?_ | refine callN_new (by with_reducible first | exact c_NextUp hx) ?_ | refine callM_flat (by with_reducible first | exact c_NextUp hx) rfl ?_ | refine callM_new (by with_reducible first | exact c_NextUp hx) ?_)
    simp
    (first | refine callG_r ?_ | refine callD_r ?_); simp; (first | refine callN_flat (by with_reducible first | exact c_NextDown hx) rfl ?_ | refine callN_new (by with_reducible first | exact c_NextDown hx) ?_ | refine callM_flat (by with_reducible first | exact c_NextDown hx) rfl ?_ | refine callM_new (by with_reducible first | exact c_NextDown hx) ?_)
    simp [f1, f4, f5]
  | false =>
    have f1 : ford .f32 x x = some .eq := ford_self nx
    have hnl := num_le hxl nx
    have ex' : ¬ (x : Int) = 2143289344 := by omega
    have fb := finB_eq hxl nx
    have fa := fin_and hxl
    simp [hx.1, hle]
    (first | refine callG_r ?_ | refine callD_r ?_); simp; (first | refine callN_flat (by with_reducible first | exact c_SameNumber hx hx) rfl ?_ | refine callN_new (by with_reducible first | exact c_SameNumber hx hx) ?_ | refine callM_flat (by with_reducible first | exact c_SameNumber hx hx) rfl ?_ | refine callM_new (by with_reducible first | exact c_SameNumber hx hx) ?_)
    simp
    (first | refine callG_r ?_ | refine callD_r ?_); simp; (first | refine callN_flat (by with_reducible first | exact c_SameNumber hx hy) rfl ?_ | refine callN_new (by with_reducible first | exact c_SameNumber hx hy) ?_ | refine callM_flat (by with_reducible first | exact c_SameNumber hx hy) rfl ?_ | refine callM_new (by with_reducible first | exact c_SameNumber hx hy) ?_)
    simp
    (first | refine callG_r ?_ | refine callD_r ?_); simp; (first | refine callN_flat (by with_reducible first | exact c_BitsOf hy) rfl ?_ | refine callN_new (by with_reducible first | exact c_BitsOf hy) ?_ | refine callM_flat (by with_reducible first | exact c_BitsOf hy) rfl ?_ | refine callM_new (by with_reducible first | exact c_BitsOf hy) ?_)
    simp [f1]
    refine ⟨fun _ => ⟨fun _ => ?_, by omega⟩, d1⟩
    have hfin : fin32 x = (bitsV .and .i64 (x : Int) 2139095040 != 2139095040) := by
      cases h : fin32 x with
      | false => rw [fa.2 h]; rfl
      | true =>
        have : ¬ bitsV .and .i64 (x : Int) 2139095040 = 2139095040 := fun e => by rw [fa.1 e] at h; cases h
        simp [this]
    (first | refine callG_r ?_ | refine callD_r ?_); simp; (first | refine callN_flat (by with_reducible first | exact c_IsFinite x) rfl ?_ | refine callN_new (by with_reducible first | exact c_IsFinite x) ?_ | refine callM_flat (by with_reducible first | exact c_IsFinite x) rfl ?_ | refine callM_new (by with_reducible first | exact c_IsFinite x) ?_)
    simp [fb]
    refine ⟨hfin, fun _ => ?_⟩
    (first | refine callG_r ?_ | refine callD_r ?_); simp; (first | refine callN_flat (by with_reducible first | exact c_NextUp hx) rfl ?_ | refine callN_new (by with_reducible first | exact c_NextUp hx) ?_ | refine callM_flat (by with_reducible first | exact c_NextUp hx) rfl ?_ | refine callM_new (by with_reducible first | exact c_NextUp hx) ?_)
    simp
    (first | refine callG_r ?_ | refine callD_r ?_); simp; (first | refine callN_flat (by with_reducible first | exact c_NextDown hx) rfl ?_ | refine callN_new (by with_reducible first | exact c_NextDown hx) ?_ | refine callM_flat (by with_reducible first | exact c_NextDown hx) rfl ?_ | refine callM_new (by with_reducible first | exact c_NextDown hx) ?_)
    simp [f1]
    (first | refine callG_r ?_ | refine callD_r ?_); simp; (first | refine callN_flat (by with_reducible first | exact c_IsFinite x) rfl ?_ | refine callN_new (by with_reducible first | exact c_IsFinite x) ?_ | refine callM_flat (by with_reducible first | exact c_IsFinite x) rfl ?_ | refine callM_new (by with_reducible first | exact c_IsFinite x) ?_)
    cases hf : fin32 x with
    | true =>
      have hx1 : x ≠ 2139095040 := fun e => by rw [e] at hf; exact absurd hf (by decide)
      have hx2 : x ≠ 4286578688 := fun e => by rw [e] at hf; exact absurd hf (by decide)
      obtain ⟨u1, u2⟩ := nup_num hxl nx
      obtain ⟨v1, v2⟩ := ndn_num hxl nx
      have ku := nup_key hxl nx hx1
      have kv := ndn_key hxl nx hx2
      have c1 := gt32 u2 hxl u1 nx (by omega)
      have c2 := lt32 v2 hxl v1 nx (by omega)
      have hu1 : nup x ≠ 4286578688 := by
        intro e; rw [e] at ku
        have := num_le hxl nx
        unfold k32 at ku; split at ku <;> split at ku <;> omega
      have hv1 : ndn x ≠ 2139095040 := by
        intro e; rw [e] at kv
        have := num_le hxl nx
        unfold k32 at kv; split at kv <;> split at kv <;> omega
      have kd := ndn_key u2 u1 hu1
      have kw := nup_key v2 v1 hv1
      obtain ⟨w1, w2⟩ := ndn_num u2 u1
      obtain ⟨z1, z2⟩ := nup_num v2 v1
      have c3 := eq32 w2 hxl w1 nx (by omega)
      have c4 := eq32 z2 hxl z1 nx (by omega)
      have hu : CanF .f32 (nup x) := canF_num u2 u1
      have hv : CanF .f32 (ndn x) := canF_num v2 v1
      have ha : ford .f32 y x = some .gt → ¬ ford .f32 y (nup x) = some .lt := by
        intro e1 e2
        cases ny : nanB .f32 y with
        | true => rw [ford_nan_l ny] at e1; cases e1
        | false =>
          have g1 := gt_of hy.2 hxl ny nx e1
          have g2 := lt_of hy.2 u2 ny u1 e2
          omega
      have hb2 : ford .f32 y x = some .lt → ¬ ford .f32 y (ndn x) = some .gt := by
        intro e1 e2
        cases ny : nanB .f32 y with
        | true => rw [ford_nan_l ny] at e1; cases e1
        | false =>
          have g1 := lt_of hy.2 hxl ny nx e1
          have g2 := gt_of hy.2 v2 ny v1 e2
          omega
      simp [fb, hf, c1, c2]
      cases o : ford .f32 y x with
      | none =>
        simp
        (first | refine callG_r ?_ | refine callD_r ?_); simp; (first | refine callN_flat (by with_reducible first | exact c_NextDown hu) rfl ?_ | refine callN_new (by with_reducible first | exact c_NextDown hu) ?_ | refine callM_flat (by with_reducible first | exact c_NextDown hu) rfl ?_ | refine callM_new (by with_reducible first | exact c_NextDown hu) ?_)
        simp [c3]
        (first | refine callG_r ?_ | refine callD_r ?_); simp; (first | refine callN_flat (by with_reducible first | exact c_NextUp hv) rfl ?_ | refine callN_new (by with_reducible first | exact c_NextUp hv) ?_ | refine callM_flat (by with_reducible first | exact c_NextUp hv) rfl ?_ | refine callM_new (by with_reducible first | exact c_NextUp hv) ?_)
        simp [c4]
      | some r =>
        cases r with
        | lt =>
          have hc := hb2 o
          simp [hc]
          (first | refine callG_r ?_ | refine callD_r ?_); simp; (first | refine callN_flat (by with_reducible first | exact c_NextDown hu) rfl ?_ | refine callN_new (by with_reducible first | exact c_NextDown hu) ?_ | refine callM_flat (by with_reducible first | exact c_NextDown hu) rfl ?_ | refine callM_new (by with_reducible first | exact c_NextDown hu) ?_)
          simp [c3]
          (first | refine callG_r ?_ | refine callD_r ?_); simp; (first | refine callN_flat (by with_reducible first | exact c_NextUp hv) rfl ?_ | refine callN_new (by with_reducible first | exact c_NextUp hv) ?_ | refine callM_flat (by with_reducible first | exact c_NextUp hv) rfl ?_ | refine callM_new (by with_reducible first | exact c_NextUp hv) ?_)
          simp [c4]
        | eq =>
          simp
          (first | refine callG_r ?_ | refine callD_r ?_); simp; (first | refine callN_flat (by with_reducible first | exact c_NextDown hu) rfl ?_ | refine callN_new (by with_reducible first | exact c_NextDown hu) ?_ | refine callM_flat (by with_reducible first | exact c_NextDown hu) rfl ?_ | refine callM_new (by with_reducible first | exact c_NextDown hu) ?_)
          simp [c3]
          (first | refine callG_r ?_ | refine callD_r ?_); simp; (first | refine callN_flat (by with_reducible first | exact c_NextUp hv) rfl ?_ | refine callN_new (by with_reducible first | exact c_NextUp hv) ?_ | refine callM_flat (by with_reducible first | exact c_NextUp hv) rfl ?_ | refine callM_new (by with_reducible first | exact c_NextUp hv) ?_)
          simp [c4]
        | gt =>
          have hc := ha o
          simp [hc]
          (first | refine callG_r ?_ | refine callD_r ?_); simp; (first | refine callN_flat (by with_reducible first | exact c_NextDown hu) rfl ?_ | refine callN_new (by with_reducible first | exact c_NextDown hu) ?_ | refine callM_flat (by with_reducible first | exact c_NextDown hu) rfl ?_ | refine callM_new (by with_reducible first | exact c_NextDown hu) ?_)
          simp [c3]
          (first | refine callG_r ?_ | refine callD_r ?_); simp; (first | refine callN_flat (by with_reducible first | exact c_NextUp hv) rfl ?_ | refine callN_new (by with_reducible first | exact c_NextUp hv) ?_ | refine callM_flat (by with_reducible first | exact c_NextUp hv) rfl ?_ | refine callM_new (by with_reducible first | exact c_NextUp hv) ?_)
          simp [c4]
    | false =>
      have hx3 : x = 2139095040 ∨ x = 4286578688 := by
        have := of_decide_eq_false hf
        omega
      rcases hx3 with rfl | rfl
      · have c1 : ford .f32 2139095040 0 = some .gt := gt32 (by omega) (by omega) nx (num_of (by omega)) (by decide)
        have c2 : ford .f32 (ndn 2139095040) 2139095040 = some .lt := by
          obtain ⟨v1, v2⟩ := ndn_num hxl nx
          exact lt32 v2 hxl v1 nx (by rw [ndn_key hxl nx (by omega)]; omega)
        simp [fb, hf, c1, nup_inf, f1, c2]
      · have c1 : ford .f32 4286578688 0 = some .lt := lt32 (by omega) (by omega) nx (num_of (by omega)) (by decide)
        have c2 : ford .f32 (nup 4286578688) 4286578688 = some .gt := by
          obtain ⟨v1, v2⟩ := nup_num hxl nx
          exact gt32 v2 hxl v1 nx (by rw [nup_key hxl nx (by omega)]; omega)
        simp [fb, hf, c1, ndn_inf, f1, c2]
end Go.Proofs.Ytfngkhkghjgmkaa
