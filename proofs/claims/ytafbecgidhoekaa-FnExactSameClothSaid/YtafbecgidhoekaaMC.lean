/- Contracts: what is the same.
Conditions: none. -/
import Derived.Test.YtafbecgidhoekaaK2
import Derived.Test.YtafbecgidhoekaaOrd
import Derived.Test.YtafbecgidhoekaaA1
namespace Go.Proofs.Ytafbecgidhoekaa
set_option linter.all false
open Go Go.Awp
set_option maxRecDepth 100000
set_option maxHeartbeats 4000000
set_option pp.deepTerms true

theorem c_Signbit {x : Nat} (h : nanB .f64 x = false) (hx : x < 2 ^ FloatKind.f64.format.width) : Fun Try.prog 136 [.flt .f64 x] [] (.bool (sgB .f64 x)) [] := by
  refine FnSpec.walkF dr_ok Try.func136 rfl (by kernel_rfl) rfl rfl rfl (by simp) ?_
  simp
  (first | refine callG_r ?_ | refine callD_r ?_); simp; (first | refine callN_flat (by with_reducible first | exact c_bits64 h) rfl ?_ | refine callN_new (by with_reducible first | exact c_bits64 h) ?_ | refine callM_flat (by with_reducible first | exact c_bits64 h) rfl ?_ | refine callM_new (by with_reducible first | exact c_bits64 h) ?_)
  simp
  have hx : x < 18446744073709551616 := hx
  have hs : FloatKind.f64.format.signWeight = 9223372036854775808 := by decide +kernel
  unfold sgB
  rw [hs]
  have hw : IntKind.i64.wrap (x : Int) = if x < 9223372036854775808 then (x : Int) else x - 18446744073709551616 := by
    by_cases c : x < 9223372036854775808
    · rw [if_pos c, wrap64 (by omega) (by omega)]
    · rw [if_neg c, IntKind.wrap_i64]; omega
  rw [hw]
  by_cases c : x < 9223372036854775808
  · rw [if_pos c, Nat.div_eq_of_lt c]; simp
  · rw [if_neg c]
    have : x / 9223372036854775808 = 1 := by omega
    rw [this]; simp; omega
theorem can_nan {x : Nat} (h : CanF .f32 x) (hn : nanB .f32 x = true) : x = 2143289344 := by
  rw [← h.1, cn_nan hn]; rfl
theorem c_SameNumber {x y : Nat} (hx : CanF .f32 x) (hy : CanF .f32 y) : Fun Try.prog 122 [.flt .f32 x, .flt .f32 y] [] (.bool (decide (x = y))) [] := by
  refine FnSpec.walkF dr_ok Try.func122 rfl (by kernel_rfl) rfl rfl rfl (by simp) ?_
  cases nx : nanB .f32 x with
  | true =>
    have ex := can_nan hx nx
    have f1 : ford .f32 x x = none := ford_nan_l nx
    cases ny : nanB .f32 y with
    | true =>
      have ey := can_nan hy ny
      have f2 : ford .f32 y y = none := ford_nan_l ny
      subst ex; subst ey
      simp [f1]
    | false =>
      have f2 : ford .f32 y y = some .eq := ford_self ny
      have : x ≠ y := by intro e; rw [e, ny] at nx; cases nx
      simp [f1, f2, this]
  | false =>
    have f1 : ford .f32 x x = some .eq := ford_self nx
    cases ny : nanB .f32 y with
    | true =>
      have f2 : ford .f32 y y = none := ford_nan_l ny
      have : x ≠ y := by intro e; rw [e, ny] at nx; cases nx
      simp [f1, f2, this]
    | false =>
      have f2 : ford .f32 y y = some .eq := ford_self ny
      have hs := same_word hx.2 hy.2 nx ny
      obtain ⟨a1, a2, a3⟩ := wid_sign nx
      obtain ⟨b1, b2, b3⟩ := wid_sign ny
      simp [f1, f2]
      by_cases c : ford .f32 x y = some .eq
      · simp [c]
        (first | refine callG_r ?_ | refine callD_r ?_); simp; (first | refine callN_flat (by with_reducible first | exact c_Signbit a1 a2) rfl ?_ | refine callN_new (by with_reducible first | exact c_Signbit a1 a2) ?_ | refine callM_flat (by with_reducible first | exact c_Signbit a1 a2) rfl ?_ | refine callM_new (by with_reducible first | exact c_Signbit a1 a2) ?_)
        simp
        (first | refine callG_r ?_ | refine callD_r ?_); simp; (first | refine callN_flat (by with_reducible first | exact c_Signbit b1 b2) rfl ?_ | refine callN_new (by with_reducible first | exact c_Signbit b1 b2) ?_ | refine callM_flat (by with_reducible first | exact c_Signbit b1 b2) rfl ?_ | refine callM_new (by with_reducible first | exact c_Signbit b1 b2) ?_)
        simp
        rw [a3, b3]
        rw [Bool.eq_iff_iff]
        simp
        rw [← hs]
        simp [c]
      · simp [c]
        intro e
        exact c (hs.2 e).1
theorem c_l01Bits {x : Nat} (hx : CanF .f32 x) : Fun Try.prog 121 [.flt .f32 x] [] (.int .i64 x) [] := by
  refine FnSpec.walkF dr_ok Try.func121 rfl (by kernel_rfl) rfl rfl rfl (by simp) ?_
  have hl : x < 4294967296 := hx.2
  cases nx : nanB .f32 x with
  | true =>
    have ex := can_nan hx nx
    have f1 : ford .f32 x x = none := ford_nan_l nx
    simp [f1]
    omega
  | false =>
    have f1 : ford .f32 x x = some .eq := ford_self nx
    simp [f1]
    (first | refine callG_r ?_ | refine callD_r ?_); simp; (first | refine callN_flat (by with_reducible first | exact c_bits32 nx) rfl ?_ | refine callN_new (by with_reducible first | exact c_bits32 nx) ?_ | refine callM_flat (by with_reducible first | exact c_bits32 nx) rfl ?_ | refine callM_new (by with_reducible first | exact c_bits32 nx) ?_)
    simp
    rw [wrap64 (by omega) (by omega)]
theorem c_l01Same {x y : Nat} (hx : CanF .f32 x) (hy : CanF .f32 y) : Fun Try.prog 74 [.flt .f32 x, .flt .f32 y] [] (.bool (decide (x = y))) [] := by
  refine FnSpec.walkF dr_ok Try.func74 rfl (by kernel_rfl) rfl rfl rfl (by simp) ?_
  simp
  (first | refine callG_r ?_ | refine callD_r ?_); simp; (first | refine callN_flat (by with_reducible first | exact c_l01Bits hx) rfl ?_ | refine callN_new (by with_reducible first | exact c_l01Bits hx) ?_ | refine callM_flat (by with_reducible first | exact c_l01Bits hx) rfl ?_ | refine callM_new (by with_reducible first | exact c_l01Bits hx) ?_)
  simp
  (first | refine callG_r ?_ | refine callD_r ?_); simp; (first | refine callN_flat (by with_reducible first | exact c_l01Bits hy) rfl ?_ | refine callN_new (by with_reducible first | exact c_l01Bits hy) ?_ | refine callM_flat (by with_reducible first | exact c_l01Bits hy) rfl ?_ | refine callM_new (by with_reducible first | exact c_l01Bits hy) ?_)
  simp
  rw [Bool.eq_iff_iff]
  simp
  omega
theorem c_SameVector {v w : V} (hv : CanV v) (hw : CanV w) : Fun Try.prog 76 [aV v, aV w] [] (.bool (decide (v = w))) [] := by
  obtain ⟨v1, v2, v3⟩ := v
  obtain ⟨w1, w2, w3⟩ := w
  obtain ⟨h1, h2, h3⟩ := hv
  obtain ⟨g1, g2, g3⟩ := hw
  refine FnSpec.walkF dr_ok Try.func76 rfl (by kernel_rfl) rfl rfl rfl (by simp) ?_
  simp
  (first | refine callG_r ?_ | refine callD_r ?_); simp; (first | refine callN_flat (by with_reducible first | exact c_SameNumber h1 g1) rfl ?_ | refine callN_new (by with_reducible first | exact c_SameNumber h1 g1) ?_ | refine callM_flat (by with_reducible first | exact c_SameNumber h1 g1) rfl ?_ | refine callM_new (by with_reducible first | exact c_SameNumber h1 g1) ?_)
  by_cases e1 : v1 = w1
  · simp [e1]
    (first | refine callG_r ?_ | refine callD_r ?_); simp; (first | refine callN_flat (by with_reducible first | exact c_SameNumber h2 g2) rfl ?_ | refine callN_new (by with_reducible first | exact c_SameNumber h2 g2) ?_ | refine callM_flat (by with_reducible first | exact c_SameNumber h2 g2) rfl ?_ | refine callM_new (by with_reducible first | exact c_SameNumber h2 g2) ?_)
    by_cases e2 : v2 = w2
    · simp [e2]
      (first | refine callG_r ?_ | refine callD_r ?_); simp; (first | refine callN_flat (by with_reducible first | exact c_SameNumber h3 g3) rfl ?_ | refine callN_new (by with_reducible first | exact c_SameNumber h3 g3) ?_ | refine callM_flat (by with_reducible first | exact c_SameNumber h3 g3) rfl ?_ | refine callM_new (by with_reducible first | exact c_SameNumber h3 g3) ?_)
      simp [e1, e2]
    · simp [e2]
  · simp [e1]
theorem c_l01VSame {v w : V} (hv : CanV v) (hw : CanV w) : Fun Try.prog 120 [aV v, aV w] [] (.bool (decide (v = w))) [] := by
  obtain ⟨v1, v2, v3⟩ := v
  obtain ⟨w1, w2, w3⟩ := w
  obtain ⟨h1, h2, h3⟩ := hv
  obtain ⟨g1, g2, g3⟩ := hw
  refine FnSpec.walkF dr_ok Try.func120 rfl (by kernel_rfl) rfl rfl rfl (by simp) ?_
  simp
  (first | refine callG_r ?_ | refine callD_r ?_); simp; (first | refine callN_flat (by with_reducible first | exact c_l01Same h1 g1) rfl ?_ | refine callN_new (by with_reducible first | exact c_l01Same h1 g1) ?_ | refine callM_flat (by with_reducible first | exact c_l01Same h1 g1) rfl ?_ | refine callM_new (by with_reducible first | exact c_l01Same h1 g1) ?_)
  by_cases e1 : v1 = w1
  · simp [e1]
    (first | refine callG_r ?_ | refine callD_r ?_); simp; (first | refine callN_flat (by with_reducible first | exact c_l01Same h2 g2) rfl ?_ | refine callN_new (by with_reducible first | exact c_l01Same h2 g2) ?_ | refine callM_flat (by with_reducible first | exact c_l01Same h2 g2) rfl ?_ | refine callM_new (by with_reducible first | exact c_l01Same h2 g2) ?_)
    by_cases e2 : v2 = w2
    · simp [e2]
      (first | refine callG_r ?_ | refine callD_r ?_); simp; (first | refine callN_flat (by with_reducible first | exact c_l01Same h3 g3) rfl ?_ | refine callN_new (by with_reducible first | exact c_l01Same h3 g3) ?_ | refine callM_flat (by with_reducible first | exact c_l01Same h3 g3) rfl ?_ | refine callM_new (by with_reducible first | exact c_l01Same h3 g3) ?_)
      simp [e1, e2]
    · simp [e2]
  · simp [e1]
theorem c_sameThread {v w : Th} (hv : CanT v) (hw : CanT w) : Fun Try.prog 78 [aT v, aT w] [] (.bool (decide (v = w))) [] := by
  obtain ⟨v1, v2, v3⟩ := v
  obtain ⟨w1, w2, w3⟩ := w
  obtain ⟨_, _, h3⟩ := hv
  obtain ⟨_, _, g3⟩ := hw
  refine FnSpec.walkF dr_ok Try.func78 rfl (by kernel_rfl) rfl rfl rfl (by simp) ?_
  simp
  by_cases e1 : v1 = w1
  · simp [e1]
    by_cases e2 : v2 = w2
    · simp [e2]
      (first | refine callG_r ?_ | refine callD_r ?_); simp; (first | refine callN_flat (by with_reducible first | exact c_SameNumber h3 g3) rfl ?_ | refine callN_new (by with_reducible first | exact c_SameNumber h3 g3) ?_ | refine callM_flat (by with_reducible first | exact c_SameNumber h3 g3) rfl ?_ | refine callM_new (by with_reducible first | exact c_SameNumber h3 g3) ?_)
      simp [e1, e2]
    · simp [e2]
  · simp [e1]
/-- Lists compared one after another. -/
theorem take_next {α : Type} {l l' : List α} {k : Nat} (hl : l.length = l'.length) (h : k < l.length) (ht : l.take k = l'.take k) (he : l[k] = l'[k]'(by omega)) : l.take (k + 1) = l'.take (k + 1) := by
  rw [← List.take_append_getElem h, ← List.take_append_getElem (by omega : k < l'.length), ht, he]
theorem take_ne {α : Type} {l l' : List α} {k : Nat} (h : k < l.length) (h' : k < l'.length) (he : l[k] ≠ l'[k]) : l ≠ l' := by
  intro e; subst e; exact he rfl
theorem c_EqualFuncV (l l' : List V) (n n' : Nat) (hn : n = l.length) (hn' : n' = l'.length) (h1 : l.length ≤ 1048576) (hv : ∀ v ∈ l, CanV v) (hv' : ∀ v ∈ l', CanV v) :
    Fun Try.prog 75 [.view false (cVs l) n, .view false (cVs l') n', .clo 76 [] []] [] (.bool (decide (l = l'))) [] := by
  subst hn; subst hn'
  refine FnSpec.walkF dr_ok Try.func75 rfl (by kernel_rfl) rfl rfl rfl (by simp) ?_
  simp
  by_cases hl : l.length = l'.length
  · simp [hl]
    refine loopG_of (α := Nat) (fun k => k ≤ l.length ∧ l.take k = l'.take k) (fun k => l.length - k) (fun k => [(17, .int .i64 k), (16, .int .i64 l.length), (15, .view false (cVs l) l.length), (1, .view false (cVs l') l'.length), (2, .clo 76 [] [])]) (fun k => []) 0 (by simp) ?_ fun k ⟨hk, hi⟩ => ?_
    · (refine weak_gc [] ?_ ?_ ?_ ?_ ?_ <;> simp [hl])
    have hw := nat_wrap (k := k) (by omega)
    by_cases b : k < l.length
    · have b' : k < l'.length := by omega
      simp [b, b', hw]
      (first | refine callG_r ?_ | refine callD_r ?_); simp; (first | refine callN_flat (by with_reducible first | exact c_SameVector (hv _ (List.getElem_mem b)) (hv' _ (List.getElem_mem b'))) rfl ?_ | refine callN_new (by with_reducible first | exact c_SameVector (hv _ (List.getElem_mem b)) (hv' _ (List.getElem_mem b'))) ?_ | refine callM_flat (by with_reducible first | exact c_SameVector (hv _ (List.getElem_mem b)) (hv' _ (List.getElem_mem b'))) rfl ?_ | refine callM_new (by with_reducible first | exact c_SameVector (hv _ (List.getElem_mem b)) (hv' _ (List.getElem_mem b'))) ?_)
      simp [hw]
      refine ⟨fun e => take_ne b b' e, fun e => loopK_next (k + 1) (by omega) ⟨by omega, take_next hl b hi e⟩ ?_⟩
      (refine weak_gc [] ?_ ?_ ?_ ?_ ?_ <;> simp)
    · obtain rfl : k = l.length := by omega
      simp
      rw [List.take_length, hl, List.take_length] at hi
      exact hi
  · exact ⟨fun _ e => hl (by rw [e]), fun e => absurd (show l.length = l'.length by omega) hl⟩
theorem c_EqualFuncT (l l' : List Th) (n n' : Nat) (hn : n = l.length) (hn' : n' = l'.length) (h1 : l.length ≤ 1048576) (hv : ∀ v ∈ l, CanT v) (hv' : ∀ v ∈ l', CanT v) :
    Fun Try.prog 77 [.view false (cTs l) n, .view false (cTs l') n', .clo 78 [] []] [] (.bool (decide (l = l'))) [] := by
  subst hn; subst hn'
  refine FnSpec.walkF dr_ok Try.func77 rfl (by kernel_rfl) rfl rfl rfl (by simp) ?_
  simp
  by_cases hl : l.length = l'.length
  · simp [hl]
    refine loopG_of (α := Nat) (fun k => k ≤ l.length ∧ l.take k = l'.take k) (fun k => l.length - k) (fun k => [(17, .int .i64 k), (16, .int .i64 l.length), (15, .view false (cTs l) l.length), (1, .view false (cTs l') l'.length), (2, .clo 78 [] [])]) (fun k => []) 0 (by simp) ?_ fun k ⟨hk, hi⟩ => ?_
    · (refine weak_gc [] ?_ ?_ ?_ ?_ ?_ <;> simp [hl])
    have hw := nat_wrap (k := k) (by omega)
    by_cases b : k < l.length
    · have b' : k < l'.length := by omega
      simp [b, b', hw]
      (first | refine callG_r ?_ | refine callD_r ?_); simp; (first | refine callN_flat (by with_reducible first | exact c_sameThread (hv _ (List.getElem_mem b)) (hv' _ (List.getElem_mem b'))) rfl ?_ | refine callN_new (by with_reducible first | exact c_sameThread (hv _ (List.getElem_mem b)) (hv' _ (List.getElem_mem b'))) ?_ | refine callM_flat (by with_reducible first | exact c_sameThread (hv _ (List.getElem_mem b)) (hv' _ (List.getElem_mem b'))) rfl ?_ | refine callM_new (by with_reducible first | exact c_sameThread (hv _ (List.getElem_mem b)) (hv' _ (List.getElem_mem b'))) ?_)
      simp [hw]
      refine ⟨fun e => take_ne b b' e, fun e => loopK_next (k + 1) (by omega) ⟨by omega, take_next hl b hi e⟩ ?_⟩
      (refine weak_gc [] ?_ ?_ ?_ ?_ ?_ <;> simp)
    · obtain rfl : k = l.length := by omega
      simp
      rw [List.take_length, hl, List.take_length] at hi
      exact hi
  · exact ⟨fun _ e => hl (by rw [e]), fun e => absurd (show l.length = l'.length by omega) hl⟩
theorem c_Equal (l l' : List Int) (n n' : Nat) (hn : n = l.length) (hn' : n' = l'.length) (h1 : l.length ≤ 1048576) :
    Fun Try.prog 79 [.view false (cIs l) n, .view false (cIs l') n'] [] (.bool (decide (l = l'))) [] := by
  subst hn; subst hn'
  refine FnSpec.walkF dr_ok Try.func79 rfl (by kernel_rfl) rfl rfl rfl (by simp) ?_
  simp
  by_cases hl : l.length = l'.length
  · simp [hl]
    refine loopG_of (α := Nat) (fun k => k ≤ l.length ∧ l.take k = l'.take k) (fun k => l.length - k) (fun k => [(13, .int .i64 k), (12, .int .i64 l.length), (0, .view false (cIs l) l.length), (1, .view false (cIs l') l'.length)]) (fun k => []) 0 (by simp) ?_ fun k ⟨hk, hi⟩ => ?_
    · (refine weak_gc [] ?_ ?_ ?_ ?_ ?_ <;> simp [hl])
    have hw := nat_wrap (k := k) (by omega)
    by_cases b : k < l.length
    · have b' : k < l'.length := by omega
      simp [b, b', hw]
      refine ⟨fun e => take_ne b b' e, fun e => loopK_next (k + 1) (by omega) ⟨by omega, take_next hl b hi e⟩ ?_⟩
      (refine weak_gc [] ?_ ?_ ?_ ?_ ?_ <;> simp)
    · obtain rfl : k = l.length := by omega
      simp
      rw [List.take_length, hl, List.take_length] at hi
      exact hi
  · exact ⟨fun _ e => hl (by rw [e]), fun e => absurd (show l.length = l'.length by omega) hl⟩
theorem c_l10Vectors (l l' : List V) (n n' : Nat) (hn : n = l.length) (hn' : n' = l'.length) (h1 : l.length ≤ 1048576) (hv : ∀ v ∈ l, CanV v) (hv' : ∀ v ∈ l', CanV v) :
    Fun Try.prog 72 [.view false (cVs l) n, .view false (cVs l') n'] [] (.bool (decide (l = l'))) [] := by
  subst hn; subst hn'
  refine FnSpec.walkF dr_ok Try.func72 rfl (by kernel_rfl) rfl rfl rfl (by simp) ?_
  simp
  by_cases hl : l.length = l'.length
  · simp [hl]
    refine loopG_of (α := Nat) (fun k => k ≤ l.length ∧ l.take k = l'.take k) (fun k => l.length - k) (fun k => [(5, .int .i64 k), (0, .view false (cVs l) l.length), (1, .view false (cVs l') l'.length)]) (fun k => []) 0 (by simp) ?_ fun k ⟨hk, hi⟩ => ?_
    · (refine weak_gc [] ?_ ?_ ?_ ?_ ?_ <;> simp [hl])
    have hw := nat_wrap (k := k) (by omega)
    by_cases b : k < l.length
    · have b' : k < l'.length := by omega
      simp [b, b', hw]
      (first | refine callG_r ?_ | refine callD_r ?_); simp; (first | refine callN_flat (by with_reducible first | exact c_l01VSame (hv _ (List.getElem_mem b)) (hv' _ (List.getElem_mem b'))) rfl ?_ | refine callN_new (by with_reducible first | exact c_l01VSame (hv _ (List.getElem_mem b)) (hv' _ (List.getElem_mem b'))) ?_ | refine callM_flat (by with_reducible first | exact c_l01VSame (hv _ (List.getElem_mem b)) (hv' _ (List.getElem_mem b'))) rfl ?_ | refine callM_new (by with_reducible first | exact c_l01VSame (hv _ (List.getElem_mem b)) (hv' _ (List.getElem_mem b'))) ?_)
      simp [hw]
      refine ⟨fun e => take_ne b b' e, fun e => loopK_next (k + 1) (by omega) ⟨by omega, take_next hl b hi e⟩ ?_⟩
      (refine weak_gc [] ?_ ?_ ?_ ?_ ?_ <;> simp)
    · obtain rfl : k = l.length := by omega
      simp
      rw [List.take_length, hl, List.take_length] at hi
      exact hi
  · exact ⟨fun _ e => hl (by rw [e]), fun e => absurd (show l.length = l'.length by omega) hl⟩
theorem c_l00Same (l l' : List Int) (n n' : Nat) (hn : n = l.length) (hn' : n' = l'.length) (h1 : l.length ≤ 1048576) :
    Fun Try.prog 73 [.view false (cIs l) n, .view false (cIs l') n'] [] (.bool (decide (l = l'))) [] := by
  subst hn; subst hn'
  refine FnSpec.walkF dr_ok Try.func73 rfl (by kernel_rfl) rfl rfl rfl (by simp) ?_
  simp
  by_cases hl : l.length = l'.length
  · simp [hl]
    refine loopG_of (α := Nat) (fun k => k ≤ l.length ∧ l.take k = l'.take k) (fun k => l.length - k) (fun k => [(5, .int .i64 k), (0, .view false (cIs l) l.length), (1, .view false (cIs l') l'.length)]) (fun k => []) 0 (by simp) ?_ fun k ⟨hk, hi⟩ => ?_
    · (refine weak_gc [] ?_ ?_ ?_ ?_ ?_ <;> simp [hl])
    have hw := nat_wrap (k := k) (by omega)
    by_cases b : k < l.length
    · have b' : k < l'.length := by omega
      simp [b, b', hw]
      refine ⟨fun e => take_ne b b' e, fun e => loopK_next (k + 1) (by omega) ⟨by omega, take_next hl b hi e⟩ ?_⟩
      (refine weak_gc [] ?_ ?_ ?_ ?_ ?_ <;> simp)
    · obtain rfl : k = l.length := by omega
      simp
      rw [List.take_length, hl, List.take_length] at hi
      exact hi
  · exact ⟨fun _ e => hl (by rw [e]), fun e => absurd (show l.length = l'.length by omega) hl⟩
/-- Cloths are the same. -/
def sameC (a b : Clo) : Bool := decide (a.pl = b.pl) && decide (a.ol = b.ol) && decide (a.th = b.th) && decide (a.pin = b.pin)
theorem c_SameCloth (a b : Clo) (ha : a.Small) (hb : b.Small) (ka : a.Can) (kb : b.Can) : Fun Try.prog 25 [a.av, b.av] [] (.bool (sameC a b)) [] := by
  refine FnSpec.walkF dr_ok Try.func25 rfl (by kernel_rfl) rfl rfl rfl (by simp) ?_
  simp
  (first | refine callG_r ?_ | refine callD_r ?_); simp; (first | refine callN_flat (by with_reducible first | exact c_EqualFuncV _ _ _ _ rfl rfl ha.pl ka.pl kb.pl) rfl ?_ | refine callN_new (by with_reducible first | exact c_EqualFuncV _ _ _ _ rfl rfl ha.pl ka.pl kb.pl) ?_ | refine callM_flat (by with_reducible first | exact c_EqualFuncV _ _ _ _ rfl rfl ha.pl ka.pl kb.pl) rfl ?_ | refine callM_new (by with_reducible first | exact c_EqualFuncV _ _ _ _ rfl rfl ha.pl ka.pl kb.pl) ?_)
  unfold sameC
  by_cases h1 : a.pl = b.pl
  · simp [h1]
    (first | refine callG_r ?_ | refine callD_r ?_); simp; (first | refine callN_flat (by with_reducible first | exact c_EqualFuncV _ _ _ _ rfl rfl ha.ol ka.ol kb.ol) rfl ?_ | refine callN_new (by with_reducible first | exact c_EqualFuncV _ _ _ _ rfl rfl ha.ol ka.ol kb.ol) ?_ | refine callM_flat (by with_reducible first | exact c_EqualFuncV _ _ _ _ rfl rfl ha.ol ka.ol kb.ol) rfl ?_ | refine callM_new (by with_reducible first | exact c_EqualFuncV _ _ _ _ rfl rfl ha.ol ka.ol kb.ol) ?_)
    by_cases h2 : a.ol = b.ol
    · simp [h2]
      (first | refine callG_r ?_ | refine callD_r ?_); simp; (first | refine callN_flat (by with_reducible first | exact c_EqualFuncT _ _ _ _ rfl rfl ha.th ka.th kb.th) rfl ?_ | refine callN_new (by with_reducible first | exact c_EqualFuncT _ _ _ _ rfl rfl ha.th ka.th kb.th) ?_ | refine callM_flat (by with_reducible first | exact c_EqualFuncT _ _ _ _ rfl rfl ha.th ka.th kb.th) rfl ?_ | refine callM_new (by with_reducible first | exact c_EqualFuncT _ _ _ _ rfl rfl ha.th ka.th kb.th) ?_)
      by_cases h3 : a.th = b.th
      · simp [h3]
        (first | refine callG_r ?_ | refine callD_r ?_); simp; (first | refine callN_flat (by with_reducible first | exact c_Equal _ _ _ _ rfl rfl ha.pin) rfl ?_ | refine callN_new (by with_reducible first | exact c_Equal _ _ _ _ rfl rfl ha.pin) ?_ | refine callM_flat (by with_reducible first | exact c_Equal _ _ _ _ rfl rfl ha.pin) rfl ?_ | refine callM_new (by with_reducible first | exact c_Equal _ _ _ _ rfl rfl ha.pin) ?_)
        simp [h1, h2, h3]
      · simp [h3]
    · simp [h2]
  · simp [h1]
theorem c_specSameCloth (a b : Clo) (ha : a.Small) (hb : b.Small) (ka : a.Can) (kb : b.Can) : Fun Try.prog 24 [a.av, b.av] [] (.bool (sameC a b)) [] := by
  refine FnSpec.walkF dr_ok Try.func24 rfl (by kernel_rfl) rfl rfl rfl (by simp) ?_
  simp
  (first | refine callG_r ?_ | refine callD_r ?_); simp; (first | refine callN_flat (by with_reducible first | exact c_l10Vectors _ _ _ _ rfl rfl ha.pl ka.pl kb.pl) rfl ?_ | refine callN_new (by with_reducible first | exact c_l10Vectors _ _ _ _ rfl rfl ha.pl ka.pl kb.pl) ?_ | refine callM_flat (by with_reducible first | exact c_l10Vectors _ _ _ _ rfl rfl ha.pl ka.pl kb.pl) rfl ?_ | refine callM_new (by with_reducible first | exact c_l10Vectors _ _ _ _ rfl rfl ha.pl ka.pl kb.pl) ?_)
  unfold sameC
  by_cases h1 : a.pl = b.pl
  · simp [h1]
    (first | refine callG_r ?_ | refine callD_r ?_); simp; (first | refine callN_flat (by with_reducible first | exact c_l10Vectors _ _ _ _ rfl rfl ha.ol ka.ol kb.ol) rfl ?_ | refine callN_new (by with_reducible first | exact c_l10Vectors _ _ _ _ rfl rfl ha.ol ka.ol kb.ol) ?_ | refine callM_flat (by with_reducible first | exact c_l10Vectors _ _ _ _ rfl rfl ha.ol ka.ol kb.ol) rfl ?_ | refine callM_new (by with_reducible first | exact c_l10Vectors _ _ _ _ rfl rfl ha.ol ka.ol kb.ol) ?_)
    by_cases h2 : a.ol = b.ol
    · simp [h2]
      refine ⟨fun e3 => ?_, fun e3 _ e => absurd (by rw [e]) e3⟩
      have e3 : a.th.length = b.th.length := by omega
      (first | refine callG_r ?_ | refine callD_r ?_); simp; (first | refine callN_flat (by with_reducible first | exact c_l00Same _ _ _ _ rfl rfl ha.pin) rfl ?_ | refine callN_new (by with_reducible first | exact c_l00Same _ _ _ _ rfl rfl ha.pin) ?_ | refine callM_flat (by with_reducible first | exact c_l00Same _ _ _ _ rfl rfl ha.pin) rfl ?_ | refine callM_new (by with_reducible first | exact c_l00Same _ _ _ _ rfl rfl ha.pin) ?_)
      by_cases h4 : a.pin = b.pin
      · simp [h4]
        have h3 := ha.th
        refine loopG_of (α := Nat) (fun k => k ≤ a.th.length ∧ a.th.take k = b.th.take k) (fun k => a.th.length - k) (fun k => [(5, .int .i64 k), (2, .ptr 0 0), (3, .ptr 1 0)])
          (fun k => [.blk true true 32 [.view false (cVs b.pl) b.pl.length, .view false (cVs b.ol) b.ol.length, .view false (cTs a.th) a.th.length, .view false (cIs b.pin) b.pin.length],
            .blk true true 32 [.view false (cVs b.pl) b.pl.length, .view false (cVs b.ol) b.ol.length, .view false (cTs b.th) b.th.length, .view false (cIs b.pin) b.pin.length]]) 0 (by simp) ?_ fun k ⟨hk, hi⟩ => ?_
        · (refine weak_gc [(some 0, 0), (some 1, 0)] ?_ ?_ ?_ ?_ ?_ <;> simp)
        have hw := nat_wrap (k := k) (by omega)
        by_cases c : k < a.th.length
        · have c' : k < b.th.length := by omega
          have q1 := ka.th _ (List.getElem_mem c)
          have q2 := kb.th _ (List.getElem_mem c')
          obtain ⟨_, _, q1⟩ := q1
          obtain ⟨_, _, q2⟩ := q2
          have ext : ∀ (x y : Th), x.1 = y.1 → x.2.1 = y.2.1 → x.2.2 = y.2.2 → x = y := fun x y h1 h2 h3 => Prod.ext h1 (Prod.ext h2 h3)
          by_cases g1 : a.th[k].1 = b.th[k].1
          · by_cases g2 : a.th[k].2.1 = b.th[k].2.1
            · simp [c, c', hw, g1, g2]
              (first | refine callG_r ?_ | refine callD_r ?_); simp; (first | refine callN_flat (by with_reducible first | exact c_l01Same q1 q2) rfl ?_ | refine callN_new (by with_reducible first | exact c_l01Same q1 q2) ?_ | refine callM_flat (by with_reducible first | exact c_l01Same q1 q2) rfl ?_ | refine callM_new (by with_reducible first | exact c_l01Same q1 q2) ?_)
              by_cases g3 : a.th[k].2.2 = b.th[k].2.2
              · simp [g3, hw]
                refine loopK_next (k + 1) (by omega) ⟨by omega, take_next e3 c hi (ext _ _ g1 g2 g3)⟩ ?_
                (refine weak_gc [(some 0, 0), (some 1, 0)] ?_ ?_ ?_ ?_ ?_ <;> simp)
              · simp [g3]
                intro _ _ e
                exact absurd e (take_ne c c' (fun e => g3 (by rw [e])))
            · simp [c, c', hw, g1, g2]
              intro _ _ e
              exact absurd e (take_ne c c' (fun e => g2 (by rw [e])))
          · simp [c, c', hw, g1]
            intro _ _ e
            exact absurd e (take_ne c c' (fun e => g1 (by rw [e])))
        · obtain rfl : k = a.th.length := by omega
          rw [List.take_length, e3, List.take_length] at hi
          simp [h1, h2, hi, h4]
      · simp [h4]
    · simp [h2]
  · simp [h1]
end Go.Proofs.Ytafbecgidhoekaa
