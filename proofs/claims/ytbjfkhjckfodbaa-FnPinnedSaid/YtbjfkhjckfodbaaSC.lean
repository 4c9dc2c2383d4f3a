/- Contracts: what is the same. What laws of cloths ask of their own helpers.
Conditions: none. -/
import Derived.Test.YtbjfkhjckfodbaaS7
import Derived.Test.YtbjfkhjckfodbaaOrd
import Derived.Test.YtbjfkhjckfodbaaSA
namespace Go.Proofs.Ytbjfkhjckfodbaa
set_option linter.all false
open Go Go.Awp
set_option maxRecDepth 100000
set_option maxHeartbeats 4000000
set_option pp.deepTerms true

theorem c_Signbit {x : Nat} (h : nanB .f64 x = false) (hx : x < 2 ^ FloatKind.f64.format.width) : Fun Try.prog 86 [.flt .f64 x] [] (.bool (sgB .f64 x)) [] := by
  refine FnSpec.walkF dr_ok Try.func86 rfl (by kernel_rfl) rfl rfl rfl (by simp) ?_
  simp
  (first | refine callG_r ?_ | refine callD_r ?_); simp; (first | refine callN_flat (by with_reducible first | exact c_bits64 h) rfl ?_ | refine callN_new (by with_reducible first | exact c_bits64 h) ?_ | refine callM_flat (by with_reducible first | exact c_bits64 h) rfl ?_ | refine callM_new (by with_reducible first | exact c_bits64 h) ?_)
  simp
  have hx : x < 18446744073709551616 := hx
  have hs : FloatKind.f64.format.signWeight = 9223372036854775808 := by decide +kernel
  unfold sgB
  rw [hs]
  have hw : IntKind.i64.wrap (x : Int) = if x < 9223372036854775808 then (x : Int) else x - 18446744073709551616 := by
    by_cases c : x < 9223372036854775808
    · rw [if_pos c, wrap64 (by omega) (by omega)]
    · rw [if_neg c, IntKind.wrap_i64]; omega
  rw [hw]
  by_cases c : x < 9223372036854775808
  · rw [if_pos c, Nat.div_eq_of_lt c]; simp
  · rw [if_neg c]
    have : x / 9223372036854775808 = 1 := by omega
    rw [this]; simp; omega
theorem can_nan {x : Nat} (h : CanF .f32 x) (hn : nanB .f32 x = true) : x = 2143289344 := by
  rw [← h.1, cn_nan hn]; rfl
theorem c_SameNumber {x y : Nat} (hx : CanF .f32 x) (hy : CanF .f32 y) : Fun Try.prog 53 [.flt .f32 x, .flt .f32 y] [] (.bool (decide (x = y))) [] := by
  refine FnSpec.walkF dr_ok Try.func53 rfl (by kernel_rfl) rfl rfl rfl (by simp) ?_
  cases nx : nanB .f32 x with
  | true =>
    have ex := can_nan hx nx
    have f1 : ford .f32 x x = none := ford_nan_l nx
    cases ny : nanB .f32 y with
    | true =>
      have ey := can_nan hy ny
      have f2 : ford .f32 y y = none := ford_nan_l ny
      subst ex; subst ey
      simp [f1]
    | false =>
      have f2 : ford .f32 y y = some .eq := ford_self ny
      have : x ≠ y := by intro e; rw [e, ny] at nx; cases nx
      simp [f1, f2, this]
  | false =>
    have f1 : ford .f32 x x = some .eq := ford_self nx
    cases ny : nanB .f32 y with
    | true =>
      have f2 : ford .f32 y y = none := ford_nan_l ny
      have : x ≠ y := by intro e; rw [e, ny] at nx; cases nx
      simp [f1, f2, this]
    | false =>
      have f2 : ford .f32 y y = some .eq := ford_self ny
      have hs := same_word hx.2 hy.2 nx ny
      obtain ⟨a1, a2, a3⟩ := wid_sign nx
      obtain ⟨b1, b2, b3⟩ := wid_sign ny
      simp [f1, f2]
      by_cases c : ford .f32 x y = some .eq
      · simp [c]
        (first | refine callG_r ?_ | refine callD_r ?_); simp; (first | refine callN_flat (by with_reducible first | exact c_Signbit a1 a2) rfl ?_ | refine callN_new (by with_reducible first | exact c_Signbit a1 a2) ?_ | refine callM_flat (by with_reducible first | exact c_Signbit a1 a2) rfl ?_ | refine callM_new (by with_reducible first | exact c_Signbit a1 a2) ?_)
        simp
        (first | refine callG_r ?_ | refine callD_r ?_); simp; (first | refine callN_flat (by with_reducible first | exact c_Signbit b1 b2) rfl ?_ | refine callN_new (by with_reducible first | exact c_Signbit b1 b2) ?_ | refine callM_flat (by with_reducible first | exact c_Signbit b1 b2) rfl ?_ | refine callM_new (by with_reducible first | exact c_Signbit b1 b2) ?_)
        simp
        rw [a3, b3]
        rw [Bool.eq_iff_iff]
        simp
        rw [← hs]
        simp [c]
      · simp [c]
        intro e
        exact c (hs.2 e).1
theorem c_SameVector {v w : V} (hv : CanV v) (hw : CanV w) : Fun Try.prog 12 [aV v, aV w] [] (.bool (decide (v = w))) [] := by
  obtain ⟨v1, v2, v3⟩ := v
  obtain ⟨w1, w2, w3⟩ := w
  obtain ⟨h1, h2, h3⟩ := hv
  obtain ⟨g1, g2, g3⟩ := hw
  refine FnSpec.walkF dr_ok Try.func12 rfl (by kernel_rfl) rfl rfl rfl (by simp) ?_
  simp
  (first | refine callG_r ?_ | refine callD_r ?_); simp; (first | refine callN_flat (by with_reducible first | exact c_SameNumber h1 g1) rfl ?_ | refine callN_new (by with_reducible first | exact c_SameNumber h1 g1) ?_ | refine callM_flat (by with_reducible first | exact c_SameNumber h1 g1) rfl ?_ | refine callM_new (by with_reducible first | exact c_SameNumber h1 g1) ?_)
  by_cases e1 : v1 = w1
  · simp [e1]
    (first | refine callG_r ?_ | refine callD_r ?_); simp; (first | refine callN_flat (by with_reducible first | exact c_SameNumber h2 g2) rfl ?_ | refine callN_new (by with_reducible first | exact c_SameNumber h2 g2) ?_ | refine callM_flat (by with_reducible first | exact c_SameNumber h2 g2) rfl ?_ | refine callM_new (by with_reducible first | exact c_SameNumber h2 g2) ?_)
    by_cases e2 : v2 = w2
    · simp [e2]
      (first | refine callG_r ?_ | refine callD_r ?_); simp; (first | refine callN_flat (by with_reducible first | exact c_SameNumber h3 g3) rfl ?_ | refine callN_new (by with_reducible first | exact c_SameNumber h3 g3) ?_ | refine callM_flat (by with_reducible first | exact c_SameNumber h3 g3) rfl ?_ | refine callM_new (by with_reducible first | exact c_SameNumber h3 g3) ?_)
      simp [e1, e2]
    · simp [e2]
  · simp [e1]
theorem c_sameThread {v w : Th} (hv : CanT v) (hw : CanT w) : Fun Try.prog 57 [aT v, aT w] [] (.bool (decide (v = w))) [] := by
  obtain ⟨v1, v2, v3⟩ := v
  obtain ⟨w1, w2, w3⟩ := w
  obtain ⟨_, _, h3⟩ := hv
  obtain ⟨_, _, g3⟩ := hw
  refine FnSpec.walkF dr_ok Try.func57 rfl (by kernel_rfl) rfl rfl rfl (by simp) ?_
  simp
  by_cases e1 : v1 = w1
  · simp [e1]
    by_cases e2 : v2 = w2
    · simp [e2]
      (first | refine callG_r ?_ | refine callD_r ?_); simp; (first | refine callN_flat (by with_reducible first | exact c_SameNumber h3 g3) rfl ?_ | refine callN_new (by with_reducible first | exact c_SameNumber h3 g3) ?_ | refine callM_flat (by with_reducible first | exact c_SameNumber h3 g3) rfl ?_ | refine callM_new (by with_reducible first | exact c_SameNumber h3 g3) ?_)
      simp [e1, e2]
    · simp [e2]
  · simp [e1]
/-- Lists compared one after another. -/
theorem take_next {α : Type} {l l' : List α} {k : Nat} (hl : l.length = l'.length) (h : k < l.length) (ht : l.take k = l'.take k) (he : l[k] = l'[k]'(by omega)) : l.take (k + 1) = l'.take (k + 1) := by
  rw [← List.take_append_getElem h, ← List.take_append_getElem (by omega : k < l'.length), ht, he]
theorem take_ne {α : Type} {l l' : List α} {k : Nat} (h : k < l.length) (h' : k < l'.length) (he : l[k] ≠ l'[k]) : l ≠ l' := by
  intro e; subst e; exact he rfl
theorem c_EqualFuncV (l l' : List V) (n n' : Nat) (hn : n = l.length) (hn' : n' = l'.length) (h1 : l.length ≤ 1048576) (hv : ∀ v ∈ l, CanV v) (hv' : ∀ v ∈ l', CanV v) :
    Fun Try.prog 55 [.view false (cVs l) n, .view false (cVs l') n', .clo 12 [] []] [] (.bool (decide (l = l'))) [] := by
  subst hn; subst hn'
  refine FnSpec.walkF dr_ok Try.func55 rfl (by kernel_rfl) rfl rfl rfl (by simp) ?_
  simp
  by_cases hl : l.length = l'.length
  · simp [hl]
    refine loopG_of (α := Nat) (fun k => k ≤ l.length ∧ l.take k = l'.take k) (fun k => l.length - k) (fun k => [(17, .int .i64 k), (16, .int .i64 l.length), (15, .view false (cVs l) l.length), (1, .view false (cVs l') l'.length), (2, .clo 12 [] [])]) (fun k => []) 0 (by simp) ?_ fun k ⟨hk, hi⟩ => ?_
    · (refine weak_gc [] ?_ ?_ ?_ ?_ ?_ <;> simp [hl])
    have hw := nat_wrap (k := k) (by omega)
    by_cases b : k < l.length
    · have b' : k < l'.length := by omega
      simp [b, b', hw]
      (first | refine callG_r ?_ | refine callD_r ?_); simp; (first | refine callN_flat (by with_reducible first | exact c_SameVector (hv _ (List.getElem_mem b)) (hv' _ (List.getElem_mem b'))) rfl ?_ | refine callN_new (by with_reducible first | exact c_SameVector (hv _ (List.getElem_mem b)) (hv' _ (List.getElem_mem b'))) ?_ | refine callM_flat (by with_reducible first | exact c_SameVector (hv _ (List.getElem_mem b)) (hv' _ (List.getElem_mem b'))) rfl ?_ | refine callM_new (by with_reducible first | exact c_SameVector (hv _ (List.getElem_mem b)) (hv' _ (List.getElem_mem b'))) ?_)
      simp [hw]
      refine ⟨fun e => take_ne b b' e, fun e => loopK_next (k + 1) (by omega) ⟨by omega, take_next hl b hi e⟩ ?_⟩
      (refine weak_gc [] ?_ ?_ ?_ ?_ ?_ <;> simp)
    · obtain rfl : k = l.length := by omega
      simp
      rw [List.take_length, hl, List.take_length] at hi
      exact hi
  · exact ⟨fun _ e => hl (by rw [e]), fun e => absurd (show l.length = l'.length by omega) hl⟩
theorem c_EqualFuncT (l l' : List Th) (n n' : Nat) (hn : n = l.length) (hn' : n' = l'.length) (h1 : l.length ≤ 1048576) (hv : ∀ v ∈ l, CanT v) (hv' : ∀ v ∈ l', CanT v) :
    Fun Try.prog 56 [.view false (cTs l) n, .view false (cTs l') n', .clo 57 [] []] [] (.bool (decide (l = l'))) [] := by
  subst hn; subst hn'
  refine FnSpec.walkF dr_ok Try.func56 rfl (by kernel_rfl) rfl rfl rfl (by simp) ?_
  simp
  by_cases hl : l.length = l'.length
  · simp [hl]
    refine loopG_of (α := Nat) (fun k => k ≤ l.length ∧ l.take k = l'.take k) (fun k => l.length - k) (fun k => [(17, .int .i64 k), (16, .int .i64 l.length), (15, .view false (cTs l) l.length), (1, .view false (cTs l') l'.length), (2, .clo 57 [] [])]) (fun k => []) 0 (by simp) ?_ fun k ⟨hk, hi⟩ => ?_
    · (refine weak_gc [] ?_ ?_ ?_ ?_ ?_ <;> simp [hl])
    have hw := nat_wrap (k := k) (by omega)
    by_cases b : k < l.length
    · have b' : k < l'.length := by omega
      simp [b, b', hw]
      (first | refine callG_r ?_ | refine callD_r ?_); simp; (first | refine callN_flat (by with_reducible first | exact c_sameThread (hv _ (List.getElem_mem b)) (hv' _ (List.getElem_mem b'))) rfl ?_ | refine callN_new (by with_reducible first | exact c_sameThread (hv _ (List.getElem_mem b)) (hv' _ (List.getElem_mem b'))) ?_ | refine callM_flat (by with_reducible first | exact c_sameThread (hv _ (List.getElem_mem b)) (hv' _ (List.getElem_mem b'))) rfl ?_ | refine callM_new (by with_reducible first | exact c_sameThread (hv _ (List.getElem_mem b)) (hv' _ (List.getElem_mem b'))) ?_)
      simp [hw]
      refine ⟨fun e => take_ne b b' e, fun e => loopK_next (k + 1) (by omega) ⟨by omega, take_next hl b hi e⟩ ?_⟩
      (refine weak_gc [] ?_ ?_ ?_ ?_ ?_ <;> simp)
    · obtain rfl : k = l.length := by omega
      simp
      rw [List.take_length, hl, List.take_length] at hi
      exact hi
  · exact ⟨fun _ e => hl (by rw [e]), fun e => absurd (show l.length = l'.length by omega) hl⟩
theorem c_Equal (l l' : List Int) (n n' : Nat) (hn : n = l.length) (hn' : n' = l'.length) (h1 : l.length ≤ 1048576) :
    Fun Try.prog 58 [.view false (cIs l) n, .view false (cIs l') n'] [] (.bool (decide (l = l'))) [] := by
  subst hn; subst hn'
  refine FnSpec.walkF dr_ok Try.func58 rfl (by kernel_rfl) rfl rfl rfl (by simp) ?_
  simp
  by_cases hl : l.length = l'.length
  · simp [hl]
    refine loopG_of (α := Nat) (fun k => k ≤ l.length ∧ l.take k = l'.take k) (fun k => l.length - k) (fun k => [(13, .int .i64 k), (12, .int .i64 l.length), (0, .view false (cIs l) l.length), (1, .view false (cIs l') l'.length)]) (fun k => []) 0 (by simp) ?_ fun k ⟨hk, hi⟩ => ?_
    · (refine weak_gc [] ?_ ?_ ?_ ?_ ?_ <;> simp [hl])
    have hw := nat_wrap (k := k) (by omega)
    by_cases b : k < l.length
    · have b' : k < l'.length := by omega
      simp [b, b', hw]
      refine ⟨fun e => take_ne b b' e, fun e => loopK_next (k + 1) (by omega) ⟨by omega, take_next hl b hi e⟩ ?_⟩
      (refine weak_gc [] ?_ ?_ ?_ ?_ ?_ <;> simp)
    · obtain rfl : k = l.length := by omega
      simp
      rw [List.take_length, hl, List.take_length] at hi
      exact hi
  · exact ⟨fun _ e => hl (by rw [e]), fun e => absurd (show l.length = l'.length by omega) hl⟩
/-- Cloths are the same. -/
def sameC (a b : Clo) : Bool := decide (a.pl = b.pl) && decide (a.ol = b.ol) && decide (a.th = b.th) && decide (a.pin = b.pin)
theorem c_SameCloth (a b : Clo) (ha : a.Small) (hb : b.Small) (ka : a.Can) (kb : b.Can) : Fun Try.prog 15 [a.av, b.av] [] (.bool (sameC a b)) [] := by
  refine FnSpec.walkF dr_ok Try.func15 rfl (by kernel_rfl) rfl rfl rfl (by simp) ?_
  simp
  (first | refine callG_r ?_ | refine callD_r ?_); simp; (first | refine callN_flat (by with_reducible first | exact c_EqualFuncV _ _ _ _ rfl rfl ha.pl ka.pl kb.pl) rfl ?_ | refine callN_new (by with_reducible first | exact c_EqualFuncV _ _ _ _ rfl rfl ha.pl ka.pl kb.pl) ?_ | refine callM_flat (by with_reducible first | exact c_EqualFuncV _ _ _ _ rfl rfl ha.pl ka.pl kb.pl) rfl ?_ | refine callM_new (by with_reducible first | exact c_EqualFuncV _ _ _ _ rfl rfl ha.pl ka.pl kb.pl) ?_)
  unfold sameC
  by_cases h1 : a.pl = b.pl
  · simp [h1]
    (first | refine callG_r ?_ | refine callD_r ?_); simp; (first | refine callN_flat (by with_reducible first | exact c_EqualFuncV _ _ _ _ rfl rfl ha.ol ka.ol kb.ol) rfl ?_ | refine callN_new (by with_reducible first | exact c_EqualFuncV _ _ _ _ rfl rfl ha.ol ka.ol kb.ol) ?_ | refine callM_flat (by with_reducible first | exact c_EqualFuncV _ _ _ _ rfl rfl ha.ol ka.ol kb.ol) rfl ?_ | refine callM_new (by with_reducible first | exact c_EqualFuncV _ _ _ _ rfl rfl ha.ol ka.ol kb.ol) ?_)
    by_cases h2 : a.ol = b.ol
    · simp [h2]
      (first | refine callG_r ?_ | refine callD_r ?_); simp; (first | refine callN_flat (by with_reducible first | exact c_EqualFuncT _ _ _ _ rfl rfl ha.th ka.th kb.th) rfl ?_ | refine callN_new (by with_reducible first | exact c_EqualFuncT _ _ _ _ rfl rfl ha.th ka.th kb.th) ?_ | refine callM_flat (by with_reducible first | exact c_EqualFuncT _ _ _ _ rfl rfl ha.th ka.th kb.th) rfl ?_ | refine callM_new (by with_reducible first | exact c_EqualFuncT _ _ _ _ rfl rfl ha.th ka.th kb.th) ?_)
      by_cases h3 : a.th = b.th
      · simp [h3]
        (first | refine callG_r ?_ | refine callD_r ?_); simp; (first | refine callN_flat (by with_reducible first | exact c_Equal _ _ _ _ rfl rfl ha.pin) rfl ?_ | refine callN_new (by with_reducible first | exact c_Equal _ _ _ _ rfl rfl ha.pin) ?_ | refine callM_flat (by with_reducible first | exact c_Equal _ _ _ _ rfl rfl ha.pin) rfl ?_ | refine callM_new (by with_reducible first | exact c_Equal _ _ _ _ rfl rfl ha.pin) ?_)
        simp [h1, h2, h3]
      · simp [h3]
    · simp [h2]
  · simp [h1]
end Go.Proofs.Ytbjfkhjckfodbaa
namespace Go.Proofs.Ytbjfkhjckfodbaa
set_option linter.all false
open Go Go.Awp
set_option maxRecDepth 100000
set_option maxHeartbeats 8000000
set_option pp.deepTerms true

theorem wf_u8 {n : Int} (h : (Lit.int .u8 n).wf = true) : ∃ m : Nat, m < 256 ∧ n = m := by
  have h2 : Lit.wf (.int .u8 n) = decide (IntKind.u8.min ≤ n ∧ n ≤ IntKind.u8.max) := by simp [Lit.wf]
  rw [h2] at h
  have := of_decide_eq_true h
  have e1 : IntKind.u8.min = 0 := by decide
  have e2 : IntKind.u8.max = 255 := by decide
  rw [e1, e2] at this
  exact ⟨n.toNat, by omega, by omega⟩
theorem opens_By : Opens Try.prog 5 fun l => ∃ n : Nat, n < 256 ∧ l = [.int .u8 (n : Int)] := (opens_int Try.underlying5).mono (by
    rintro l ⟨x, hx, rfl⟩
    obtain ⟨m, hm, rfl⟩ := wf_u8 hx
    exact ⟨m, hm, rfl⟩)
theorem flat_bytes (l : List Nat) : l.flatMap (fun n : Nat => [AV.int .u8 (n : Int)]) = cBy l := by
  induction l with
  | nil => rfl
  | cons a l ih => simp only [List.flatMap_cons, ih]; rfl
theorem opens_Bys : Opens Try.prog 22 fun l => ∃ vs : List Nat, ((∀ v ∈ vs, v < 256) ∧ vs.length ≤ maxLen) ∧ l = [.view false (cBy vs) vs.length] :=
  (opens_slice (enc' := fun n : Nat => [AV.int .u8 (n : Int)]) Try.underlying22 (by kernel_rfl) (by decide : 0 < 1) (fun _ => rfl) opens_By).mono (by
    rintro l ⟨vs, h, rfl⟩
    exact ⟨vs, h, by rw [flat_bytes]⟩)
theorem arg_Bys : ArgOk Try.prog 22 fun a => ∃ vs : List Nat, ((∀ v ∈ vs, v < 256) ∧ vs.length ≤ maxLen) ∧ a = .view false (cBy vs) vs.length :=
  argOk_one (by rw [Try.underlying22]; intro fs h; cases h) (by rw [Try.underlying22]; intro n e h; cases h) (opens_Bys.mono (by
    rintro l ⟨x, hx, rfl⟩
    exact ⟨_, ⟨x, hx, rfl⟩, rfl⟩))
theorem c_r8Long (l m : List Nat) (h1 : l.length ≤ maxLen) (h2 : m.length ≤ maxLen) : Fun Try.prog 8 [.view false (cBy l) l.length, .view false (cBy m) m.length] [] (.bool (decide (48 < l.length) || decide (48 < m.length))) [] := by
  refine FnSpec.walkF dr_ok Try.func8 rfl (by kernel_rfl) rfl rfl rfl (by simp) ?_
  simp
  grind
theorem c_r8In (l : List Int) (n : Int) (h : l.length ≤ 1048576) : Fun Try.prog 14 [.view false (cIs l) l.length, .int .i64 n] [] (.bool (l.any (· == n))) [] := by
  refine FnSpec.walkF dr_ok Try.func14 rfl (by kernel_rfl) rfl rfl rfl (by simp) ?_
  simp
  refine loopG_of (α := Nat) (fun k => k ≤ l.length ∧ (l.take k).any (· == n) = false) (fun k => l.length - k) (fun k => [(0, .view false (cIs l) l.length), (1, .int .i64 n), (5, .int .i64 k)]) (fun k => []) 0 (by simp) (weak_UH (by simp) (by simp)) fun k ⟨hk, hi⟩ => ?_
  have hw := nat_wrap (k := k) (by omega)
  by_cases b : k < l.length
  · simp [b, hw]
    refine ⟨fun e => by rw [← e]; exact List.getElem_mem b, fun e => ?_⟩
    refine loopK_next (k + 1) (by omega) ⟨by omega, ?_⟩ ?_
    · rw [← List.take_append_getElem b, List.any_append, hi]
      simp [e]
    · (refine weak_gc [] ?_ ?_ ?_ ?_ ?_ <;> simp)
  · obtain rfl : k = l.length := by omega
    simp at hi ⊢
    exact hi
/-- What r8At reads. -/
theorem c_r8AtK (l : List Nat) (k n : Nat) (hb : ∀ b ∈ l, b < 256) (hl : l.length ≤ 48) (hn : 1 < n) (hn2 : n ≤ 64) : ∃ x : Nat, x < n ∧ Fun Try.prog 10 [.view false (cBy l) l.length, .int .i64 k, .int .i64 n] [] (.int .i64 x) [] := by
  have c : ¬ n ≤ 1 := by omega
  have cI : ¬ (n : Int) ≤ 1 := by omega
  by_cases d : l.length ≤ k
  · refine ⟨0, by omega, ?_⟩
    have dI : (l.length : Int) ≤ k := by omega
    refine FnSpec.walkF dr_ok Try.func10 rfl (by kernel_rfl) rfl rfl rfl (by simp) ?_
    simp [c, cI, d, dI]
  · have h0 : k < l.length := by omega
    have hx := hb _ (List.getElem_mem h0)
    refine ⟨l[k] % n, Nat.mod_lt _ (by omega), ?_⟩
    have hw : IntKind.i64.wrap ((l[k] : Nat) : Int) = (l[k] : Nat) := wrap64 (by omega) (by omega)
    have hr : ((l[k] : Nat) : Int).tmod n = ((l[k] % n : Nat) : Int) := rfl
    have hn0 : ¬ n = 0 := by omega
    refine FnSpec.walkF dr_ok Try.func10 rfl (by kernel_rfl) rfl rfl rfl (by simp) ?_
    simp [c, cI, h0, hw, hr, hn0, d]
end Go.Proofs.Ytbjfkhjckfodbaa
