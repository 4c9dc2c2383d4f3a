/- Plain law: the places of drawn cloths, when they fall, move, lie on floors; pieces. Contracts: cloths with other pins. Contracts: what is the same. What the law of tears asks of its own helpers.
Conditions: none. -/
import Derived.Test.YtnjpigkijdnpkaaZ4
import Derived.Test.YtnjpigkijdnpkaaZ5
import Derived.Test.YtnjpigkijdnpkaaZ2
import Derived.Test.YtnjpigkijdnpkaaZ1
import Derived.Test.YtnjpigkijdnpkaaZ0
import Derived.Test.YtnjpigkijdnpkaaOrd
namespace Go.Proofs.Ytnjpigkijdnpkaa
set_option linter.all false
open Go Go.Awp
set_option maxRecDepth 100000
set_option maxHeartbeats 8000000

/-- On a floor a place is as high as the greater one of both. -/
theorem floor_ok : ∀ w ∈ List.range 9, ∀ r ∈ List.range 9, ford .f32 (if ford .f32 (fop .add .f32 0 (dZ w)) (dZ r) = some .lt then dZ r else fop .add .f32 0 (dZ w)) (fmax .f32 (fop .add .f32 0 (dZ w)) (dZ r)) = some .eq := by decide +kernel
abbrev g1x : Nat := fop .mul .f32 (fint .f32 1) 1065353216
abbrev g1y : Nat := fop .mul .f32 (fint .f32 0) 1065353216
/-- A place that moves, one that falls from rest. -/
theorem move_x : ∀ u ∈ List.range 5, ford .f32 (fop .add .f32 (fop .add .f32 g1x (dX u)) 1056964608) (fop .add .f32 (fop .add .f32 g1x (dX u)) 1056964608) = some .eq := by decide +kernel
theorem move_y : ∀ u ∈ List.range 5, ford .f32 (fop .add .f32 (fop .add .f32 g1y (dX u)) 0) (fop .add .f32 (fop .add .f32 g1y (dX u)) 0) = some .eq := by decide +kernel
theorem move_z : ∀ w ∈ List.range 9, ford .f32 (fop .add .f32 (fop .add .f32 0 (dZ w)) 0) (fop .add .f32 (fop .add .f32 0 (dZ w)) 0) = some .eq := by decide +kernel
theorem self_x : ∀ u ∈ List.range 5, ford .f32 (fop .add .f32 g1x (dX u)) (fop .add .f32 g1x (dX u)) = some .eq := by decide +kernel
theorem self_y : ∀ u ∈ List.range 5, ford .f32 (fop .add .f32 g1y (dX u)) (fop .add .f32 g1y (dX u)) = some .eq := by decide +kernel
theorem self_z : ∀ w ∈ List.range 9, ford .f32 (fop .add .f32 0 (dZ w)) (fop .add .f32 0 (dZ w)) = some .eq := by decide +kernel
def fallO (x o f : Nat) : Nat := fop .add .f32 (fop .add .f32 x (fop .mul .f32 (fop .sub .f32 x o) 0)) f
theorem fall_x : ∀ u ∈ List.range 5, ford .f32 (fallO (fop .add .f32 g1x (dX u)) g1x 0) (fop .add .f32 (fop .add .f32 g1x (dX u)) 0) = some .eq := by decide +kernel
theorem fall_y : ∀ u ∈ List.range 5, ford .f32 (fallO (fop .add .f32 g1y (dX u)) g1y 0) (fop .add .f32 (fop .add .f32 g1y (dX u)) 0) = some .eq := by decide +kernel
theorem fall_z : ∀ w ∈ List.range 9, ford .f32 (fallO (fop .add .f32 0 (dZ w)) 0 1048576000) (fop .add .f32 (fop .add .f32 0 (dZ w)) 1048576000) = some .eq := by decide +kernel
theorem g22_at1 : (gridC 2 2 1065353216).pl[1]? = some (g1x, g1y, 0) ∧ (gridC 2 2 1065353216).ol[1]? = some (g1x, g1y, 0) := ⟨rfl, rfl⟩
theorem g22_thr : (gridC 2 2 1065353216).th.all (thrB 9) = true ∧ (gridC 2 2 1065353216).th.length ≤ 256 := by decide +kernel
theorem drawn_vld {C : Clo} (h : R8n 9 C.pl C.pin) (h1 : C.ol = g22.ol) (h2 : C.th = g22.th) : vldC C = true := by
  have hP : C.pl.length = 9 := by rw [h.len]; exact g22_len
  have ho : g22.ol.length = 9 := g22_ol
  unfold vldC
  simp only [hP, h1, h2, ho, Bool.and_eq_true, decide_eq_true_eq]
  exact ⟨⟨⟨⟨by omega, trivial⟩, g22_thr.2⟩, g22_thr.1⟩, h.pin⟩
theorem drawn_small {C : Clo} (h : R8n 9 C.pl C.pin) (h1 : C.ol = g22.ol) (h2 : C.th = g22.th) : C.Small := by
  have hP : C.pl.length = 9 := by rw [h.len]; exact g22_len
  have ho : g22.ol.length = 9 := g22_ol
  have ht : g22.th.length ≤ 256 := g22_thr.2
  have := h.few
  exact ⟨by omega, by rw [h1]; omega, by rw [h2]; omega, by omega⟩
/-- Pieces are at least one. -/
theorem char_pos {n : Nat} {R : Nat → Nat → Prop} {xs : List Int} {m : Int} (h : Char n R xs m) (hn : 0 < n) : 1 ≤ m := by
  obtain ⟨cnt, h0, h1, h2⟩ := h.cnt
  have key : ∀ j, j < n → 1 ≤ cnt (j + 1) := by
    intro j
    induction j with
    | zero =>
      intro hj
      rcases h2 0 hj with ⟨⟨k, hk, _⟩, _⟩ | ⟨_, _, e⟩
      · omega
      · rw [e, h0]; omega
    | succ j ih =>
      intro hj
      have := ih (by omega)
      rcases h2 (j + 1) hj with ⟨_, e⟩ | ⟨_, _, e⟩
      · rw [e]; exact this
      · rw [e]; omega
  have := key (n - 1) (by omega)
  rwa [show n - 1 + 1 = n by omega, h1] at this
theorem g22_one : (fin (groups 9 (gridC 2 2 1065353216).th) 9).2 = 1 := by decide +kernel
end Go.Proofs.Ytnjpigkijdnpkaa
namespace Go.Proofs.Ytnjpigkijdnpkaa
set_option linter.all false
open Go Go.Awp
set_option maxRecDepth 100000
set_option maxHeartbeats 4000000
set_option pp.deepTerms true

abbrev pinC (c : Clo) (l : List Int) : Clo := { c with pin := l }
theorem pinC_small {c : Clo} {l : List Int} (hs : c.Small) (hl : l.length ≤ 1048576) : (pinC c l).Small := ⟨hs.pl, hs.ol, hs.th, hl⟩
theorem vld_pin {c : Clo} {l : List Int} (hv : vldC c = true) : vldC (pinC c l) = pinsF c.pl.length (-1) l := by
  unfold vldC at hv
  simp only [Bool.and_eq_true] at hv
  unfold vldC pinC
  dsimp only
  rw [hv.1.1.1.1, hv.1.1.1.2, hv.1.1.2, hv.1.2]; simp
theorem c_PinCloth (c : Clo) (l : List Int) (hl : l.length ≤ 1048576) (hs : c.Small) (hv : (vldC c && pinsF c.pl.length (-1) l) = true) : Fun Try.prog 30 [c.av, .view false (cIs l) l.length] [] (.tup [(pinC c l).own 0, .bool true]) (pinC c l).mem := by
  simp only [Bool.and_eq_true] at hv
  obtain ⟨hv, hp⟩ := hv
  refine FnSpec.walk dr_ok Try.func30 rfl (by kernel_rfl) rfl rfl rfl (by simp) ?_
  simp
  (first | refine callG_r ?_ | refine callD_r ?_); simp; (first | refine callN_flat (by with_reducible first | exact c_ValidCloth c hs) rfl ?_ | refine callN_new (by with_reducible first | exact c_ValidCloth c hs) ?_ | refine callM_flat (by with_reducible first | exact c_ValidCloth c hs) rfl ?_ | refine callM_new (by with_reducible first | exact c_ValidCloth c hs) ?_)
  simp [hv]
  (first | refine callG_r ?_ | refine callD_r ?_); simp; (first | refine callN_flat (by with_reducible first | exact c_copyCloth c hs) rfl ?_ | refine callN_new (by with_reducible first | exact c_copyCloth c hs) ?_ | refine callM_flat (by with_reducible first | exact c_copyCloth c hs) rfl ?_ | refine callM_new (by with_reducible first | exact c_copyCloth c hs) ?_)
  simp
  refine ⟨by omega, by omega, ?_⟩
  (first | refine callG_on true [2, 3, 4, 7] ?_ | refine callD_on true [2, 3, 4, 7] ?_); simp; (first | refine callN_fun (by with_reducible exact c_validCloth (pinC c l) (pinC_small hs hl) (by rw [vld_pin hv]; exact hp)) (by simp) ?_ | refine callMD_fun (by with_reducible exact c_validCloth (pinC c l) (pinC_small hs hl) (by rw [vld_pin hv]; exact hp)) (by simp) ?_)
  simp
  (refine endG_keepT [(some 2, 0), (some 3, 0), (some 4, 0), (some 7, 0)] ?_ ?_ ?_ ?_ ?_ ?_ ?_ ⟨rfl, rfl⟩ ?_ <;> simp)
theorem c_PinCloth0 (c : Clo) (l : List Int) (hl : l.length ≤ 1048576) (hs : c.Small) (hv : (vldC c && pinsF c.pl.length (-1) l) = false) : Fun Try.prog 30 [c.av, .view false (cIs l) l.length] [] (.tup [noC, .bool false]) [] := by
  refine FnSpec.walk dr_ok Try.func30 rfl (by kernel_rfl) rfl rfl rfl (by simp) ?_
  simp
  (first | refine callG_r ?_ | refine callD_r ?_); simp; (first | refine callN_flat (by with_reducible first | exact c_ValidCloth c hs) rfl ?_ | refine callN_new (by with_reducible first | exact c_ValidCloth c hs) ?_ | refine callM_flat (by with_reducible first | exact c_ValidCloth c hs) rfl ?_ | refine callM_new (by with_reducible first | exact c_ValidCloth c hs) ?_)
  cases h : vldC c with
  | false => simp; (refine endG_keepT [] ?_ ?_ ?_ ?_ ?_ ?_ ?_ ⟨rfl, rfl⟩ ?_ <;> simp [noC])
  | true =>
    rw [h] at hv
    simp at hv
    simp
    (first | refine callG_r ?_ | refine callD_r ?_); simp; (first | refine callN_flat (by with_reducible first | exact c_copyCloth c hs) rfl ?_ | refine callN_new (by with_reducible first | exact c_copyCloth c hs) ?_ | refine callM_flat (by with_reducible first | exact c_copyCloth c hs) rfl ?_ | refine callM_new (by with_reducible first | exact c_copyCloth c hs) ?_)
    simp
    refine ⟨by omega, by omega, ?_⟩
    (first | refine callG_on true [2, 3, 4, 7] ?_ | refine callD_on true [2, 3, 4, 7] ?_); simp; (first | refine callN_fun (by with_reducible exact c_validCloth0 (pinC c l) (pinC_small hs hl) (by rw [vld_pin h]; exact hv)) (by simp) ?_ | refine callMD_fun (by with_reducible exact c_validCloth0 (pinC c l) (pinC_small hs hl) (by rw [vld_pin h]; exact hv)) (by simp) ?_)
    simp [noC]
    (refine endG_keepT [] ?_ ?_ ?_ ?_ ?_ ?_ ?_ ⟨rfl, rfl⟩ ?_ <;> simp)
end Go.Proofs.Ytnjpigkijdnpkaa
namespace Go.Proofs.Ytnjpigkijdnpkaa
set_option linter.all false
open Go Go.Awp
set_option maxRecDepth 100000
set_option maxHeartbeats 4000000
set_option pp.deepTerms true

theorem c_Signbit {x : Nat} (h : nanB .f64 x = false) (hx : x < 2 ^ FloatKind.f64.format.width) : Fun Try.prog 87 [.flt .f64 x] [] (.bool (sgB .f64 x)) [] := by
  refine FnSpec.walkF dr_ok Try.func87 rfl (by kernel_rfl) rfl rfl rfl (by simp) ?_
  simp
  (first | refine callG_r ?_ | refine callD_r ?_); simp; (first | refine callN_flat (by with_reducible first | exact c_bits64 h) rfl ?_ | refine callN_new (by with_reducible first | exact c_bits64 h) ?_ | refine callM_flat (by with_reducible first | exact c_bits64 h) rfl ?_ | refine callM_new (by with_reducible first | exact c_bits64 h) ?_)
  simp
  have hx : x < 18446744073709551616 := hx
  have hs : FloatKind.f64.format.signWeight = 9223372036854775808 := by decide +kernel
  unfold sgB
  rw [hs]
  have hw : IntKind.i64.wrap (x : Int) = if x < 9223372036854775808 then (x : Int) else x - 18446744073709551616 := by
    by_cases c : x < 9223372036854775808
    · rw [if_pos c, wrap64 (by omega) (by omega)]
    · rw [if_neg c, IntKind.wrap_i64]; omega
  rw [hw]
  by_cases c : x < 9223372036854775808
  · rw [if_pos c, Nat.div_eq_of_lt c]; simp
  · rw [if_neg c]
    have : x / 9223372036854775808 = 1 := by omega
    rw [this]; simp; omega
theorem can_nan {x : Nat} (h : CanF .f32 x) (hn : nanB .f32 x = true) : x = 2143289344 := by
  rw [← h.1, cn_nan hn]; rfl
theorem c_SameNumber {x y : Nat} (hx : CanF .f32 x) (hy : CanF .f32 y) : Fun Try.prog 60 [.flt .f32 x, .flt .f32 y] [] (.bool (decide (x = y))) [] := by
  refine FnSpec.walkF dr_ok Try.func60 rfl (by kernel_rfl) rfl rfl rfl (by simp) ?_
  cases nx : nanB .f32 x with
  | true =>
    have ex := can_nan hx nx
    have f1 : ford .f32 x x = none := ford_nan_l nx
    cases ny : nanB .f32 y with
    | true =>
      have ey := can_nan hy ny
      have f2 : ford .f32 y y = none := ford_nan_l ny
      subst ex; subst ey
      simp [f1]
    | false =>
      have f2 : ford .f32 y y = some .eq := ford_self ny
      have : x ≠ y := by intro e; rw [e, ny] at nx; cases nx
      simp [f1, f2, this]
  | false =>
    have f1 : ford .f32 x x = some .eq := ford_self nx
    cases ny : nanB .f32 y with
    | true =>
      have f2 : ford .f32 y y = none := ford_nan_l ny
      have : x ≠ y := by intro e; rw [e, ny] at nx; cases nx
      simp [f1, f2, this]
    | false =>
      have f2 : ford .f32 y y = some .eq := ford_self ny
      have hs := same_word hx.2 hy.2 nx ny
      obtain ⟨a1, a2, a3⟩ := wid_sign nx
      obtain ⟨b1, b2, b3⟩ := wid_sign ny
      simp [f1, f2]
      by_cases c : ford .f32 x y = some .eq
      · simp [c]
        (first | refine callG_r ?_ | refine callD_r ?_); simp; (first | refine callN_flat (by with_reducible first | exact c_Signbit a1 a2) rfl ?_ | refine callN_new (by with_reducible first | exact c_Signbit a1 a2) ?_ | refine callM_flat (by with_reducible first | exact c_Signbit a1 a2) rfl ?_ | refine callM_new (by with_reducible first | exact c_Signbit a1 a2) ?_)
        simp
        (first | refine callG_r ?_ | refine callD_r ?_); simp; (first | refine callN_flat (by with_reducible first | exact c_Signbit b1 b2) rfl ?_ | refine callN_new (by with_reducible first | exact c_Signbit b1 b2) ?_ | refine callM_flat (by with_reducible first | exact c_Signbit b1 b2) rfl ?_ | refine callM_new (by with_reducible first | exact c_Signbit b1 b2) ?_)
        simp
        rw [a3, b3]
        rw [Bool.eq_iff_iff]
        simp
        rw [← hs]
        simp [c]
      · simp [c]
        intro e
        exact c (hs.2 e).1
theorem c_SameVector {v w : V} (hv : CanV v) (hw : CanV w) : Fun Try.prog 29 [aV v, aV w] [] (.bool (decide (v = w))) [] := by
  obtain ⟨v1, v2, v3⟩ := v
  obtain ⟨w1, w2, w3⟩ := w
  obtain ⟨h1, h2, h3⟩ := hv
  obtain ⟨g1, g2, g3⟩ := hw
  refine FnSpec.walkF dr_ok Try.func29 rfl (by kernel_rfl) rfl rfl rfl (by simp) ?_
  simp
  (first | refine callG_r ?_ | refine callD_r ?_); simp; (first | refine callN_flat (by with_reducible first | exact c_SameNumber h1 g1) rfl ?_ | refine callN_new (by with_reducible first | exact c_SameNumber h1 g1) ?_ | refine callM_flat (by with_reducible first | exact c_SameNumber h1 g1) rfl ?_ | refine callM_new (by with_reducible first | exact c_SameNumber h1 g1) ?_)
  by_cases e1 : v1 = w1
  · simp [e1]
    (first | refine callG_r ?_ | refine callD_r ?_); simp; (first | refine callN_flat (by with_reducible first | exact c_SameNumber h2 g2) rfl ?_ | refine callN_new (by with_reducible first | exact c_SameNumber h2 g2) ?_ | refine callM_flat (by with_reducible first | exact c_SameNumber h2 g2) rfl ?_ | refine callM_new (by with_reducible first | exact c_SameNumber h2 g2) ?_)
    by_cases e2 : v2 = w2
    · simp [e2]
      (first | refine callG_r ?_ | refine callD_r ?_); simp; (first | refine callN_flat (by with_reducible first | exact c_SameNumber h3 g3) rfl ?_ | refine callN_new (by with_reducible first | exact c_SameNumber h3 g3) ?_ | refine callM_flat (by with_reducible first | exact c_SameNumber h3 g3) rfl ?_ | refine callM_new (by with_reducible first | exact c_SameNumber h3 g3) ?_)
      simp [e1, e2]
    · simp [e2]
  · simp [e1]
/-- Lists compared one after another. -/
theorem take_next {α : Type} {l l' : List α} {k : Nat} (hl : l.length = l'.length) (h : k < l.length) (ht : l.take k = l'.take k) (he : l[k] = l'[k]'(by omega)) : l.take (k + 1) = l'.take (k + 1) := by
  rw [← List.take_append_getElem h, ← List.take_append_getElem (by omega : k < l'.length), ht, he]
theorem take_ne {α : Type} {l l' : List α} {k : Nat} (h : k < l.length) (h' : k < l'.length) (he : l[k] ≠ l'[k]) : l ≠ l' := by
  intro e; subst e; exact he rfl
/-- Cloths are the same. -/
def sameC (a b : Clo) : Bool := decide (a.pl = b.pl) && decide (a.ol = b.ol) && decide (a.th = b.th) && decide (a.pin = b.pin)
end Go.Proofs.Ytnjpigkijdnpkaa
namespace Go.Proofs.Ytnjpigkijdnpkaa
set_option linter.all false
open Go Go.Awp
set_option maxRecDepth 100000
set_option maxHeartbeats 8000000
set_option pp.deepTerms true

theorem wf_u8 {n : Int} (h : (Lit.int .u8 n).wf = true) : ∃ m : Nat, m < 256 ∧ n = m := by
  have h2 : Lit.wf (.int .u8 n) = decide (IntKind.u8.min ≤ n ∧ n ≤ IntKind.u8.max) := by simp [Lit.wf]
  rw [h2] at h
  have := of_decide_eq_true h
  have e1 : IntKind.u8.min = 0 := by decide
  have e2 : IntKind.u8.max = 255 := by decide
  rw [e1, e2] at this
  exact ⟨n.toNat, by omega, by omega⟩
theorem opens_By : Opens Try.prog 5 fun l => ∃ n : Nat, n < 256 ∧ l = [.int .u8 (n : Int)] := (opens_int Try.underlying5).mono (by
    rintro l ⟨x, hx, rfl⟩
    obtain ⟨m, hm, rfl⟩ := wf_u8 hx
    exact ⟨m, hm, rfl⟩)
theorem flat_bytes (l : List Nat) : l.flatMap (fun n : Nat => [AV.int .u8 (n : Int)]) = cBy l := by
  induction l with
  | nil => rfl
  | cons a l ih => simp only [List.flatMap_cons, ih]; rfl
theorem opens_Bys : Opens Try.prog 22 fun l => ∃ vs : List Nat, ((∀ v ∈ vs, v < 256) ∧ vs.length ≤ maxLen) ∧ l = [.view false (cBy vs) vs.length] :=
  (opens_slice (enc' := fun n : Nat => [AV.int .u8 (n : Int)]) Try.underlying22 (by kernel_rfl) (by decide : 0 < 1) (fun _ => rfl) opens_By).mono (by
    rintro l ⟨vs, h, rfl⟩
    exact ⟨vs, h, by rw [flat_bytes]⟩)
theorem arg_Bys : ArgOk Try.prog 22 fun a => ∃ vs : List Nat, ((∀ v ∈ vs, v < 256) ∧ vs.length ≤ maxLen) ∧ a = .view false (cBy vs) vs.length :=
  argOk_one (by rw [Try.underlying22]; intro fs h; cases h) (by rw [Try.underlying22]; intro n e h; cases h) (opens_Bys.mono (by
    rintro l ⟨x, hx, rfl⟩
    exact ⟨_, ⟨x, hx, rfl⟩, rfl⟩))
theorem c_r8Long (l m : List Nat) (h1 : l.length ≤ maxLen) (h2 : m.length ≤ maxLen) : Fun Try.prog 12 [.view false (cBy l) l.length, .view false (cBy m) m.length] [] (.bool (decide (48 < l.length) || decide (48 < m.length))) [] := by
  refine FnSpec.walkF dr_ok Try.func12 rfl (by kernel_rfl) rfl rfl rfl (by simp) ?_
  simp
  grind
theorem c_r8In (l : List Int) (n : Int) (h : l.length ≤ 1048576) : Fun Try.prog 20 [.view false (cIs l) l.length, .int .i64 n] [] (.bool (l.any (· == n))) [] := by
  refine FnSpec.walkF dr_ok Try.func20 rfl (by kernel_rfl) rfl rfl rfl (by simp) ?_
  simp
  refine loopG_of (α := Nat) (fun k => k ≤ l.length ∧ (l.take k).any (· == n) = false) (fun k => l.length - k) (fun k => [(0, .view false (cIs l) l.length), (1, .int .i64 n), (5, .int .i64 k)]) (fun k => []) 0 (by simp) (weak_UH (by simp) (by simp)) fun k ⟨hk, hi⟩ => ?_
  have hw := nat_wrap (k := k) (by omega)
  by_cases b : k < l.length
  · simp [b, hw]
    refine ⟨fun e => by rw [← e]; exact List.getElem_mem b, fun e => ?_⟩
    refine loopK_next (k + 1) (by omega) ⟨by omega, ?_⟩ ?_
    · rw [← List.take_append_getElem b, List.any_append, hi]
      simp [e]
    · (refine weak_gc [] ?_ ?_ ?_ ?_ ?_ <;> simp)
  · obtain rfl : k = l.length := by omega
    simp at hi ⊢
    exact hi
/-- What r8At reads. -/
theorem c_r8AtK (l : List Nat) (k n : Nat) (hb : ∀ b ∈ l, b < 256) (hl : l.length ≤ 48) (hn : 1 < n) (hn2 : n ≤ 64) : ∃ x : Nat, x < n ∧ Fun Try.prog 22 [.view false (cBy l) l.length, .int .i64 k, .int .i64 n] [] (.int .i64 x) [] := by
  have c : ¬ n ≤ 1 := by omega
  have cI : ¬ (n : Int) ≤ 1 := by omega
  by_cases d : l.length ≤ k
  · refine ⟨0, by omega, ?_⟩
    have dI : (l.length : Int) ≤ k := by omega
    refine FnSpec.walkF dr_ok Try.func22 rfl (by kernel_rfl) rfl rfl rfl (by simp) ?_
    simp [c, cI, d, dI]
  · have h0 : k < l.length := by omega
    have hx := hb _ (List.getElem_mem h0)
    refine ⟨l[k] % n, Nat.mod_lt _ (by omega), ?_⟩
    have hw : IntKind.i64.wrap ((l[k] : Nat) : Int) = (l[k] : Nat) := wrap64 (by omega) (by omega)
    have hr : ((l[k] : Nat) : Int).tmod n = ((l[k] % n : Nat) : Int) := rfl
    have hn0 : ¬ n = 0 := by omega
    refine FnSpec.walkF dr_ok Try.func22 rfl (by kernel_rfl) rfl rfl rfl (by simp) ?_
    simp [c, cI, h0, hw, hr, hn0, d]
end Go.Proofs.Ytnjpigkijdnpkaa
