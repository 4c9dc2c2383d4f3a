/- Great modes, as the program reckons them. Soft modes, as the program reckons them. The greatest mode, as the program and the reference return it. The softest mode, as the program and the reference return it.
Conditions: none. -/
import Derived.Test.YtnpflgeenecaeaaGreatW8
namespace Go.Proofs.YtnpflgeenecaeaaGreat
set_option linter.all false
open Go Go.Awp
set_option maxRecDepth 100000
set_option maxHeartbeats 4000000
set_option pp.deepTerms true

/-- Rounds of a mode. -/
def modR (f : List V → List V) : Nat → List V → Option (List V)
  | 0, v => if posB (innL v v) then some v else none
  | r + 1, v => if nrmK (f v) then modR f r (nrmL (f v)) else none
theorem modR_len {f : List V → List V} (hf : ∀ v, (f v).length = v.length) : ∀ {r : Nat} {v W : List V}, modR f r v = some W → W.length = v.length
  | 0, v, W, h => by
    unfold modR at h
    split at h
    · cases h; rfl
    · cases h
  | r + 1, v, W, h => by
    unfold modR at h
    split at h
    · rw [modR_len hf h, nrmL_len, hf]
    · cases h
theorem ite_one {α : Type} {p : Bool} {a : α} (h : (if p = true then some a else none) = (none : Option α)) : p = false := by
  cases p with
  | false => rfl
  | true => cases h
theorem ite_two {α : Type} {p : Bool} {a b : α} (h : (if p = true then some a else none) = some b) : p = true ∧ a = b := by
  cases p with
  | false => cases h
  | true => exact ⟨rfl, by injection h⟩
theorem c_modeByG0 (b : Bod) (held : List Int) (v : List V) (step : Nat) (hs : b.Small) (hv : vldB b = true) (hl : v.length = b.me.pl.length) (hh : held.length ≤ 1048576) (hp : ∀ p ∈ held, 0 ≤ p ∧ p < b.me.pl.length) (hW : posB (innL v v) = true) :
    Fun Tryz.prog 72 [b.av, .view false (cIs held) held.length, .slc 0 0 v.length 3, .flt .f32 step, .int .i64 0, gClo b held step] [.blk false false 41 (cVs v)] (.tup [.slc 0 0 v.length 3, .flt .f32 (rayL b held v step), .bool true]) [.blk false false 41 (cVs v)] := by
  have htkv : v.take v.length = v := List.take_of_length_le (by omega)
  refine FnSpec.walk dr_ok Tryz.func72 rfl (by kernel_rfl) rfl rfl rfl (by simp) ?_
  simp
  refine loopG_of (α := Nat) (fun k => k = 0) (fun k => 0) (fun k => [(20, .int .i64 0), (19, .int .i64 0), (1, .view false (cIs held) held.length), (2, .slc 0 0 v.length 3), (3, .flt .f32 step), (6, .ptr 1 0)]) (fun k => [.blk false false 41 (cVs v), .blk true true 43 b.cells]) 0 rfl ?_ fun k hk => ?_
  · (refine weak_gc [(some 1, 0)] ?_ ?_ ?_ ?_ ?_ <;> simp)
  simp
  refine callG_r ?_
  simp [htkv]
  refine callN_flat (c_rayleigh b held v step hs hv hl hh hp) rfl ?_
  simp [hW]
  (refine endG_keepT [] ?_ ?_ ?_ ?_ ?_ ?_ ?_ ⟨rfl, rfl⟩ ?_ <;> simp)
theorem c_modeByG1 (b : Bod) (held : List Int) (v : List V) (step : Nat) (hs : b.Small) (hv : vldB b = true) (hl : v.length = b.me.pl.length) (hh : held.length ≤ 1048576) (hp : ∀ p ∈ held, 0 ≤ p ∧ p < b.me.pl.length) (r : Nat) (hr : r < 40) (W : List V) (hW : modR (fun w => timB b held w step) (r + 1) v = some W) :
    Fun Tryz.prog 72 [b.av, .view false (cIs held) held.length, .slc 0 0 v.length 3, .flt .f32 step, .int .i64 (r + 1 : Nat), gClo b held step] [.blk false false 41 (cVs v)] (.tup [.slc 1 0 v.length 3, .flt .f32 (rayL b held W step), .bool true]) [.blk false false 41 (cVs v), .blk true false 41 (cVs W)] := by
  have hpl := (vldB_of hv).pl
  refine FnSpec.walk dr_ok Tryz.func72 rfl (by kernel_rfl) rfl rfl rfl (by simp) ?_
  simp
  refine loopG_of (α := Nat × List V) (fun x => x.1 ≤ (r + 1) ∧ x.2.length = v.length ∧ modR (fun w => timB b held w step) ((r + 1) - x.1) x.2 = some W ∧ (x.1 = 0 → x.2 = v)) (fun x => (r + 1) - x.1)
    (fun x => match x with
      | (0, _) => [(20, .int .i64 0), (19, .int .i64 ((r + 1) : Nat)), (1, .view false (cIs held) held.length), (2, .slc 0 0 v.length 3), (3, .flt .f32 step), (5, gClo b held step), (6, .ptr 1 0)]
      | (k + 1, _) => [(20, .int .i64 (k + 1 : Nat)), (19, .int .i64 ((r + 1) : Nat)), (1, .view false (cIs held) held.length), (2, .slc 2 0 v.length 3), (3, .flt .f32 step), (5, gClo b held step), (6, .ptr 1 0)])
    (fun x => match x with
      | (0, _) => [.blk false false 41 (cVs v), .blk true true 43 b.cells]
      | (k + 1, w) => [.blk false false 41 (cVs v), .blk true true 43 b.cells, .blk true false 41 (cVs w)]) (0, v) ⟨by simp, rfl, by simpa using hW, fun _ => rfl⟩ ?_ fun x ⟨hx1, hx2, hx3, hx4⟩ => ?_
  · (refine weak_gc [(some 1, 0)] ?_ ?_ ?_ ?_ ?_ <;> simp)
  obtain ⟨k, w⟩ := x
  simp only at hx1 hx2 hx3 hx4
  have htk : w.take v.length = w := List.take_of_length_le (by omega)
  have w1 : IntKind.i64.wrap 1 = 1 := wrap64 (by omega) (by omega)
  have hfl : (timB b held w step).length = v.length := by rw [timB_len]; exact hx2
  have hftk : (timB b held w step).take v.length = timB b held w step := List.take_of_length_le (by omega)
  have kC := c_gClo b held _ step _ hx2 hs hv (by omega) hh hp
  cases k with
  | zero =>
    obtain rfl := hx4 rfl
    have htkv : w.take w.length = w := List.take_of_length_le (by omega)
    by_cases c : 0 < r + 1
    · have c3 : (0 : Int) < (((r + 1) : Nat) : Int) := by omega
      simp [c, c3, htk, htkv]
      refine callG_r ?_
      simp [htk, htkv]
      refine callN_new kC ?_
      simp [htk, htkv]
      refine callG_r ?_
      simp [hftk]
      have e : (r + 1) - 0 = (r + 1) - 1 + 1 := by omega
      rw [e] at hx3
      unfold modR at hx3
      cases hn : nrmK (timB b held w step) with
      | true =>
        rw [hn, if_pos rfl] at hx3
        refine callN_new (c_Norm _ _ hfl (by omega) hn) ?_
        simp
        refine loopK_next (1, nrmL (timB b held w step)) (by show (r + 1) - 1 < (r + 1) - 0; omega) ⟨by show 1 ≤ (r + 1); omega, by show (nrmL _).length = _; rw [nrmL_len]; exact hfl, hx3, fun h => by cases h⟩ ?_
        (refine weak_gc [(some 1, 0), (some 3, 0)] ?_ ?_ ?_ ?_ ?_ <;> simp [w1])
      | false =>
        rw [hn] at hx3
        cases hx3
    · omega
  | succ k =>
    have htkv : w.take v.length = w := htk
    have hw : IntKind.i64.wrap ((k : Int) + 1 + 1) = (k : Int) + 1 + 1 := wrap64 (by omega) (by omega)
    have hw2 : IntKind.i64.wrap ((k : Int) + 2) = (k : Int) + 2 := wrap64 (by omega) (by omega)
    by_cases c : k < r
    · have c3 : ¬ r ≤ k := by omega
      simp [c, c3, htk, htkv]
      refine callG_r ?_
      simp [htk, htkv]
      refine callN_new kC ?_
      simp [htk, htkv]
      refine callG_r ?_
      simp [hftk]
      have e : (r + 1) - (k + 1) = (r + 1) - (k + 1 + 1) + 1 := by omega
      rw [e] at hx3
      unfold modR at hx3
      cases hn : nrmK (timB b held w step) with
      | true =>
        rw [hn, if_pos rfl] at hx3
        refine callN_new (c_Norm _ _ hfl (by omega) hn) ?_
        simp
        refine loopK_next ((k + 1 + 1), nrmL (timB b held w step)) (by show (r + 1) - (k + 1 + 1) < (r + 1) - (k + 1); omega) ⟨by show (k + 1 + 1) ≤ (r + 1); omega, by show (nrmL _).length = _; rw [nrmL_len]; exact hfl, hx3, fun h => by cases h⟩ ?_
        (refine weak_gc [(some 1, 0), (some 4, 0)] ?_ ?_ ?_ ?_ ?_ <;> simp [hw, hw2, Int.add_assoc])
      | false =>
        rw [hn] at hx3
        cases hx3
    · have c3 : r ≤ k := by omega
      rw [show (r + 1) - (k + 1) = 0 by omega] at hx3
      obtain ⟨hpz, rfl⟩ := ite_two (p := posB (innL w w)) hx3
      simp [c, c3]
      refine callG_r ?_
      simp [htk]
      have kR := c_rayleigh b held w step hs hv (by omega) hh hp
      rw [hx2] at kR
      refine callN_flat kR rfl ?_
      simp [hpz]
      (refine endG_keepT [(some 2, 0)] ?_ ?_ ?_ ?_ ?_ ?_ ?_ ⟨rfl, rfl⟩ ?_ <;> simp)

theorem c_modeByGF (b : Bod) (held : List Int) (v : List V) (step : Nat) (hs : b.Small) (hv : vldB b = true) (hl : v.length = b.me.pl.length) (hh : held.length ≤ 1048576) (hp : ∀ p ∈ held, 0 ≤ p ∧ p < b.me.pl.length) (r : Nat) (hr : r ≤ 40) (hW : modR (fun w => timB b held w step) r v = none) :
    Fun Tryz.prog 72 [b.av, .view false (cIs held) held.length, .slc 0 0 v.length 3, .flt .f32 step, .int .i64 (r : Nat), gClo b held step] [.blk false false 41 (cVs v)] (.tup [.nils, .flt .f32 0, .bool false]) [.blk false false 41 (cVs v)] := by
  have hpl := (vldB_of hv).pl
  refine FnSpec.walk dr_ok Tryz.func72 rfl (by kernel_rfl) rfl rfl rfl (by simp) ?_
  simp
  refine loopG_of (α := Nat × List V) (fun x => x.1 ≤ r ∧ x.2.length = v.length ∧ modR (fun w => timB b held w step) (r - x.1) x.2 = none ∧ (x.1 = 0 → x.2 = v)) (fun x => r - x.1)
    (fun x => match x with
      | (0, _) => [(20, .int .i64 0), (19, .int .i64 (r : Nat)), (1, .view false (cIs held) held.length), (2, .slc 0 0 v.length 3), (3, .flt .f32 step), (5, gClo b held step), (6, .ptr 1 0)]
      | (k + 1, _) => [(20, .int .i64 (k + 1 : Nat)), (19, .int .i64 (r : Nat)), (1, .view false (cIs held) held.length), (2, .slc 2 0 v.length 3), (3, .flt .f32 step), (5, gClo b held step), (6, .ptr 1 0)])
    (fun x => match x with
      | (0, _) => [.blk false false 41 (cVs v), .blk true true 43 b.cells]
      | (k + 1, w) => [.blk false false 41 (cVs v), .blk true true 43 b.cells, .blk true false 41 (cVs w)]) (0, v) ⟨by simp, rfl, by simpa using hW, fun _ => rfl⟩ ?_ fun x ⟨hx1, hx2, hx3, hx4⟩ => ?_
  · (refine weak_gc [(some 1, 0)] ?_ ?_ ?_ ?_ ?_ <;> simp)
  obtain ⟨k, w⟩ := x
  simp only at hx1 hx2 hx3 hx4
  have htk : w.take v.length = w := List.take_of_length_le (by omega)
  have w1 : IntKind.i64.wrap 1 = 1 := wrap64 (by omega) (by omega)
  have hfl : (timB b held w step).length = v.length := by rw [timB_len]; exact hx2
  have hftk : (timB b held w step).take v.length = timB b held w step := List.take_of_length_le (by omega)
  have kC := c_gClo b held _ step _ hx2 hs hv (by omega) hh hp
  cases k with
  | zero =>
    obtain rfl := hx4 rfl
    have htkv : w.take w.length = w := List.take_of_length_le (by omega)
    by_cases c : 0 < r
    · have c3 : (0 : Int) < ((r : Nat) : Int) := by omega
      simp [c, c3, htk, htkv]
      refine callG_r ?_
      simp [htk, htkv]
      refine callN_new kC ?_
      simp [htk, htkv]
      refine callG_r ?_
      simp [hftk]
      have e : r - 0 = r - 1 + 1 := by omega
      rw [e] at hx3
      unfold modR at hx3
      cases hn : nrmK (timB b held w step) with
      | true =>
        rw [hn, if_pos rfl] at hx3
        refine callN_new (c_Norm _ _ hfl (by omega) hn) ?_
        simp
        refine loopK_next (1, nrmL (timB b held w step)) (by show r - 1 < r - 0; omega) ⟨by show 1 ≤ r; omega, by show (nrmL _).length = _; rw [nrmL_len]; exact hfl, hx3, fun h => by cases h⟩ ?_
        (refine weak_gc [(some 1, 0), (some 3, 0)] ?_ ?_ ?_ ?_ ?_ <;> simp [w1])
      | false =>
        refine callN_flat (c_Norm0 _ _ hfl (by omega) hn) rfl ?_
        simp
        (refine endG_keepT [] ?_ ?_ ?_ ?_ ?_ ?_ ?_ ⟨rfl, rfl⟩ ?_ <;> simp)
    · obtain rfl : r = 0 := by omega
      have hpz : posB (innL w w) = false := ite_one hx3
      simp
      refine callG_r ?_
      simp [htk, htkv]
      refine callN_flat (c_rayleigh b held w step hs hv hl hh hp) rfl ?_
      simp [hpz]
      (refine endG_keepT [] ?_ ?_ ?_ ?_ ?_ ?_ ?_ ⟨rfl, rfl⟩ ?_ <;> simp)
  | succ k =>
    have htkv : w.take v.length = w := htk
    have hw : IntKind.i64.wrap ((k : Int) + 1 + 1) = (k : Int) + 1 + 1 := wrap64 (by omega) (by omega)
    have hw2 : IntKind.i64.wrap ((k : Int) + 2) = (k : Int) + 2 := wrap64 (by omega) (by omega)
    by_cases c : k + 1 < r
    · have c3 : ¬ r ≤ k + 1 := by omega
      have c4 : (k : Int) + 1 < (r : Int) := by omega
      have c5 : ¬ (r : Int) ≤ (k : Int) + 1 := by omega
      simp [c, c3, c4, c5, htk, htkv]
      refine callG_r ?_
      simp [htk, htkv]
      refine callN_new kC ?_
      simp [htk, htkv]
      refine callG_r ?_
      simp [hftk]
      have e : r - (k + 1) = r - (k + 1 + 1) + 1 := by omega
      rw [e] at hx3
      unfold modR at hx3
      cases hn : nrmK (timB b held w step) with
      | true =>
        rw [hn, if_pos rfl] at hx3
        refine callN_new (c_Norm _ _ hfl (by omega) hn) ?_
        simp
        refine loopK_next ((k + 1 + 1), nrmL (timB b held w step)) (by show r - (k + 1 + 1) < r - (k + 1); omega) ⟨by show (k + 1 + 1) ≤ r; omega, by show (nrmL _).length = _; rw [nrmL_len]; exact hfl, hx3, fun h => by cases h⟩ ?_
        (refine weak_gc [(some 1, 0), (some 4, 0)] ?_ ?_ ?_ ?_ ?_ <;> simp [hw, hw2, Int.add_assoc])
      | false =>
        refine callN_flat (c_Norm0 _ _ hfl (by omega) hn) rfl ?_
        simp
        (refine endG_keepT [] ?_ ?_ ?_ ?_ ?_ ?_ ?_ ⟨rfl, rfl⟩ ?_ <;> simp)
    · have c3 : r ≤ k + 1 := by omega
      rw [show r - (k + 1) = 0 by omega] at hx3
      have hpz : posB (innL w w) = false := ite_one hx3
      have c4 : ¬ (k : Int) + 1 < (r : Int) := by omega
      have c5 : (r : Int) ≤ (k : Int) + 1 := by omega
      simp [c, c3, c4, c5]
      refine callG_r ?_
      simp [htk]
      have kR := c_rayleigh b held w step hs hv (by omega) hh hp
      rw [hx2] at kR
      refine callN_flat kR rfl ?_
      simp [hpz]
      (refine endG_keepT [] ?_ ?_ ?_ ?_ ?_ ?_ ?_ ⟨rfl, rfl⟩ ?_ <;> simp)

end Go.Proofs.YtnpflgeenecaeaaGreat
namespace Go.Proofs.YtnpflgeenecaeaaGreat
set_option linter.all false
open Go Go.Awp
set_option maxRecDepth 100000
set_option maxHeartbeats 4000000
set_option pp.deepTerms true

abbrev sClo (b : Bod) (held : List Int) (step shift : Nat) : AV := .clo 74 [] [.vptr false b.cells, .vptr false [.view false (cIs held) held.length], .vptr false [.flt .f32 step], .vptr false [.flt .f32 shift]]
theorem c_modeByS0 (b : Bod) (held : List Int) (v : List V) (step shift : Nat) (hs : b.Small) (hv : vldB b = true) (hl : v.length = b.me.pl.length) (hh : held.length ≤ 1048576) (hp : ∀ p ∈ held, 0 ≤ p ∧ p < b.me.pl.length) (hW : posB (innL v v) = true) :
    Fun Tryz.prog 72 [b.av, .view false (cIs held) held.length, .slc 0 0 v.length 3, .flt .f32 step, .int .i64 0, sClo b held step shift] [.blk false false 41 (cVs v)] (.tup [.slc 0 0 v.length 3, .flt .f32 (rayL b held v step), .bool true]) [.blk false false 41 (cVs v)] := by
  have htkv : v.take v.length = v := List.take_of_length_le (by omega)
  refine FnSpec.walk dr_ok Tryz.func72 rfl (by kernel_rfl) rfl rfl rfl (by simp) ?_
  simp
  refine loopG_of (α := Nat) (fun k => k = 0) (fun k => 0) (fun k => [(20, .int .i64 0), (19, .int .i64 0), (1, .view false (cIs held) held.length), (2, .slc 0 0 v.length 3), (3, .flt .f32 step), (6, .ptr 1 0)]) (fun k => [.blk false false 41 (cVs v), .blk true true 43 b.cells]) 0 rfl ?_ fun k hk => ?_
  · (refine weak_gc [(some 1, 0)] ?_ ?_ ?_ ?_ ?_ <;> simp)
  simp
  refine callG_r ?_
  simp [htkv]
  refine callN_flat (c_rayleigh b held v step hs hv hl hh hp) rfl ?_
  simp [hW]
  (refine endG_keepT [] ?_ ?_ ?_ ?_ ?_ ?_ ?_ ⟨rfl, rfl⟩ ?_ <;> simp)
theorem c_modeByS1 (b : Bod) (held : List Int) (v : List V) (step shift : Nat) (hs : b.Small) (hv : vldB b = true) (hl : v.length = b.me.pl.length) (hh : held.length ≤ 1048576) (hp : ∀ p ∈ held, 0 ≤ p ∧ p < b.me.pl.length) (r : Nat) (hr : r < 40) (W : List V) (hW : modR (fun w => sofB b held w step shift) (r + 1) v = some W) :
    Fun Tryz.prog 72 [b.av, .view false (cIs held) held.length, .slc 0 0 v.length 3, .flt .f32 step, .int .i64 (r + 1 : Nat), sClo b held step shift] [.blk false false 41 (cVs v)] (.tup [.slc 1 0 v.length 3, .flt .f32 (rayL b held W step), .bool true]) [.blk false false 41 (cVs v), .blk true false 41 (cVs W)] := by
  have hpl := (vldB_of hv).pl
  refine FnSpec.walk dr_ok Tryz.func72 rfl (by kernel_rfl) rfl rfl rfl (by simp) ?_
  simp
  refine loopG_of (α := Nat × List V) (fun x => x.1 ≤ (r + 1) ∧ x.2.length = v.length ∧ modR (fun w => sofB b held w step shift) ((r + 1) - x.1) x.2 = some W ∧ (x.1 = 0 → x.2 = v)) (fun x => (r + 1) - x.1)
    (fun x => match x with
      | (0, _) => [(20, .int .i64 0), (19, .int .i64 ((r + 1) : Nat)), (1, .view false (cIs held) held.length), (2, .slc 0 0 v.length 3), (3, .flt .f32 step), (5, sClo b held step shift), (6, .ptr 1 0)]
      | (k + 1, _) => [(20, .int .i64 (k + 1 : Nat)), (19, .int .i64 ((r + 1) : Nat)), (1, .view false (cIs held) held.length), (2, .slc 2 0 v.length 3), (3, .flt .f32 step), (5, sClo b held step shift), (6, .ptr 1 0)])
    (fun x => match x with
      | (0, _) => [.blk false false 41 (cVs v), .blk true true 43 b.cells]
      | (k + 1, w) => [.blk false false 41 (cVs v), .blk true true 43 b.cells, .blk true false 41 (cVs w)]) (0, v) ⟨by simp, rfl, by simpa using hW, fun _ => rfl⟩ ?_ fun x ⟨hx1, hx2, hx3, hx4⟩ => ?_
  · (refine weak_gc [(some 1, 0)] ?_ ?_ ?_ ?_ ?_ <;> simp)
  obtain ⟨k, w⟩ := x
  simp only at hx1 hx2 hx3 hx4
  have htk : w.take v.length = w := List.take_of_length_le (by omega)
  have w1 : IntKind.i64.wrap 1 = 1 := wrap64 (by omega) (by omega)
  have hfl : (sofB b held w step shift).length = v.length := by rw [sofB_len]; exact hx2
  have hftk : (sofB b held w step shift).take v.length = sofB b held w step shift := List.take_of_length_le (by omega)
  have kC := c_sClo b held _ step shift _ hx2 hs hv (by omega) hh hp
  cases k with
  | zero =>
    obtain rfl := hx4 rfl
    have htkv : w.take w.length = w := List.take_of_length_le (by omega)
    by_cases c : 0 < r + 1
    · have c3 : (0 : Int) < (((r + 1) : Nat) : Int) := by omega
      simp [c, c3, htk, htkv]
      refine callG_r ?_
      simp [htk, htkv]
      refine callN_new kC ?_
      simp [htk, htkv]
      refine callG_r ?_
      simp [hftk]
      have e : (r + 1) - 0 = (r + 1) - 1 + 1 := by omega
      rw [e] at hx3
      unfold modR at hx3
      cases hn : nrmK (sofB b held w step shift) with
      | true =>
        rw [hn, if_pos rfl] at hx3
        refine callN_new (c_Norm _ _ hfl (by omega) hn) ?_
        simp
        refine loopK_next (1, nrmL (sofB b held w step shift)) (by show (r + 1) - 1 < (r + 1) - 0; omega) ⟨by show 1 ≤ (r + 1); omega, by show (nrmL _).length = _; rw [nrmL_len]; exact hfl, hx3, fun h => by cases h⟩ ?_
        (refine weak_gc [(some 1, 0), (some 3, 0)] ?_ ?_ ?_ ?_ ?_ <;> simp [w1])
      | false =>
        rw [hn] at hx3
        cases hx3
    · omega
  | succ k =>
    have htkv : w.take v.length = w := htk
    have hw : IntKind.i64.wrap ((k : Int) + 1 + 1) = (k : Int) + 1 + 1 := wrap64 (by omega) (by omega)
    have hw2 : IntKind.i64.wrap ((k : Int) + 2) = (k : Int) + 2 := wrap64 (by omega) (by omega)
    by_cases c : k < r
    · have c3 : ¬ r ≤ k := by omega
      simp [c, c3, htk, htkv]
      refine callG_r ?_
      simp [htk, htkv]
      refine callN_new kC ?_
      simp [htk, htkv]
      refine callG_r ?_
      simp [hftk]
      have e : (r + 1) - (k + 1) = (r + 1) - (k + 1 + 1) + 1 := by omega
      rw [e] at hx3
      unfold modR at hx3
      cases hn : nrmK (sofB b held w step shift) with
      | true =>
        rw [hn, if_pos rfl] at hx3
        refine callN_new (c_Norm _ _ hfl (by omega) hn) ?_
        simp
        refine loopK_next ((k + 1 + 1), nrmL (sofB b held w step shift)) (by show (r + 1) - (k + 1 + 1) < (r + 1) - (k + 1); omega) ⟨by show (k + 1 + 1) ≤ (r + 1); omega, by show (nrmL _).length = _; rw [nrmL_len]; exact hfl, hx3, fun h => by cases h⟩ ?_
        (refine weak_gc [(some 1, 0), (some 4, 0)] ?_ ?_ ?_ ?_ ?_ <;> simp [hw, hw2, Int.add_assoc])
      | false =>
        rw [hn] at hx3
        cases hx3
    · have c3 : r ≤ k := by omega
      rw [show (r + 1) - (k + 1) = 0 by omega] at hx3
      obtain ⟨hpz, rfl⟩ := ite_two (p := posB (innL w w)) hx3
      simp [c, c3]
      refine callG_r ?_
      simp [htk]
      have kR := c_rayleigh b held w step hs hv (by omega) hh hp
      rw [hx2] at kR
      refine callN_flat kR rfl ?_
      simp [hpz]
      (refine endG_keepT [(some 2, 0)] ?_ ?_ ?_ ?_ ?_ ?_ ?_ ⟨rfl, rfl⟩ ?_ <;> simp)

theorem c_modeBySF (b : Bod) (held : List Int) (v : List V) (step shift : Nat) (hs : b.Small) (hv : vldB b = true) (hl : v.length = b.me.pl.length) (hh : held.length ≤ 1048576) (hp : ∀ p ∈ held, 0 ≤ p ∧ p < b.me.pl.length) (r : Nat) (hr : r ≤ 40) (hW : modR (fun w => sofB b held w step shift) r v = none) :
    Fun Tryz.prog 72 [b.av, .view false (cIs held) held.length, .slc 0 0 v.length 3, .flt .f32 step, .int .i64 (r : Nat), sClo b held step shift] [.blk false false 41 (cVs v)] (.tup [.nils, .flt .f32 0, .bool false]) [.blk false false 41 (cVs v)] := by
  have hpl := (vldB_of hv).pl
  refine FnSpec.walk dr_ok Tryz.func72 rfl (by kernel_rfl) rfl rfl rfl (by simp) ?_
  simp
  refine loopG_of (α := Nat × List V) (fun x => x.1 ≤ r ∧ x.2.length = v.length ∧ modR (fun w => sofB b held w step shift) (r - x.1) x.2 = none ∧ (x.1 = 0 → x.2 = v)) (fun x => r - x.1)
    (fun x => match x with
      | (0, _) => [(20, .int .i64 0), (19, .int .i64 (r : Nat)), (1, .view false (cIs held) held.length), (2, .slc 0 0 v.length 3), (3, .flt .f32 step), (5, sClo b held step shift), (6, .ptr 1 0)]
      | (k + 1, _) => [(20, .int .i64 (k + 1 : Nat)), (19, .int .i64 (r : Nat)), (1, .view false (cIs held) held.length), (2, .slc 2 0 v.length 3), (3, .flt .f32 step), (5, sClo b held step shift), (6, .ptr 1 0)])
    (fun x => match x with
      | (0, _) => [.blk false false 41 (cVs v), .blk true true 43 b.cells]
      | (k + 1, w) => [.blk false false 41 (cVs v), .blk true true 43 b.cells, .blk true false 41 (cVs w)]) (0, v) ⟨by simp, rfl, by simpa using hW, fun _ => rfl⟩ ?_ fun x ⟨hx1, hx2, hx3, hx4⟩ => ?_
  · (refine weak_gc [(some 1, 0)] ?_ ?_ ?_ ?_ ?_ <;> simp)
  obtain ⟨k, w⟩ := x
  simp only at hx1 hx2 hx3 hx4
  have htk : w.take v.length = w := List.take_of_length_le (by omega)
  have w1 : IntKind.i64.wrap 1 = 1 := wrap64 (by omega) (by omega)
  have hfl : (sofB b held w step shift).length = v.length := by rw [sofB_len]; exact hx2
  have hftk : (sofB b held w step shift).take v.length = sofB b held w step shift := List.take_of_length_le (by omega)
  have kC := c_sClo b held _ step shift _ hx2 hs hv (by omega) hh hp
  cases k with
  | zero =>
    obtain rfl := hx4 rfl
    have htkv : w.take w.length = w := List.take_of_length_le (by omega)
    by_cases c : 0 < r
    · have c3 : (0 : Int) < ((r : Nat) : Int) := by omega
      simp [c, c3, htk, htkv]
      refine callG_r ?_
      simp [htk, htkv]
      refine callN_new kC ?_
      simp [htk, htkv]
      refine callG_r ?_
      simp [hftk]
      have e : r - 0 = r - 1 + 1 := by omega
      rw [e] at hx3
      unfold modR at hx3
      cases hn : nrmK (sofB b held w step shift) with
      | true =>
        rw [hn, if_pos rfl] at hx3
        refine callN_new (c_Norm _ _ hfl (by omega) hn) ?_
        simp
        refine loopK_next (1, nrmL (sofB b held w step shift)) (by show r - 1 < r - 0; omega) ⟨by show 1 ≤ r; omega, by show (nrmL _).length = _; rw [nrmL_len]; exact hfl, hx3, fun h => by cases h⟩ ?_
        (refine weak_gc [(some 1, 0), (some 3, 0)] ?_ ?_ ?_ ?_ ?_ <;> simp [w1])
      | false =>
        refine callN_flat (c_Norm0 _ _ hfl (by omega) hn) rfl ?_
        simp
        (refine endG_keepT [] ?_ ?_ ?_ ?_ ?_ ?_ ?_ ⟨rfl, rfl⟩ ?_ <;> simp)
    · obtain rfl : r = 0 := by omega
      have hpz : posB (innL w w) = false := ite_one hx3
      simp
      refine callG_r ?_
      simp [htk, htkv]
      refine callN_flat (c_rayleigh b held w step hs hv hl hh hp) rfl ?_
      simp [hpz]
      (refine endG_keepT [] ?_ ?_ ?_ ?_ ?_ ?_ ?_ ⟨rfl, rfl⟩ ?_ <;> simp)
  | succ k =>
    have htkv : w.take v.length = w := htk
    have hw : IntKind.i64.wrap ((k : Int) + 1 + 1) = (k : Int) + 1 + 1 := wrap64 (by omega) (by omega)
    have hw2 : IntKind.i64.wrap ((k : Int) + 2) = (k : Int) + 2 := wrap64 (by omega) (by omega)
    by_cases c : k + 1 < r
    · have c3 : ¬ r ≤ k + 1 := by omega
      have c4 : (k : Int) + 1 < (r : Int) := by omega
      have c5 : ¬ (r : Int) ≤ (k : Int) + 1 := by omega
      simp [c, c3, c4, c5, htk, htkv]
      refine callG_r ?_
      simp [htk, htkv]
      refine callN_new kC ?_
      simp [htk, htkv]
      refine callG_r ?_
      simp [hftk]
      have e : r - (k + 1) = r - (k + 1 + 1) + 1 := by omega
      rw [e] at hx3
      unfold modR at hx3
      cases hn : nrmK (sofB b held w step shift) with
      | true =>
        rw [hn, if_pos rfl] at hx3
        refine callN_new (c_Norm _ _ hfl (by omega) hn) ?_
        simp
        refine loopK_next ((k + 1 + 1), nrmL (sofB b held w step shift)) (by show r - (k + 1 + 1) < r - (k + 1); omega) ⟨by show (k + 1 + 1) ≤ r; omega, by show (nrmL _).length = _; rw [nrmL_len]; exact hfl, hx3, fun h => by cases h⟩ ?_
        (refine weak_gc [(some 1, 0), (some 4, 0)] ?_ ?_ ?_ ?_ ?_ <;> simp [hw, hw2, Int.add_assoc])
      | false =>
        refine callN_flat (c_Norm0 _ _ hfl (by omega) hn) rfl ?_
        simp
        (refine endG_keepT [] ?_ ?_ ?_ ?_ ?_ ?_ ?_ ⟨rfl, rfl⟩ ?_ <;> simp)
    · have c3 : r ≤ k + 1 := by omega
      rw [show r - (k + 1) = 0 by omega] at hx3
      have hpz : posB (innL w w) = false := ite_one hx3
      have c4 : ¬ (k : Int) + 1 < (r : Int) := by omega
      have c5 : (r : Int) ≤ (k : Int) + 1 := by omega
      simp [c, c3, c4, c5]
      refine callG_r ?_
      simp [htk]
      have kR := c_rayleigh b held w step hs hv (by omega) hh hp
      rw [hx2] at kR
      refine callN_flat kR rfl ?_
      simp [hpz]
      (refine endG_keepT [] ?_ ?_ ?_ ?_ ?_ ?_ ?_ ⟨rfl, rfl⟩ ?_ <;> simp)

end Go.Proofs.YtnpflgeenecaeaaGreat
namespace Go.Proofs.YtnpflgeenecaeaaGreat
set_option linter.all false
open Go Go.Awp
set_option maxRecDepth 100000
set_option maxHeartbeats 4000000
set_option pp.deepTerms true

def greR (b : Bod) (held : List Int) (v : List V) (step : Nat) (rounds : Int) : Option (List V) := if canB b held v step && inB rounds 0 40 then modR (fun w => timB b held w step) rounds.toNat (freeL v held) else none
def greL (b : Bod) (held : List Int) (v : List V) (step : Nat) (rounds : Int) : List V := (greR b held v step rounds).getD []
def greX (b : Bod) (held : List Int) (v : List V) (step : Nat) (rounds : Int) : Nat := match greR b held v step rounds with
  | some W => rayL b held W step
  | none => 0
def greK (b : Bod) (held : List Int) (v : List V) (step : Nat) (rounds : Int) : Bool := (greR b held v step rounds).isSome
theorem greL_le (b : Bod) (held : List Int) (v : List V) (step : Nat) (rounds : Int) : (greL b held v step rounds).length ≤ 64 := by
  unfold greL greR
  split
  · rename_i h
    simp only [Bool.and_eq_true] at h
    obtain ⟨hv, hp, hlen, hst⟩ := canB_of h.1
    have := (vldB_of hv).pl
    cases hm : modR (fun w => timB b held w step) rounds.toNat (freeL v held) with
    | none => simp
    | some W =>
      have := modR_len (fun w => timB_len b held w step) hm
      simp at this ⊢
      omega
  · simp
theorem c_GreatModeU (b : Bod) (held : List Int) (v : List V) (step : Nat) (rounds : Int) (hs : b.Small) (hh : held.length ≤ 1048576) (hl : v.length ≤ 1048576) :
    Fun Tryz.prog 38 [b.av, .view false (cIs held) held.length, .view false (cVs v) v.length, .flt .f32 step, .int .i64 rounds] [] (.tup [.slc 0 0 (greL b held v step rounds).length 3, .flt .f32 (greX b held v step rounds), .bool (greK b held v step rounds)]) [.blk true false 41 (cVs (greL b held v step rounds))] := by
  refine FnSpec.walkW dr_ok Tryz.func38 rfl (by kernel_rfl) rfl rfl rfl (by simp) ?_
  simp
  (first | refine callG_r ?_ | refine callD_r ?_); simp; (first | refine callN_flat (by with_reducible first | exact c_areFor b held v step hs hh hl) rfl ?_ | refine callN_new (by with_reducible first | exact c_areFor b held v step hs hh hl) ?_ | refine callM_flat (by with_reducible first | exact c_areFor b held v step hs hh hl) rfl ?_ | refine callM_new (by with_reducible first | exact c_areFor b held v step hs hh hl) ?_)
  cases hc : canB b held v step with
  | false =>
    have e : greR b held v step rounds = none := by simp [greR, hc]
    simp
    refine ⟨U 36 [(10, .slc 0 0 0 3), (11, .flt .f32 0), (12, .bool false)], [.blk true false 41 []], by (refine weak_gc [(none, 41)] ?_ ?_ ?_ ?_ ?_ <;> simp), ?_⟩
    (refine endG_keepT [(some 0, 0)] ?_ ?_ ?_ ?_ ?_ ?_ ?_ ⟨rfl, rfl⟩ ?_ <;> simp [greL, greX, greK, e])
  | true =>
  simp
  (first | refine callG_r ?_ | refine callD_r ?_); simp; (first | refine callN_flat (by with_reducible first | exact c_within _ _ _) rfl ?_ | refine callN_new (by with_reducible first | exact c_within _ _ _) ?_ | refine callM_flat (by with_reducible first | exact c_within _ _ _) rfl ?_ | refine callM_new (by with_reducible first | exact c_within _ _ _) ?_)
  cases hi : inB rounds 0 40 with
  | false =>
    have e : greR b held v step rounds = none := by simp [greR, hi]
    simp
    refine ⟨U 36 [(10, .slc 0 0 0 3), (11, .flt .f32 0), (12, .bool false)], [.blk true false 41 []], by (refine weak_gc [(none, 41)] ?_ ?_ ?_ ?_ ?_ <;> simp), ?_⟩
    (refine endG_keepT [(some 0, 0)] ?_ ?_ ?_ ?_ ?_ ?_ ?_ ⟨rfl, rfl⟩ ?_ <;> simp [greL, greX, greK, e])
  | true =>
  obtain ⟨hv, hp, hlen, hst⟩ := canB_of hc
  have hpl := (vldB_of hv).pl
  simp
  (first | refine callG_r ?_ | refine callD_r ?_); simp; (first | refine callN_flat (by with_reducible first | exact c_freed v held (by omega) hh (by rw [hlen]; exact hp)) rfl ?_ | refine callN_new (by with_reducible first | exact c_freed v held (by omega) hh (by rw [hlen]; exact hp)) ?_ | refine callM_flat (by with_reducible first | exact c_freed v held (by omega) hh (by rw [hlen]; exact hp)) rfl ?_ | refine callM_new (by with_reducible first | exact c_freed v held (by omega) hh (by rw [hlen]; exact hp)) ?_)
  simp
  have eR : greR b held v step rounds = modR (fun w => timB b held w step) rounds.toNat (freeL v held) := by simp [greR, hc, hi]
  have hi' := hi
  simp [inB] at hi'
  obtain ⟨r, rfl⟩ : ∃ r : Nat, rounds = r := ⟨rounds.toNat, by omega⟩
  rw [Int.toNat_natCast] at eR
  have hfl : (freeL v held).length = b.me.pl.length := by rw [freeL_len]; exact hlen
  cases hm : modR (fun w => timB b held w step) r (freeL v held) with
  | none =>
    rw [hm] at eR
    have key := c_modeByGF b held (freeL v held) step hs hv hfl hh hp r (by omega) hm
    rw [freeL_len] at key
    (first | refine callG_on true [3] ?_ | refine callD_on true [3] ?_); simp; (first | refine callN_fun (by with_reducible exact key) (by simp) ?_ | refine callMD_fun (by with_reducible exact key) (by simp) ?_)
    simp
    refine ⟨U 36 [(10, .slc 0 0 0 3), (11, .flt .f32 0), (12, .bool false)], [.blk true false 41 []], by (refine weak_gc [(none, 41)] ?_ ?_ ?_ ?_ ?_ <;> simp), ?_⟩
    (refine endG_keepT [(some 0, 0)] ?_ ?_ ?_ ?_ ?_ ?_ ?_ ⟨rfl, rfl⟩ ?_ <;> simp [greL, greX, greK, eR])
  | some W =>
    rw [hm] at eR
    have hWl := modR_len (fun w => timB_len b held w step) hm
    rw [freeL_len] at hWl
    cases r with
    | zero =>
      obtain ⟨hpz, hW⟩ := ite_two (p := posB (innL (freeL v held) (freeL v held))) hm
      subst hW
      have key := c_modeByG0 b held (freeL v held) step hs hv hfl hh hp hpz
      rw [freeL_len] at key
      have eR0 : greR b held v step 0 = some (freeL v held) := eR
      (first | refine callG_on true [3] ?_ | refine callD_on true [3] ?_); simp; (first | refine callN_fun (by with_reducible exact key) (by simp) ?_ | refine callMD_fun (by with_reducible exact key) (by simp) ?_)
      simp
      refine endGW_of ?_
      (refine endG_keepT [(some 3, 0)] ?_ ?_ ?_ ?_ ?_ ?_ ?_ ⟨rfl, rfl⟩ ?_ <;> simp [greL, greX, greK, eR0])
    | succ r =>
      have key := c_modeByG1 b held (freeL v held) step hs hv hfl hh hp r (by omega) W hm
      rw [freeL_len] at key
      simp only [Int.natCast_add, Int.natCast_one] at key eR
      (first | refine callG_on true [3] ?_ | refine callD_on true [3] ?_); simp; (first | refine callN_fun (by with_reducible exact key) (by simp) ?_ | refine callMD_fun (by with_reducible exact key) (by simp) ?_)
      simp
      refine endGW_of ?_
      (refine endG_keepT [(some 4, 0)] ?_ ?_ ?_ ?_ ?_ ?_ ?_ ⟨rfl, rfl⟩ ?_ <;> simp [greL, greX, greK, eR, hWl])
theorem c_l09End (b : Bod) (rest : List AV) (held : List Int) (w : List V) (step n : Nat) (hn : w.length = n) (hs : b.Small) (hv : vldB b = true) (hl : n = b.me.pl.length) (hh : held.length ≤ 1048576) (hp : ∀ p ∈ held, 0 ≤ p ∧ p < b.me.pl.length) (hz : Zh held w) (hpz : posB (innL w w) = true) :
    Fun Tryz.prog 71 [b.vp rest, .view false (cIs held) held.length, .slc 0 0 n 3, .flt .f32 step] [.blk false false 41 (cVs w)] (.tup [.slc 0 0 n 3, .flt .f32 (rayL b held w step), .bool true]) [.blk false false 41 (cVs w)] := by
  subst hn
  have hpl := (vldB_of hv).pl
  have htk : w.take w.length = w := List.take_of_length_le (by omega)
  have e1 := rayL_z (b := b) held step (free_Zl hz)
  have e2 := innL_z (free_Zl hz) (free_Zl hz)
  refine FnSpec.walk dr_ok Tryz.func71 rfl (by kernel_rfl) rfl rfl rfl (by simp) ?_
  simp
  refine callG_r ?_
  simp [htk]
  refine callN_new (c_l09Freed w held (by omega) hh (by rw [hl]; exact hp)) ?_
  simp
  have key := c_l09Rayleigh b (rest.map AV.frz) held (freeL w held) step hs hv (by simp [hl]) hh hp
  rw [freeL_len, e1, e2] at key
  refine callG_r ?_
  simp
  refine callN_flat key rfl ?_
  simp [hpz]
  (refine endG_keepT [] ?_ ?_ ?_ ?_ ?_ ?_ ?_ ⟨rfl, rfl⟩ ?_ <;> simp)
theorem c_l09End0 (b : Bod) (rest : List AV) (held : List Int) (w : List V) (step n : Nat) (hn : w.length = n) (hs : b.Small) (hv : vldB b = true) (hl : n = b.me.pl.length) (hh : held.length ≤ 1048576) (hp : ∀ p ∈ held, 0 ≤ p ∧ p < b.me.pl.length) (hz : Zh held w) (hpz : posB (innL w w) = false) :
    Fun Tryz.prog 71 [b.vp rest, .view false (cIs held) held.length, .slc 0 0 n 3, .flt .f32 step] [.blk false false 41 (cVs w)] (.tup [.nils, .flt .f32 0, .bool false]) [.blk false false 41 (cVs w)] := by
  subst hn
  have hpl := (vldB_of hv).pl
  have htk : w.take w.length = w := List.take_of_length_le (by omega)
  have e1 := rayL_z (b := b) held step (free_Zl hz)
  have e2 := innL_z (free_Zl hz) (free_Zl hz)
  refine FnSpec.walk dr_ok Tryz.func71 rfl (by kernel_rfl) rfl rfl rfl (by simp) ?_
  simp
  refine callG_r ?_
  simp [htk]
  refine callN_new (c_l09Freed w held (by omega) hh (by rw [hl]; exact hp)) ?_
  simp
  have key := c_l09Rayleigh b (rest.map AV.frz) held (freeL w held) step hs hv (by simp [hl]) hh hp
  rw [freeL_len, e1, e2] at key
  refine callG_r ?_
  simp
  refine callN_flat key rfl ?_
  simp [hpz]
  (refine endG_keepT [] ?_ ?_ ?_ ?_ ?_ ?_ ?_ ⟨rfl, rfl⟩ ?_ <;> simp)
theorem c_specGreatModeU (b : Bod) (held : List Int) (v : List V) (step : Nat) (rounds : Int) (hs : b.Small) (hh : held.length ≤ 1048576) (hl : v.length ≤ 1048576) :
    Fun Tryz.prog 37 [b.av, .view false (cIs held) held.length, .view false (cVs v) v.length, .flt .f32 step, .int .i64 rounds] [] (.tup [.slc 0 0 (greL b held v step rounds).length 3, .flt .f32 (greX b held v step rounds), .bool (greK b held v step rounds)]) [.blk true false 41 (cVs (greL b held v step rounds))] := by
  refine FnSpec.walkW dr_ok Tryz.func37 rfl (by kernel_rfl) rfl rfl rfl (by simp) ?_
  simp
  (first | refine callG_r ?_ | refine callD_r ?_); simp; (first | refine callN_flat (by with_reducible first | exact c_l09Can b _ held v step hs hh hl) rfl ?_ | refine callN_new (by with_reducible first | exact c_l09Can b _ held v step hs hh hl) ?_ | refine callM_flat (by with_reducible first | exact c_l09Can b _ held v step hs hh hl) rfl ?_ | refine callM_new (by with_reducible first | exact c_l09Can b _ held v step hs hh hl) ?_)
  cases hc : canB b held v step with
  | false =>
    have e : greR b held v step rounds = none := by simp [greR, hc]
    simp
    refine ⟨U 51 [(10, .slc 0 0 0 3), (11, .flt .f32 0), (12, .bool false)], [.blk true false 41 []], by (refine weak_gc [(none, 41)] ?_ ?_ ?_ ?_ ?_ <;> simp), ?_⟩
    (refine endG_keepT [(some 0, 0)] ?_ ?_ ?_ ?_ ?_ ?_ ?_ ⟨rfl, rfl⟩ ?_ <;> simp [greL, greX, greK, e])
  | true =>
  simp
  (first | refine callG_r ?_ | refine callD_r ?_); simp; (first | refine callN_flat (by with_reducible first | exact c_l00In _ _ _) rfl ?_ | refine callN_new (by with_reducible first | exact c_l00In _ _ _) ?_ | refine callM_flat (by with_reducible first | exact c_l00In _ _ _) rfl ?_ | refine callM_new (by with_reducible first | exact c_l00In _ _ _) ?_)
  cases hi : inB rounds 0 40 with
  | false =>
    have e : greR b held v step rounds = none := by simp [greR, hi]
    simp
    refine ⟨U 51 [(10, .slc 0 0 0 3), (11, .flt .f32 0), (12, .bool false)], [.blk true false 41 []], by (refine weak_gc [(none, 41)] ?_ ?_ ?_ ?_ ?_ <;> simp), ?_⟩
    (refine endG_keepT [(some 0, 0)] ?_ ?_ ?_ ?_ ?_ ?_ ?_ ⟨rfl, rfl⟩ ?_ <;> simp [greL, greX, greK, e])
  | true =>
  obtain ⟨hv, hp, hlen, hst⟩ := canB_of hc
  have hpl := (vldB_of hv).pl
  simp
  (first | refine callG_r ?_ | refine callD_r ?_); simp; (first | refine callN_flat (by with_reducible first | exact c_l09Freed v held (by omega) hh (by rw [hlen]; exact hp)) rfl ?_ | refine callN_new (by with_reducible first | exact c_l09Freed v held (by omega) hh (by rw [hlen]; exact hp)) ?_ | refine callM_flat (by with_reducible first | exact c_l09Freed v held (by omega) hh (by rw [hlen]; exact hp)) rfl ?_ | refine callM_new (by with_reducible first | exact c_l09Freed v held (by omega) hh (by rw [hlen]; exact hp)) ?_)
  simp
  have eR : greR b held v step rounds = modR (fun w => timB b held w step) rounds.toNat (freeL v held) := by simp [greR, hc, hi]
  have hi' := hi
  simp [inB] at hi'
  obtain ⟨r, rfl⟩ : ∃ r : Nat, rounds = r := ⟨rounds.toNat, by omega⟩
  rw [Int.toNat_natCast] at eR
  have hz0 := zh_free v held
  have hfl : (freeL v held).length = v.length := by simp
  generalize freeL v held = w0 at *
  refine loopG_of (α := Nat × List V) (fun x => x.1 ≤ 40 ∧ x.2.length = v.length ∧ modR (fun w => timB b held w step) x.1 x.2 = greR b held v step (r : Int) ∧ Zh held x.2) (fun x => x.1)
    (fun x => [(4, .int .i64 (x.1 : Nat)), (13, .slc 1 0 v.length 3), (1, .view false (cIs held) held.length), (3, .flt .f32 step), (5, .ptr 0 0)])
    (fun x => [.blk true true 43 b.cells, .blk true false 41 (cVs x.2)]) (r, w0) ⟨by simp; omega, hfl, eR.symm, hz0⟩ ?_ fun x ⟨hx1, hx2, hx3, hx4⟩ => ?_
  · (refine weak_gc [(some 0, 0), (some 1, 0)] ?_ ?_ ?_ ?_ ?_ <;> simp)
  obtain ⟨k, w⟩ := x
  simp only at hx1 hx2 hx3 hx4
  have htk : w.take v.length = w := List.take_of_length_le (by omega)
  cases k with
  | succ k =>
    have hw : IntKind.i64.wrap (((k : Int) + 1) - 1) = ((k : Nat) : Int) := by rw [wrap64 (by omega) (by omega)]; omega
    have hw2 : IntKind.i64.wrap (k : Int) = (k : Int) := wrap64 (by omega) (by omega)
    have hfl2 : (timB b held w step).length = v.length := by rw [timB_len]; exact hx2
    have hftk : (timB b held w step).take v.length = timB b held w step := List.take_of_length_le (by omega)
    have kT := c_l09Times b [] held w step hs hv (by omega) hh hp
    rw [hx2] at kT
    have c1 : (0 : Int) < (k : Int) + 1 := by omega
    simp [c1]
    refine callG_r ?_
    simp [htk]
    refine callN_new kT ?_
    simp
    refine callG_r ?_
    simp [hftk]
    unfold modR at hx3
    cases hn : nrmK (timB b held w step) with
    | true =>
      rw [hn, if_pos rfl] at hx3
      refine callN_new (c_l09Norm _ _ hfl2 (by omega) hn) ?_
      simp
      refine loopK_next (k, nrmL (timB b held w step)) (by show k < k + 1; omega) ⟨by show k ≤ 40; omega, by show (nrmL _).length = _; rw [nrmL_len]; exact hfl2, hx3, zh_nrm (zh_tim b held w step) hn⟩ ?_
      (refine weak_gc [(some 0, 0), (some 3, 0)] ?_ ?_ ?_ ?_ ?_ <;> simp [hw, hw2])
    | false =>
      rw [hn] at hx3
      have e : greR b held v step (r : Int) = none := hx3.symm
      refine callN_flat (c_l09Norm0 _ _ hfl2 (by omega) hn) rfl ?_
      simp
      refine ⟨U 51 [(10, .slc 0 0 0 3), (11, .flt .f32 0), (12, .bool false)], [.blk true false 41 []], by (refine weak_gc [(none, 41)] ?_ ?_ ?_ ?_ ?_ <;> simp), ?_⟩
      (refine endG_keepT [(some 0, 0)] ?_ ?_ ?_ ?_ ?_ ?_ ?_ ⟨rfl, rfl⟩ ?_ <;> simp [greL, greX, greK, e])
  | zero =>
    simp
    unfold modR at hx3
    cases hpz : posB (innL w w) with
    | true =>
      rw [hpz, if_pos rfl] at hx3
      have e : greR b held v step (r : Int) = some w := hx3.symm
      (first | refine callG_on true [1] ?_ | refine callD_on true [1] ?_); simp; (first | refine callN_fun (by with_reducible exact c_l09End b _ held w step _ hx2 hs hv (by omega) hh hp hx4 hpz) (by simp) ?_ | refine callMD_fun (by with_reducible exact c_l09End b _ held w step _ hx2 hs hv (by omega) hh hp hx4 hpz) (by simp) ?_)
      simp
      refine endGW_of ?_
      (refine endG_keepT [(some 1, 0)] ?_ ?_ ?_ ?_ ?_ ?_ ?_ ⟨rfl, rfl⟩ ?_ <;> simp [greL, greX, greK, e, hx2])
    | false =>
      rw [hpz] at hx3
      have e : greR b held v step (r : Int) = none := hx3.symm
      (first | refine callG_on true [1] ?_ | refine callD_on true [1] ?_); simp; (first | refine callN_fun (by with_reducible exact c_l09End0 b _ held w step _ hx2 hs hv (by omega) hh hp hx4 hpz) (by simp) ?_ | refine callMD_fun (by with_reducible exact c_l09End0 b _ held w step _ hx2 hs hv (by omega) hh hp hx4 hpz) (by simp) ?_)
      simp
      refine ⟨U 51 [(10, .slc 0 0 0 3), (11, .flt .f32 0), (12, .bool false)], [.blk true false 41 []], by (refine weak_gc [(none, 41)] ?_ ?_ ?_ ?_ ?_ <;> simp), ?_⟩
      (refine endG_keepT [(some 0, 0)] ?_ ?_ ?_ ?_ ?_ ?_ ?_ ⟨rfl, rfl⟩ ?_ <;> simp [greL, greX, greK, e])
end Go.Proofs.YtnpflgeenecaeaaGreat
namespace Go.Proofs.YtnpflgeenecaeaaGreat
set_option linter.all false
open Go Go.Awp
set_option maxRecDepth 100000
set_option maxHeartbeats 4000000
set_option pp.deepTerms true

def sofR (b : Bod) (held : List Int) (v : List V) (step shift : Nat) (rounds : Int) : Option (List V) := if canB b held v step && inB rounds 0 40 then modR (fun w => sofB b held w step shift) rounds.toNat (freeL v held) else none
def sofL (b : Bod) (held : List Int) (v : List V) (step shift : Nat) (rounds : Int) : List V := (sofR b held v step shift rounds).getD []
def sofX (b : Bod) (held : List Int) (v : List V) (step shift : Nat) (rounds : Int) : Nat := match sofR b held v step shift rounds with
  | some W => rayL b held W step
  | none => 0
def sofK (b : Bod) (held : List Int) (v : List V) (step shift : Nat) (rounds : Int) : Bool := (sofR b held v step shift rounds).isSome
theorem sofL_le (b : Bod) (held : List Int) (v : List V) (step shift : Nat) (rounds : Int) : (sofL b held v step shift rounds).length ≤ 64 := by
  unfold sofL sofR
  split
  · rename_i h
    simp only [Bool.and_eq_true] at h
    obtain ⟨hv, hp, hlen, hst⟩ := canB_of h.1
    have := (vldB_of hv).pl
    cases hm : modR (fun w => sofB b held w step shift) rounds.toNat (freeL v held) with
    | none => simp
    | some W =>
      have := modR_len (fun w => sofB_len b held w step shift) hm
      simp at this ⊢
      omega
  · simp
theorem c_SoftModeU (b : Bod) (held : List Int) (v : List V) (step shift : Nat) (rounds : Int) (hs : b.Small) (hh : held.length ≤ 1048576) (hl : v.length ≤ 1048576) :
    Fun Tryz.prog 40 [b.av, .view false (cIs held) held.length, .view false (cVs v) v.length, .flt .f32 step, .flt .f32 shift, .int .i64 rounds] [] (.tup [.slc 0 0 (sofL b held v step shift rounds).length 3, .flt .f32 (sofX b held v step shift rounds), .bool (sofK b held v step shift rounds)]) [.blk true false 41 (cVs (sofL b held v step shift rounds))] := by
  refine FnSpec.walkW dr_ok Tryz.func40 rfl (by kernel_rfl) rfl rfl rfl (by simp) ?_
  simp
  (first | refine callG_r ?_ | refine callD_r ?_); simp; (first | refine callN_flat (by with_reducible first | exact c_areFor b held v step hs hh hl) rfl ?_ | refine callN_new (by with_reducible first | exact c_areFor b held v step hs hh hl) ?_ | refine callM_flat (by with_reducible first | exact c_areFor b held v step hs hh hl) rfl ?_ | refine callM_new (by with_reducible first | exact c_areFor b held v step hs hh hl) ?_)
  cases hc : canB b held v step with
  | false =>
    have e : sofR b held v step shift rounds = none := by simp [sofR, hc]
    simp
    refine ⟨U 38 [(12, .slc 0 0 0 3), (13, .flt .f32 0), (14, .bool false)], [.blk true false 41 []], by (refine weak_gc [(none, 41)] ?_ ?_ ?_ ?_ ?_ <;> simp), ?_⟩
    (refine endG_keepT [(some 0, 0)] ?_ ?_ ?_ ?_ ?_ ?_ ?_ ⟨rfl, rfl⟩ ?_ <;> simp [sofL, sofX, sofK, e])
  | true =>
  simp
  (first | refine callG_r ?_ | refine callD_r ?_); simp; (first | refine callN_flat (by with_reducible first | exact c_within _ _ _) rfl ?_ | refine callN_new (by with_reducible first | exact c_within _ _ _) ?_ | refine callM_flat (by with_reducible first | exact c_within _ _ _) rfl ?_ | refine callM_new (by with_reducible first | exact c_within _ _ _) ?_)
  cases hi : inB rounds 0 40 with
  | false =>
    have e : sofR b held v step shift rounds = none := by simp [sofR, hi]
    simp
    refine ⟨U 38 [(12, .slc 0 0 0 3), (13, .flt .f32 0), (14, .bool false)], [.blk true false 41 []], by (refine weak_gc [(none, 41)] ?_ ?_ ?_ ?_ ?_ <;> simp), ?_⟩
    (refine endG_keepT [(some 0, 0)] ?_ ?_ ?_ ?_ ?_ ?_ ?_ ⟨rfl, rfl⟩ ?_ <;> simp [sofL, sofX, sofK, e])
  | true =>
  obtain ⟨hv, hp, hlen, hst⟩ := canB_of hc
  have hpl := (vldB_of hv).pl
  simp
  (first | refine callG_r ?_ | refine callD_r ?_); simp; (first | refine callN_flat (by with_reducible first | exact c_freed v held (by omega) hh (by rw [hlen]; exact hp)) rfl ?_ | refine callN_new (by with_reducible first | exact c_freed v held (by omega) hh (by rw [hlen]; exact hp)) ?_ | refine callM_flat (by with_reducible first | exact c_freed v held (by omega) hh (by rw [hlen]; exact hp)) rfl ?_ | refine callM_new (by with_reducible first | exact c_freed v held (by omega) hh (by rw [hlen]; exact hp)) ?_)
  simp
  have eR : sofR b held v step shift rounds = modR (fun w => sofB b held w step shift) rounds.toNat (freeL v held) := by simp [sofR, hc, hi]
  have hi' := hi
  simp [inB] at hi'
  obtain ⟨r, rfl⟩ : ∃ r : Nat, rounds = r := ⟨rounds.toNat, by omega⟩
  rw [Int.toNat_natCast] at eR
  have hfl : (freeL v held).length = b.me.pl.length := by rw [freeL_len]; exact hlen
  cases hm : modR (fun w => sofB b held w step shift) r (freeL v held) with
  | none =>
    rw [hm] at eR
    have key := c_modeBySF b held (freeL v held) step shift hs hv hfl hh hp r (by omega) hm
    rw [freeL_len] at key
    (first | refine callG_on true [4] ?_ | refine callD_on true [4] ?_); simp; (first | refine callN_fun (by with_reducible exact key) (by simp) ?_ | refine callMD_fun (by with_reducible exact key) (by simp) ?_)
    simp
    refine ⟨U 38 [(12, .slc 0 0 0 3), (13, .flt .f32 0), (14, .bool false)], [.blk true false 41 []], by (refine weak_gc [(none, 41)] ?_ ?_ ?_ ?_ ?_ <;> simp), ?_⟩
    (refine endG_keepT [(some 0, 0)] ?_ ?_ ?_ ?_ ?_ ?_ ?_ ⟨rfl, rfl⟩ ?_ <;> simp [sofL, sofX, sofK, eR])
  | some W =>
    rw [hm] at eR
    have hWl := modR_len (fun w => sofB_len b held w step shift) hm
    rw [freeL_len] at hWl
    cases r with
    | zero =>
      obtain ⟨hpz, hW⟩ := ite_two (p := posB (innL (freeL v held) (freeL v held))) hm
      subst hW
      have key := c_modeByS0 b held (freeL v held) step shift hs hv hfl hh hp hpz
      rw [freeL_len] at key
      have eR0 : sofR b held v step shift 0 = some (freeL v held) := eR
      (first | refine callG_on true [4] ?_ | refine callD_on true [4] ?_); simp; (first | refine callN_fun (by with_reducible exact key) (by simp) ?_ | refine callMD_fun (by with_reducible exact key) (by simp) ?_)
      simp
      refine endGW_of ?_
      (refine endG_keepT [(some 4, 0)] ?_ ?_ ?_ ?_ ?_ ?_ ?_ ⟨rfl, rfl⟩ ?_ <;> simp [sofL, sofX, sofK, eR0])
    | succ r =>
      have key := c_modeByS1 b held (freeL v held) step shift hs hv hfl hh hp r (by omega) W hm
      rw [freeL_len] at key
      simp only [Int.natCast_add, Int.natCast_one] at key eR
      (first | refine callG_on true [4] ?_ | refine callD_on true [4] ?_); simp; (first | refine callN_fun (by with_reducible exact key) (by simp) ?_ | refine callMD_fun (by with_reducible exact key) (by simp) ?_)
      simp
      refine endGW_of ?_
      (refine endG_keepT [(some 5, 0)] ?_ ?_ ?_ ?_ ?_ ?_ ?_ ⟨rfl, rfl⟩ ?_ <;> simp [sofL, sofX, sofK, eR, hWl])
/-- A round of the reference: the list is made over in its place. -/
theorem sofN_mix {W v : List V} {shift : Nat} (h : W.length = v.length) : (sofN W v shift v.length).length = W.length := by simp [h]
theorem sofN_at {W v : List V} {shift k : Nat} (h : k < v.length) (h2 : k < W.length) : (sofN W v shift v.length)[k]'(by simpa using h) = vsub (vscale v[k] shift) W[k] := by
  simp [sofN, h, h2]
def sftR (b : Bod) (held : List Int) (v : List V) (step shift r : Nat) : Option (List V) := modR (fun w => sofB b held w step shift) r (freeL v held)
theorem c_l09Soft (b : Bod) (rest : List AV) (held : List Int) (v : List V) (step shift r : Nat) (hs : b.Small) (hv : vldB b = true) (hlen : v.length = b.me.pl.length) (hh : held.length ≤ 1048576) (hp : ∀ p ∈ held, 0 ≤ p ∧ p < b.me.pl.length) (hr : r ≤ 40) (W : List V) (hW : sftR b held v step shift r = some W) :
    Fun Tryz.prog 69 [b.vp rest, .view false (cIs held) held.length, .view false (cVs v) v.length, .flt .f32 step, .flt .f32 shift, .int .i64 r] [] (.tup [.slc 0 0 v.length 3, .flt .f32 (rayL b held W step), .bool true]) [.blk true false 41 (cVs W)] := by
  have hpl := (vldB_of hv).pl
  refine FnSpec.walk dr_ok Tryz.func69 rfl (by kernel_rfl) rfl rfl rfl (by simp) ?_
  simp
  (first | refine callG_r ?_ | refine callD_r ?_); simp; (first | refine callN_flat (by with_reducible first | exact c_l09Freed v held (by omega) hh (by rw [hlen]; exact hp)) rfl ?_ | refine callN_new (by with_reducible first | exact c_l09Freed v held (by omega) hh (by rw [hlen]; exact hp)) ?_ | refine callM_flat (by with_reducible first | exact c_l09Freed v held (by omega) hh (by rw [hlen]; exact hp)) rfl ?_ | refine callM_new (by with_reducible first | exact c_l09Freed v held (by omega) hh (by rw [hlen]; exact hp)) ?_)
  simp
  have hz0 := zh_free v held
  have hfl : (freeL v held).length = v.length := by simp
  unfold sftR at hW
  generalize freeL v held = w0 at *
  refine loopG_of (α := Nat × List V) (fun x => x.1 ≤ 40 ∧ x.2.length = v.length ∧ modR (fun w => sofB b held w step shift) x.1 x.2 = some W ∧ Zh held x.2) (fun x => x.1)
    (fun x => [(5, .int .i64 (x.1 : Nat)), (15, .slc 0 0 v.length 3), (1, .view false (cIs held) held.length), (3, .flt .f32 step), (4, .flt .f32 shift), (0, b.vp rest)])
    (fun x => [.blk true false 41 (cVs x.2)]) (r, w0) ⟨by simpa using hr, hfl, hW, hz0⟩ ?_ fun x ⟨hx1, hx2, hx3, hx4⟩ => ?_
  · (refine weak_gc [(some 0, 0)] ?_ ?_ ?_ ?_ ?_ <;> simp)
  obtain ⟨k, w⟩ := x
  simp only at hx1 hx2 hx3 hx4
  have htk : w.take v.length = w := List.take_of_length_le (by omega)
  cases k with
  | succ k =>
    have hw : IntKind.i64.wrap (((k : Int) + 1) - 1) = ((k : Nat) : Int) := by rw [wrap64 (by omega) (by omega)]; omega
    have hw2 : IntKind.i64.wrap (k : Int) = (k : Int) := wrap64 (by omega) (by omega)
    have kT := c_l09Times b (rest.map AV.frz) held w step hs hv (by omega) hh hp
    rw [hx2] at kT
    have c1 : (0 : Int) < (k : Int) + 1 := by omega
    simp [c1]
    refine callG_r ?_
    simp [htk]
    refine callN_new kT ?_
    simp
    have hTl : (timB b held w step).length = v.length := by rw [timB_len]; exact hx2
    have hSl : (sofB b held w step shift).length = v.length := by rw [sofB_len]; exact hx2
    have hSe : sofB b held w step shift = sofN (timB b held w step) w shift w.length := rfl
    have hml : (sofB b held w step shift).length = (timB b held w step).length := by omega
    have hat : ∀ (j : Nat) (h1 : j < w.length) (h2 : j < (timB b held w step).length) (h3 : j < (sofB b held w step shift).length), (sofB b held w step shift)[j] = vsub (vscale w[j] shift) (timB b held w step)[j] := fun j h1 h2 h3 => sofN_at h1 h2
    have hstk : (sofB b held w step shift).take v.length = sofB b held w step shift := List.take_of_length_le (by omega)
    have hzn := fun hn => zh_nrm (zh_sof (step := step) (shift := shift) (b := b) hx4 (by rw [hx2, hlen]; exact hp) hn) hn
    unfold modR at hx3
    generalize sofB b held w step shift = S at *
    generalize timB b held w step = T at *
    refine loopG_of (α := Nat) (fun j => j ≤ v.length) (fun j => v.length - j) (fun j => [(34, .int .i64 (j : Nat)), (33, .int .i64 v.length), (16, .slc 1 0 v.length 3), (15, .slc 0 0 v.length 3), (1, .view false (cIs held) held.length), (3, .flt .f32 step), (4, .flt .f32 shift), (5, .int .i64 ((k : Int) + 1)), (0, b.vp rest)])
      (fun j => [.blk true false 41 (cVs w), .blk true false 41 (cVs (mixN S T j))]) 0 (by simp) ?_ fun j hj => ?_
    · (refine weak_gc [(some 0, 0), (some 1, 0)] ?_ ?_ ?_ ?_ ?_ <;> simp)
    have hwj := nat_wrap (k := j) (by omega)
    have hm := mixN_length j hml
    by_cases c : j < v.length
    · have c2 : j < w.length := by omega
      have c3 : j < T.length := by omega
      have c4 : j < S.length := by omega
      have hg := mixN_get hml c3
      simp [c, c2, c3, hwj, hm, hTl, hx2, hg]
      (first | refine callG_r ?_ | refine callD_r ?_); simp; (first | refine callN_flat (by with_reducible first | exact c_l01Scale _ _ _ _) rfl ?_ | refine callN_new (by with_reducible first | exact c_l01Scale _ _ _ _) ?_ | refine callM_flat (by with_reducible first | exact c_l01Scale _ _ _ _) rfl ?_ | refine callM_new (by with_reducible first | exact c_l01Scale _ _ _ _) ?_)
      simp [c, c2, c3, hwj, hm, hTl, hx2, hg]
      (first | refine callG_r ?_ | refine callD_r ?_); simp; (first | refine callN_flat (by with_reducible first | exact c_l01Less _ _ _ _ _ _) rfl ?_ | refine callN_new (by with_reducible first | exact c_l01Less _ _ _ _ _ _) ?_ | refine callM_flat (by with_reducible first | exact c_l01Less _ _ _ _ _ _) rfl ?_ | refine callM_new (by with_reducible first | exact c_l01Less _ _ _ _ _ _) ?_)
      simp [c, c2, c3, hwj, hm, hTl, hx2, hg]
      refine ⟨by omega, loopK_next (j + 1) (by omega) (by omega) ?_⟩
      rw [mixN_set c4 hml (hat j c2 c3 c4).symm]
      (refine weak_gc [(some 0, 0), (some 1, 0)] ?_ ?_ ?_ ?_ ?_ <;> simp [hwj])
    obtain rfl : j = v.length := by omega
    rw [mixN_all (by omega) (by omega)]
    simp
    refine callG_r ?_
    simp [hstk]
    cases hn : nrmK S with
    | true =>
      rw [hn, if_pos rfl] at hx3
      refine callN_new (c_l09Norm _ _ hSl (by omega) hn) ?_
      simp
      refine loopK_next (k, nrmL S) (by show k < k + 1; omega) ⟨by show k ≤ 40; omega, by show (nrmL _).length = _; rw [nrmL_len]; exact hSl, hx3, hzn hn⟩ ?_
      (refine weak_gc [(some 2, 0)] ?_ ?_ ?_ ?_ ?_ <;> simp [hw, hw2])
    | false =>
      rw [hn] at hx3
      cases hx3
  | zero =>
    simp
    unfold modR at hx3
    obtain ⟨hpz, hW2⟩ := ite_two (p := posB (innL w w)) hx3
    subst hW2
    (first | refine callG_on true [0] ?_ | refine callD_on true [0] ?_); simp; (first | refine callN_fun (by with_reducible exact c_l09End b _ held w step _ hx2 hs hv (by omega) hh hp hx4 hpz) (by simp) ?_ | refine callMD_fun (by with_reducible exact c_l09End b _ held w step _ hx2 hs hv (by omega) hh hp hx4 hpz) (by simp) ?_)
    simp
    (refine endG_keepT [(some 0, 0)] ?_ ?_ ?_ ?_ ?_ ?_ ?_ ⟨rfl, rfl⟩ ?_ <;> simp)
theorem c_l09Soft0 (b : Bod) (rest : List AV) (held : List Int) (v : List V) (step shift r : Nat) (hs : b.Small) (hv : vldB b = true) (hlen : v.length = b.me.pl.length) (hh : held.length ≤ 1048576) (hp : ∀ p ∈ held, 0 ≤ p ∧ p < b.me.pl.length) (hr : r ≤ 40) (hW : sftR b held v step shift r = none) :
    Fun Tryz.prog 69 [b.vp rest, .view false (cIs held) held.length, .view false (cVs v) v.length, .flt .f32 step, .flt .f32 shift, .int .i64 r] [] (.tup [.nils, .flt .f32 0, .bool false]) [] := by
  have hpl := (vldB_of hv).pl
  refine FnSpec.walk dr_ok Tryz.func69 rfl (by kernel_rfl) rfl rfl rfl (by simp) ?_
  simp
  (first | refine callG_r ?_ | refine callD_r ?_); simp; (first | refine callN_flat (by with_reducible first | exact c_l09Freed v held (by omega) hh (by rw [hlen]; exact hp)) rfl ?_ | refine callN_new (by with_reducible first | exact c_l09Freed v held (by omega) hh (by rw [hlen]; exact hp)) ?_ | refine callM_flat (by with_reducible first | exact c_l09Freed v held (by omega) hh (by rw [hlen]; exact hp)) rfl ?_ | refine callM_new (by with_reducible first | exact c_l09Freed v held (by omega) hh (by rw [hlen]; exact hp)) ?_)
  simp
  have hz0 := zh_free v held
  have hfl : (freeL v held).length = v.length := by simp
  unfold sftR at hW
  generalize freeL v held = w0 at *
  refine loopG_of (α := Nat × List V) (fun x => x.1 ≤ 40 ∧ x.2.length = v.length ∧ modR (fun w => sofB b held w step shift) x.1 x.2 = none ∧ Zh held x.2) (fun x => x.1)
    (fun x => [(5, .int .i64 (x.1 : Nat)), (15, .slc 0 0 v.length 3), (1, .view false (cIs held) held.length), (3, .flt .f32 step), (4, .flt .f32 shift), (0, b.vp rest)])
    (fun x => [.blk true false 41 (cVs x.2)]) (r, w0) ⟨by simpa using hr, hfl, hW, hz0⟩ ?_ fun x ⟨hx1, hx2, hx3, hx4⟩ => ?_
  · (refine weak_gc [(some 0, 0)] ?_ ?_ ?_ ?_ ?_ <;> simp)
  obtain ⟨k, w⟩ := x
  simp only at hx1 hx2 hx3 hx4
  have htk : w.take v.length = w := List.take_of_length_le (by omega)
  cases k with
  | succ k =>
    have hw : IntKind.i64.wrap (((k : Int) + 1) - 1) = ((k : Nat) : Int) := by rw [wrap64 (by omega) (by omega)]; omega
    have hw2 : IntKind.i64.wrap (k : Int) = (k : Int) := wrap64 (by omega) (by omega)
    have kT := c_l09Times b (rest.map AV.frz) held w step hs hv (by omega) hh hp
    rw [hx2] at kT
    have c1 : (0 : Int) < (k : Int) + 1 := by omega
    simp [c1]
    refine callG_r ?_
    simp [htk]
    refine callN_new kT ?_
    simp
    have hTl : (timB b held w step).length = v.length := by rw [timB_len]; exact hx2
    have hSl : (sofB b held w step shift).length = v.length := by rw [sofB_len]; exact hx2
    have hSe : sofB b held w step shift = sofN (timB b held w step) w shift w.length := rfl
    have hml : (sofB b held w step shift).length = (timB b held w step).length := by omega
    have hat : ∀ (j : Nat) (h1 : j < w.length) (h2 : j < (timB b held w step).length) (h3 : j < (sofB b held w step shift).length), (sofB b held w step shift)[j] = vsub (vscale w[j] shift) (timB b held w step)[j] := fun j h1 h2 h3 => sofN_at h1 h2
    have hstk : (sofB b held w step shift).take v.length = sofB b held w step shift := List.take_of_length_le (by omega)
    have hzn := fun hn => zh_nrm (zh_sof (step := step) (shift := shift) (b := b) hx4 (by rw [hx2, hlen]; exact hp) hn) hn
    unfold modR at hx3
    generalize sofB b held w step shift = S at *
    generalize timB b held w step = T at *
    refine loopG_of (α := Nat) (fun j => j ≤ v.length) (fun j => v.length - j) (fun j => [(34, .int .i64 (j : Nat)), (33, .int .i64 v.length), (16, .slc 1 0 v.length 3), (15, .slc 0 0 v.length 3), (1, .view false (cIs held) held.length), (3, .flt .f32 step), (4, .flt .f32 shift), (5, .int .i64 ((k : Int) + 1)), (0, b.vp rest)])
      (fun j => [.blk true false 41 (cVs w), .blk true false 41 (cVs (mixN S T j))]) 0 (by simp) ?_ fun j hj => ?_
    · (refine weak_gc [(some 0, 0), (some 1, 0)] ?_ ?_ ?_ ?_ ?_ <;> simp)
    have hwj := nat_wrap (k := j) (by omega)
    have hm := mixN_length j hml
    by_cases c : j < v.length
    · have c2 : j < w.length := by omega
      have c3 : j < T.length := by omega
      have c4 : j < S.length := by omega
      have hg := mixN_get hml c3
      simp [c, c2, c3, hwj, hm, hTl, hx2, hg]
      (first | refine callG_r ?_ | refine callD_r ?_); simp; (first | refine callN_flat (by with_reducible first | exact c_l01Scale _ _ _ _) rfl ?_ | refine callN_new (by with_reducible first | exact c_l01Scale _ _ _ _) ?_ | refine callM_flat (by with_reducible first | exact c_l01Scale _ _ _ _) rfl ?_ | refine callM_new (by with_reducible first | exact c_l01Scale _ _ _ _) ?_)
      simp [c, c2, c3, hwj, hm, hTl, hx2, hg]
      (first | refine callG_r ?_ | refine callD_r ?_); simp; (first | refine callN_flat (by with_reducible first | exact c_l01Less _ _ _ _ _ _) rfl ?_ | refine callN_new (by with_reducible first | exact c_l01Less _ _ _ _ _ _) ?_ | refine callM_flat (by with_reducible first | exact c_l01Less _ _ _ _ _ _) rfl ?_ | refine callM_new (by with_reducible first | exact c_l01Less _ _ _ _ _ _) ?_)
      simp [c, c2, c3, hwj, hm, hTl, hx2, hg]
      refine ⟨by omega, loopK_next (j + 1) (by omega) (by omega) ?_⟩
      rw [mixN_set c4 hml (hat j c2 c3 c4).symm]
      (refine weak_gc [(some 0, 0), (some 1, 0)] ?_ ?_ ?_ ?_ ?_ <;> simp [hwj])
    obtain rfl : j = v.length := by omega
    rw [mixN_all (by omega) (by omega)]
    simp
    refine callG_r ?_
    simp [hstk]
    cases hn : nrmK S with
    | true =>
      rw [hn, if_pos rfl] at hx3
      refine callN_new (c_l09Norm _ _ hSl (by omega) hn) ?_
      simp
      refine loopK_next (k, nrmL S) (by show k < k + 1; omega) ⟨by show k ≤ 40; omega, by show (nrmL _).length = _; rw [nrmL_len]; exact hSl, hx3, hzn hn⟩ ?_
      (refine weak_gc [(some 2, 0)] ?_ ?_ ?_ ?_ ?_ <;> simp [hw, hw2])
    | false =>
      rw [hn] at hx3
      refine callN_flat (c_l09Norm0 _ _ hSl (by omega) hn) rfl ?_
      simp
      (refine endG_keepT [] ?_ ?_ ?_ ?_ ?_ ?_ ?_ ⟨rfl, rfl⟩ ?_ <;> simp)
  | zero =>
    simp
    unfold modR at hx3
    have hpz : posB (innL w w) = false := ite_one hx3
    (first | refine callG_on true [0] ?_ | refine callD_on true [0] ?_); simp; (first | refine callN_fun (by with_reducible exact c_l09End0 b _ held w step _ hx2 hs hv (by omega) hh hp hx4 hpz) (by simp) ?_ | refine callMD_fun (by with_reducible exact c_l09End0 b _ held w step _ hx2 hs hv (by omega) hh hp hx4 hpz) (by simp) ?_)
    simp
    (refine endG_keepT [] ?_ ?_ ?_ ?_ ?_ ?_ ?_ ⟨rfl, rfl⟩ ?_ <;> simp)
theorem c_specSoftModeU (b : Bod) (held : List Int) (v : List V) (step shift : Nat) (rounds : Int) (hs : b.Small) (hh : held.length ≤ 1048576) (hl : v.length ≤ 1048576) :
    Fun Tryz.prog 39 [b.av, .view false (cIs held) held.length, .view false (cVs v) v.length, .flt .f32 step, .flt .f32 shift, .int .i64 rounds] [] (.tup [.slc 0 0 (sofL b held v step shift rounds).length 3, .flt .f32 (sofX b held v step shift rounds), .bool (sofK b held v step shift rounds)]) [.blk true false 41 (cVs (sofL b held v step shift rounds))] := by
  refine FnSpec.walkW dr_ok Tryz.func39 rfl (by kernel_rfl) rfl rfl rfl (by simp) ?_
  simp
  (first | refine callG_r ?_ | refine callD_r ?_); simp; (first | refine callN_flat (by with_reducible first | exact c_l09Can b _ held v step hs hh hl) rfl ?_ | refine callN_new (by with_reducible first | exact c_l09Can b _ held v step hs hh hl) ?_ | refine callM_flat (by with_reducible first | exact c_l09Can b _ held v step hs hh hl) rfl ?_ | refine callM_new (by with_reducible first | exact c_l09Can b _ held v step hs hh hl) ?_)
  cases hc : canB b held v step with
  | false =>
    have e : sofR b held v step shift rounds = none := by simp [sofR, hc]
    simp
    refine ⟨U 34 [(12, .slc 0 0 0 3), (13, .flt .f32 0), (14, .bool false)], [.blk true false 41 []], by (refine weak_gc [(none, 41)] ?_ ?_ ?_ ?_ ?_ <;> simp), ?_⟩
    (refine endG_keepT [(some 0, 0)] ?_ ?_ ?_ ?_ ?_ ?_ ?_ ⟨rfl, rfl⟩ ?_ <;> simp [sofL, sofX, sofK, e])
  | true =>
  simp
  (first | refine callG_r ?_ | refine callD_r ?_); simp; (first | refine callN_flat (by with_reducible first | exact c_l00In _ _ _) rfl ?_ | refine callN_new (by with_reducible first | exact c_l00In _ _ _) ?_ | refine callM_flat (by with_reducible first | exact c_l00In _ _ _) rfl ?_ | refine callM_new (by with_reducible first | exact c_l00In _ _ _) ?_)
  cases hi : inB rounds 0 40 with
  | false =>
    have e : sofR b held v step shift rounds = none := by simp [sofR, hi]
    simp
    refine ⟨U 34 [(12, .slc 0 0 0 3), (13, .flt .f32 0), (14, .bool false)], [.blk true false 41 []], by (refine weak_gc [(none, 41)] ?_ ?_ ?_ ?_ ?_ <;> simp), ?_⟩
    (refine endG_keepT [(some 0, 0)] ?_ ?_ ?_ ?_ ?_ ?_ ?_ ⟨rfl, rfl⟩ ?_ <;> simp [sofL, sofX, sofK, e])
  | true =>
  obtain ⟨hv, hp, hlen, hst⟩ := canB_of hc
  have hpl := (vldB_of hv).pl
  simp
  have eR : sofR b held v step shift rounds = sftR b held v step shift rounds.toNat := by simp [sofR, hc, hi, sftR]
  have hi' := hi
  simp [inB] at hi'
  obtain ⟨r, rfl⟩ : ∃ r : Nat, rounds = r := ⟨rounds.toNat, by omega⟩
  rw [Int.toNat_natCast] at eR
  cases hm : sftR b held v step shift r with
  | none =>
    rw [hm] at eR
    (first | refine callG_r ?_ | refine callD_r ?_); simp; (first | refine callN_flat (by with_reducible first | exact c_l09Soft0 b _ held v step shift r hs hv hlen hh hp (by omega) hm) rfl ?_ | refine callN_new (by with_reducible first | exact c_l09Soft0 b _ held v step shift r hs hv hlen hh hp (by omega) hm) ?_ | refine callM_flat (by with_reducible first | exact c_l09Soft0 b _ held v step shift r hs hv hlen hh hp (by omega) hm) rfl ?_ | refine callM_new (by with_reducible first | exact c_l09Soft0 b _ held v step shift r hs hv hlen hh hp (by omega) hm) ?_)
    simp
    refine ⟨U 34 [(12, .slc 0 0 0 3), (13, .flt .f32 0), (14, .bool false)], [.blk true false 41 []], by (refine weak_gc [(none, 41)] ?_ ?_ ?_ ?_ ?_ <;> simp), ?_⟩
    (refine endG_keepT [(some 0, 0)] ?_ ?_ ?_ ?_ ?_ ?_ ?_ ⟨rfl, rfl⟩ ?_ <;> simp [sofL, sofX, sofK, eR])
  | some W =>
    rw [hm] at eR
    have hWl := modR_len (fun w => sofB_len b held w step shift) hm
    rw [freeL_len] at hWl
    (first | refine callG_r ?_ | refine callD_r ?_); simp; (first | refine callN_flat (by with_reducible first | exact c_l09Soft b _ held v step shift r hs hv hlen hh hp (by omega) W hm) rfl ?_ | refine callN_new (by with_reducible first | exact c_l09Soft b _ held v step shift r hs hv hlen hh hp (by omega) W hm) ?_ | refine callM_flat (by with_reducible first | exact c_l09Soft b _ held v step shift r hs hv hlen hh hp (by omega) W hm) rfl ?_ | refine callM_new (by with_reducible first | exact c_l09Soft b _ held v step shift r hs hv hlen hh hp (by omega) W hm) ?_)
    simp
    refine endGW_of ?_
    (refine endG_keepT [(some 1, 0)] ?_ ?_ ?_ ?_ ?_ ?_ ?_ ⟨rfl, rfl⟩ ?_ <;> simp [sofL, sofX, sofK, eR, hWl])
end Go.Proofs.YtnpflgeenecaeaaGreat
