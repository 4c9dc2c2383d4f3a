/- Contracts: threads pull, many times. Contracts: cloths over a ball. Contracts: what the program and the reference do with cloths. Contracts: pulls, rounds and runs of cloths. Contracts: runs of cloths. Contracts: how far threads are stretched; places inside a ball.
Conditions: none. -/
import Derived.Test.YtbjfkhjckfodbaaS8
namespace Go.Proofs.Ytbjfkhjckfodbaa
set_option linter.all false
open Go Go.Awp
set_option maxRecDepth 100000
set_option maxHeartbeats 4000000
set_option pp.deepTerms true

/-- Places behind a pull of a thread. -/
def pullL (c : Clo) (l : List V) (t : Th) : List V := (pullC { c with pl := l } t).pl
theorem pullL_length (c : Clo) (l : List V) (t : Th) : (pullL c l t).length = l.length := pullC_pl _ _
theorem pullL_eq (c : Clo) (l : List V) (t : Th) : pullC { c with pl := l } t = { c with pl := pullL c l t } := by
  have := pullC_rest { c with pl := l } t
  unfold pullL
  generalize pullC { c with pl := l } t = d at *
  obtain ⟨h1, h2, h3⟩ := this
  cases d
  simp only at h1 h2 h3
  subst h1; subst h2; subst h3; rfl
def partL (c : Clo) (l : List V) (j : Nat) : List V := (c.th.take j).foldl (pullL c) l
theorem partL_length (c : Clo) (l : List V) (j : Nat) : (partL c l j).length = l.length := by
  unfold partL
  generalize c.th.take j = ts
  induction ts generalizing l with
  | nil => rfl
  | cons t ts ih => rw [List.foldl_cons, ih, pullL_length]
theorem partL_succ (c : Clo) (l : List V) {j : Nat} (h : j < c.th.length) : partL c l (j + 1) = pullL c (partL c l j) c.th[j] := by
  unfold partL
  rw [← List.take_append_getElem h, List.foldl_append]; rfl
def relL (c : Clo) : Nat → List V
  | 0 => c.pl
  | r + 1 => partL c (relL c r) c.th.length
theorem relL_length (c : Clo) : ∀ r, (relL c r).length = c.pl.length
  | 0 => rfl
  | r + 1 => by rw [relL, partL_length, relL_length c r]
def relC (c : Clo) (r : Nat) : Clo := { c with pl := relL c r }
theorem c_relax (c : Clo) (r : Nat) (hs : c.Small) (hn : c.pl.length ≤ 64) (hp : ∀ p ∈ c.pin, 0 ≤ p ∧ p < c.pl.length) (ht : ∀ t ∈ c.th, ThOk c.pl.length t) (hr : r ≤ 40) :
    Fun Try.prog 61 [.ptr 0 0, .int .i64 r] (c.at false) (.tup []) ((relC c r).at false) := by
  have h3 := hs.th
  refine FnSpec.walk dr_ok Try.func61 rfl (by kernel_rfl) rfl rfl rfl (by simp) ?_
  simp
  (first | refine callG_r ?_ | refine callD_r ?_); simp; (first | refine callN_flat (by with_reducible first | exact c_pins c hs hn hp) rfl ?_ | refine callN_new (by with_reducible first | exact c_pins c hs hn hp) ?_ | refine callM_flat (by with_reducible first | exact c_pins c hs hn hp) rfl ?_ | refine callM_new (by with_reducible first | exact c_pins c hs hn hp) ?_)
  simp
  refine loopG_of (α := Nat) (fun k => k ≤ r) (fun k => r - k) (fun k => [(12, .int .i64 k), (11, .int .i64 r), (4, .slc 5 0 c.pl.length 1), (0, .ptr 0 0)])
    (fun k => [.blk false true 28 [.slc 1 0 (relL c k).length 3, .slc 2 0 c.ol.length 3, .slc 3 0 c.th.length 3, .slc 4 0 c.pin.length 1],
      .blk false false 38 (cVs (relL c k)), .blk false false 38 (cVs c.ol), .blk false false 33 (cTs c.th), .blk false false 2 (cIs c.pin), .blk true false 4 (cBs (pinT c.pl.length c.pin))]) 0 (by simp) ?_ fun k hk => ?_
  · (refine weak_gc [(some 5, 0)] ?_ ?_ ?_ ?_ ?_ <;> simp [relL])
  have hw := nat_wrap (k := k) (by omega)
  have hl := relL_length c k
  by_cases b : k < r
  · simp [b, hw]
    refine loopG_of (α := Nat) (fun j => j ≤ c.th.length) (fun j => c.th.length - j) (fun j => [(19, .int .i64 j), (18, .int .i64 c.th.length), (17, .slc 3 0 c.th.length 3), (12, .int .i64 k), (11, .int .i64 r), (4, .slc 5 0 c.pl.length 1), (0, .ptr 0 0)])
      (fun j => [.blk false true 28 [.slc 1 0 (partL c (relL c k) j).length 3, .slc 2 0 c.ol.length 3, .slc 3 0 c.th.length 3, .slc 4 0 c.pin.length 1],
        .blk false false 38 (cVs (partL c (relL c k) j)), .blk false false 38 (cVs c.ol), .blk false false 33 (cTs c.th), .blk false false 2 (cIs c.pin), .blk true false 4 (cBs (pinT c.pl.length c.pin))]) 0 (by simp) ?_ fun j hj => ?_
    · (refine weak_gc [(some 5, 0)] ?_ ?_ ?_ ?_ ?_ <;> simp [partL])
    have hw2 := nat_wrap (k := j) (by omega)
    have hl2 := partL_length c (relL c k) j
    by_cases b2 : j < c.th.length
    · simp [b2, hw2]
      have hc := c_pull { c with pl := partL c (relL c k) j } c.th[j] c.pl.length c.pl.length ⟨by simp only; rw [hl2, hl]; exact hs.pl, hs.ol, hs.th, hs.pin⟩ (by simp only; rw [hl2, hl]) (by simp only; rw [hl2, hl]) (by simp only; rw [hl2, hl]; exact ht _ (List.getElem_mem b2))
      rw [pullL_eq, ← partL_succ c _ b2] at hc
      (first | refine callG_on true [0, 1, 2, 3, 4] ?_ | refine callD_on true [0, 1, 2, 3, 4] ?_); simp; (first | refine callN_fun (by with_reducible exact hc) (by simp) ?_ | refine callMD_fun (by with_reducible exact hc) (by simp) ?_)
      simp [hw2]
      refine loopK_next (j + 1) (by omega) (by omega) ?_
      (refine weak_gc [(some 5, 0)] ?_ ?_ ?_ ?_ ?_ <;> simp)
    · obtain rfl : j = c.th.length := by omega
      simp [hw]
      refine loopK_next (k + 1) (by omega) (by omega) ?_
      (refine weak_gc [(some 5, 0)] ?_ ?_ ?_ ?_ ?_ <;> simp [relL])
  · obtain rfl : k = r := by omega
    simp
    (refine endG_keepT [] ?_ ?_ ?_ ?_ ?_ ?_ ?_ ⟨rfl, rfl⟩ ?_ <;> simp [relC])
end Go.Proofs.Ytbjfkhjckfodbaa
namespace Go.Proofs.Ytbjfkhjckfodbaa
set_option linter.all false
open Go Go.Awp
set_option maxRecDepth 100000
set_option maxHeartbeats 4000000
set_option pp.deepTerms true

def drapeV (o : V) (r : Nat) (p : V) : V := if ford .f32 (vlong (vsub p o)) r = some .lt then (if ford .f32 (vlong (vsub p o)) 0 = some .eq then vadd o (0, 0, r) else vadd o (vscale (vsub p o) (fop .quo .f32 r (vlong (vsub p o))))) else p
def drapeC (c : Clo) (o : V) (r : Nat) : Clo := { c with pl := c.pl.mapIdx fun i p => if decide ((i : Int) ∈ c.pin) = false then drapeV o r p else p }
theorem drapeC_pl (c : Clo) (o : V) (r : Nat) : (drapeC c o r).pl.length = c.pl.length := by simp [drapeC]
theorem c_drape (c : Clo) (o : V) (r : Nat) (hs : c.Small) (hn : c.pl.length ≤ 64) (hp : ∀ p ∈ c.pin, 0 ≤ p ∧ p < c.pl.length) :
    Fun Try.prog 62 [.ptr 0 0, aV o, .flt .f32 r] (c.at false) (.tup []) ((drapeC c o r).at false) := by
  refine FnSpec.walk dr_ok Try.func62 rfl (by kernel_rfl) rfl rfl rfl (by simp) ?_
  simp
  (first | refine callG_r ?_ | refine callD_r ?_); simp; (first | refine callN_flat (by with_reducible first | exact c_pins c hs hn hp) rfl ?_ | refine callN_new (by with_reducible first | exact c_pins c hs hn hp) ?_ | refine callM_flat (by with_reducible first | exact c_pins c hs hn hp) rfl ?_ | refine callM_new (by with_reducible first | exact c_pins c hs hn hp) ?_)
  simp
  have hlp := drapeC_pl c o r
  refine loopG_of (α := Nat) (fun k => k ≤ c.pl.length) (fun k => c.pl.length - k) (fun k => [(15, .int .i64 k), (14, .int .i64 c.pl.length), (13, .slc 6 0 c.pl.length 1), (0, .ptr 0 0), (2, .flt .f32 r), (4, .ptr 5 0)])
    (fun k => [.blk false true 28 [.slc 1 0 c.pl.length 3, .slc 2 0 c.ol.length 3, .slc 3 0 c.th.length 3, .slc 4 0 c.pin.length 1],
      .blk false false 38 (cVs (mixN (drapeC c o r).pl c.pl k)), .blk false false 38 (cVs c.ol), .blk false false 33 (cTs c.th), .blk false false 2 (cIs c.pin),
      .blk true true 38 [.flt .f32 o.1, .flt .f32 o.2.1, .flt .f32 o.2.2], .blk true false 4 (cBs (pinT c.pl.length c.pin))]) 0 (by simp) ?_ fun k hk => ?_
  · (refine weak_gc [(some 5, 0), (some 6, 0)] ?_ ?_ ?_ ?_ ?_ <;> simp)
  have hw := nat_wrap (k := k) (by omega)
  have hm := mixN_length k hlp
  by_cases b : k < c.pl.length
  · simp [b, hw, hm, pinT_get, mixN_get hlp b]
    (first | refine callG_r ?_ | refine callD_r ?_); simp; (first | refine callN_flat (by with_reducible first | exact c_less _ _ _ _ _ _) rfl ?_ | refine callN_new (by with_reducible first | exact c_less _ _ _ _ _ _) ?_ | refine callM_flat (by with_reducible first | exact c_less _ _ _ _ _ _) rfl ?_ | refine callM_new (by with_reducible first | exact c_less _ _ _ _ _ _) ?_)
    simp [b, hw, hm, pinT_get, mixN_get hlp b]
    (first | refine callG_r ?_ | refine callD_r ?_); simp; (first | refine callN_flat (by with_reducible first | exact c_long _ _ _) rfl ?_ | refine callN_new (by with_reducible first | exact c_long _ _ _) ?_ | refine callM_flat (by with_reducible first | exact c_long _ _ _) rfl ?_ | refine callM_new (by with_reducible first | exact c_long _ _ _) ?_)
    simp [b, hw, hm, pinT_get, mixN_get hlp b]
    by_cases e1 : (k : Int) ∈ c.pin
    · simp [e1, hw]
      refine loopK_next (k + 1) (by omega) (by omega) ?_
      rw [← mixN_skip hlp b (by simp [drapeC, e1])]
      (refine weak_gc [(some 5, 0), (some 6, 0)] ?_ ?_ ?_ ?_ ?_ <;> simp)
    · by_cases e2 : ford .f32 (vlong (vsub c.pl[k] o)) r = some .lt
      · by_cases e3 : ford .f32 (vlong (vsub c.pl[k] o)) 0 = some .eq
        · simp [e1, e2, e3, b, hw, hm]
          (first | refine callG_r ?_ | refine callD_r ?_); simp; (first | refine callN_flat (by with_reducible first | exact c_add _ _ _ _ _ _) rfl ?_ | refine callN_new (by with_reducible first | exact c_add _ _ _ _ _ _) ?_ | refine callM_flat (by with_reducible first | exact c_add _ _ _ _ _ _) rfl ?_ | refine callM_new (by with_reducible first | exact c_add _ _ _ _ _ _) ?_)
          simp [b, hw, hm]
          refine ⟨by omega, loopK_next (k + 1) (by omega) (by omega) ?_⟩
          rw [mixN_set (by omega) hlp (by simp [drapeC, drapeV, e1, e2, e3])]
          (refine weak_gc [(some 5, 0), (some 6, 0)] ?_ ?_ ?_ ?_ ?_ <;> simp)
        · simp [e1, e2, e3, b, hw, hm]
          (first | refine callG_r ?_ | refine callD_r ?_); simp; (first | refine callN_flat (by with_reducible first | exact c_scale _ _ _ _) rfl ?_ | refine callN_new (by with_reducible first | exact c_scale _ _ _ _) ?_ | refine callM_flat (by with_reducible first | exact c_scale _ _ _ _) rfl ?_ | refine callM_new (by with_reducible first | exact c_scale _ _ _ _) ?_)
          simp [b, hw, hm]
          (first | refine callG_r ?_ | refine callD_r ?_); simp; (first | refine callN_flat (by with_reducible first | exact c_add _ _ _ _ _ _) rfl ?_ | refine callN_new (by with_reducible first | exact c_add _ _ _ _ _ _) ?_ | refine callM_flat (by with_reducible first | exact c_add _ _ _ _ _ _) rfl ?_ | refine callM_new (by with_reducible first | exact c_add _ _ _ _ _ _) ?_)
          simp [b, hw, hm]
          refine ⟨by omega, loopK_next (k + 1) (by omega) (by omega) ?_⟩
          rw [mixN_set (by omega) hlp (by simp [drapeC, drapeV, e1, e2, e3])]
          (refine weak_gc [(some 5, 0), (some 6, 0)] ?_ ?_ ?_ ?_ ?_ <;> simp)
      · simp [e1, e2, hw]
        refine loopK_next (k + 1) (by omega) (by omega) ?_
        rw [← mixN_skip hlp b (by simp [drapeC, drapeV, e1, e2])]
        (refine weak_gc [(some 5, 0), (some 6, 0)] ?_ ?_ ?_ ?_ ?_ <;> simp)
  · obtain rfl : k = c.pl.length := by omega
    rw [mixN_all (by omega) (by omega)]
    simp
    (refine endG_keepT [] ?_ ?_ ?_ ?_ ?_ ?_ ?_ ⟨rfl, rfl⟩ ?_ <;> simp [drapeC])
end Go.Proofs.Ytbjfkhjckfodbaa
namespace Go.Proofs.Ytbjfkhjckfodbaa
set_option linter.all false
open Go Go.Awp
set_option maxRecDepth 100000
set_option maxHeartbeats 4000000
set_option pp.deepTerms true

theorem Clo.Small.of_len {c d : Clo} (hs : c.Small) (h1 : d.pl.length = c.pl.length) (h2 : d.ol.length = c.ol.length) (h3 : d.th.length = c.th.length) (h4 : d.pin.length = c.pin.length) : d.Small :=
  ⟨by rw [h1]; exact hs.pl, by rw [h2]; exact hs.ol, by rw [h3]; exact hs.th, by rw [h4]; exact hs.pin⟩
-- fall
theorem fallC_small {c : Clo} {f : V} {q : Nat} (hs : c.Small) : (fallC c f q).Small := hs.of_len (fallC_pl _ _ _) (fallC_ol _ _ _) rfl rfl
-- drape
theorem c_DrapeCloth (c : Clo) (o : V) (r : Nat) (hs : c.Small) (hv : (vldC c && overB r) = true) : Fun Try.prog 20 [c.av, aV o, .flt .f32 r] [] (.tup [(drapeC c o r).own 0, .bool true]) (drapeC c o r).mem := by
  simp only [Bool.and_eq_true] at hv
  obtain ⟨hv, hr⟩ := hv
  have hvl := vld_len hv
  refine FnSpec.walk dr_ok Try.func20 rfl (by kernel_rfl) rfl rfl rfl (by simp) ?_
  simp
  (first | refine callG_r ?_ | refine callD_r ?_); simp; (first | refine callN_flat (by with_reducible first | exact c_ValidCloth c hs) rfl ?_ | refine callN_new (by with_reducible first | exact c_ValidCloth c hs) ?_ | refine callM_flat (by with_reducible first | exact c_ValidCloth c hs) rfl ?_ | refine callM_new (by with_reducible first | exact c_ValidCloth c hs) ?_)
  simp [hv]
  (first | refine callG_r ?_ | refine callD_r ?_); simp; (first | refine callN_flat (by with_reducible first | exact c_isOver _) rfl ?_ | refine callN_new (by with_reducible first | exact c_isOver _) ?_ | refine callM_flat (by with_reducible first | exact c_isOver _) rfl ?_ | refine callM_new (by with_reducible first | exact c_isOver _) ?_)
  simp [hr]
  (first | refine callG_r ?_ | refine callD_r ?_); simp; (first | refine callN_flat (by with_reducible first | exact c_copyCloth c hs) rfl ?_ | refine callN_new (by with_reducible first | exact c_copyCloth c hs) ?_ | refine callM_flat (by with_reducible first | exact c_copyCloth c hs) rfl ?_ | refine callM_new (by with_reducible first | exact c_copyCloth c hs) ?_)
  simp
  (first | refine callG_on true [7, 3, 4, 5, 6] ?_ | refine callD_on true [7, 3, 4, 5, 6] ?_); simp; (first | refine callN_fun (by with_reducible exact c_drape c o r hs hvl.1 (vld_pins hv)) (by simp) ?_ | refine callMD_fun (by with_reducible exact c_drape c o r hs hvl.1 (vld_pins hv)) (by simp) ?_)
  simp
  (refine endG_keepT [(some 3, 0), (some 4, 0), (some 5, 0), (some 6, 0)] ?_ ?_ ?_ ?_ ?_ ?_ ?_ ⟨rfl, rfl⟩ ?_ <;> simp)
theorem c_DrapeCloth0 (c : Clo) (o : V) (r : Nat) (hs : c.Small) (hv : (vldC c && overB r) = false) : Fun Try.prog 20 [c.av, aV o, .flt .f32 r] [] (.tup [noC, .bool false]) [] := by
  refine FnSpec.walk dr_ok Try.func20 rfl (by kernel_rfl) rfl rfl rfl (by simp) ?_
  simp
  (first | refine callG_r ?_ | refine callD_r ?_); simp; (first | refine callN_flat (by with_reducible first | exact c_ValidCloth c hs) rfl ?_ | refine callN_new (by with_reducible first | exact c_ValidCloth c hs) ?_ | refine callM_flat (by with_reducible first | exact c_ValidCloth c hs) rfl ?_ | refine callM_new (by with_reducible first | exact c_ValidCloth c hs) ?_)
  cases h : vldC c with
  | false => simp; (refine endG_keepT [] ?_ ?_ ?_ ?_ ?_ ?_ ?_ ⟨rfl, rfl⟩ ?_ <;> simp [noC])
  | true =>
    rw [h] at hv
    simp at hv
    simp
    (first | refine callG_r ?_ | refine callD_r ?_); simp; (first | refine callN_flat (by with_reducible first | exact c_isOver _) rfl ?_ | refine callN_new (by with_reducible first | exact c_isOver _) ?_ | refine callM_flat (by with_reducible first | exact c_isOver _) rfl ?_ | refine callM_new (by with_reducible first | exact c_isOver _) ?_)
    simp [hv]
    (refine endG_keepT [] ?_ ?_ ?_ ?_ ?_ ?_ ?_ ⟨rfl, rfl⟩ ?_ <;> simp [noC])
theorem drapeC_small {c : Clo} {o : V} {r : Nat} (hs : c.Small) : (drapeC c o r).Small := hs.of_len (drapeC_pl _ _ _) rfl rfl rfl
end Go.Proofs.Ytbjfkhjckfodbaa
namespace Go.Proofs.Ytbjfkhjckfodbaa
set_option linter.all false
open Go Go.Awp
set_option maxRecDepth 100000
set_option maxHeartbeats 4000000
set_option pp.deepTerms true

theorem inB_nat2 {n m : Int} (h : inB n 0 m = true) : ∃ k : Nat, n = k ∧ (k : Int) ≤ m := by
  simp [inB] at h
  exact ⟨n.toNat, by omega, by omega⟩
-- a thread
def pulC (c : Clo) (n : Int) : Clo := pullC c (c.th.getD n.toNat (0, 0, 0))
theorem pulC_small {c : Clo} {n : Int} (hs : c.Small) : (pulC c n).Small := by
  obtain ⟨h1, h2, h3⟩ := pullC_rest c (c.th.getD n.toNat (0, 0, 0))
  exact hs.of_len (pullC_pl _ _) (by rw [pulC, h1]) (by rw [pulC, h2]) (by rw [pulC, h3])
theorem c_PullThread (c : Clo) (n : Int) (hs : c.Small) (hv : (vldC c && inB n 0 ((c.th.length : Int) - 1)) = true) : Fun Try.prog 11 [c.av, .int .i64 n] [] (.tup [(pulC c n).own 0, .bool true]) (pulC c n).mem := by
  simp only [Bool.and_eq_true] at hv
  obtain ⟨hv, hr⟩ := hv
  have hvl := vld_len hv
  obtain ⟨k, rfl, hk⟩ := inB_nat2 hr
  have b : k < c.th.length := by omega
  have e : pulC c k = pullC c c.th[k] := by simp [pulC, b]
  rw [e]
  have hw : IntKind.i64.wrap ((c.th.length : Int) - 1) = (c.th.length : Int) - 1 := wrap64 (by omega) (by omega)
  refine FnSpec.walk dr_ok Try.func11 rfl (by kernel_rfl) rfl rfl rfl (by simp) ?_
  simp
  (first | refine callG_r ?_ | refine callD_r ?_); simp; (first | refine callN_flat (by with_reducible first | exact c_ValidCloth c hs) rfl ?_ | refine callN_new (by with_reducible first | exact c_ValidCloth c hs) ?_ | refine callM_flat (by with_reducible first | exact c_ValidCloth c hs) rfl ?_ | refine callM_new (by with_reducible first | exact c_ValidCloth c hs) ?_)
  simp [hv, hw]
  (first | refine callG_r ?_ | refine callD_r ?_); simp; (first | refine callN_flat (by with_reducible first | exact c_within _ _ _) rfl ?_ | refine callN_new (by with_reducible first | exact c_within _ _ _) ?_ | refine callM_flat (by with_reducible first | exact c_within _ _ _) rfl ?_ | refine callM_new (by with_reducible first | exact c_within _ _ _) ?_)
  simp [hr]
  (first | refine callG_r ?_ | refine callD_r ?_); simp; (first | refine callN_flat (by with_reducible first | exact c_copyCloth c hs) rfl ?_ | refine callN_new (by with_reducible first | exact c_copyCloth c hs) ?_ | refine callM_flat (by with_reducible first | exact c_copyCloth c hs) rfl ?_ | refine callM_new (by with_reducible first | exact c_copyCloth c hs) ?_)
  simp [b]
  (first | refine callG_r ?_ | refine callD_r ?_); simp; (first | refine callN_flat (by with_reducible first | exact c_pins c hs hvl.1 (vld_pins hv)) rfl ?_ | refine callN_new (by with_reducible first | exact c_pins c hs hvl.1 (vld_pins hv)) ?_ | refine callM_flat (by with_reducible first | exact c_pins c hs hvl.1 (vld_pins hv)) rfl ?_ | refine callM_new (by with_reducible first | exact c_pins c hs hvl.1 (vld_pins hv)) ?_)
  simp
  (first | refine callG_on true [6, 2, 3, 4, 5] ?_ | refine callD_on true [6, 2, 3, 4, 5] ?_); simp; (first | refine callN_fun (by with_reducible exact c_pull c c.th[k] c.pl.length c.pl.length hs rfl rfl (vld_th hv _ (List.getElem_mem b))) (by simp) ?_ | refine callMD_fun (by with_reducible exact c_pull c c.th[k] c.pl.length c.pl.length hs rfl rfl (vld_th hv _ (List.getElem_mem b))) (by simp) ?_)
  simp
  (refine endG_keepT [(some 2, 0), (some 3, 0), (some 4, 0), (some 5, 0)] ?_ ?_ ?_ ?_ ?_ ?_ ?_ ⟨rfl, rfl⟩ ?_ <;> simp)
theorem wrap_th {c : Clo} (hs : c.Small) : IntKind.i64.wrap ((c.th.length : Int) - 1) = (c.th.length : Int) - 1 := by
  have := hs.th
  exact wrap64 (by omega) (by omega)
theorem c_PullThread0 (c : Clo) (n : Int) (hs : c.Small) (hv : (vldC c && inB n 0 ((c.th.length : Int) - 1)) = false) : Fun Try.prog 11 [c.av, .int .i64 n] [] (.tup [noC, .bool false]) [] := by
  refine FnSpec.walk dr_ok Try.func11 rfl (by kernel_rfl) rfl rfl rfl (by simp) ?_
  simp
  (first | refine callG_r ?_ | refine callD_r ?_); simp; (first | refine callN_flat (by with_reducible first | exact c_ValidCloth c hs) rfl ?_ | refine callN_new (by with_reducible first | exact c_ValidCloth c hs) ?_ | refine callM_flat (by with_reducible first | exact c_ValidCloth c hs) rfl ?_ | refine callM_new (by with_reducible first | exact c_ValidCloth c hs) ?_)
  cases h : vldC c with
  | false => simp; (refine endG_keepT [] ?_ ?_ ?_ ?_ ?_ ?_ ?_ ⟨rfl, rfl⟩ ?_ <;> simp [noC])
  | true =>
    rw [h] at hv
    simp at hv
    simp [wrap_th hs]
    (first | refine callG_r ?_ | refine callD_r ?_); simp; (first | refine callN_flat (by with_reducible first | exact c_within _ _ _) rfl ?_ | refine callN_new (by with_reducible first | exact c_within _ _ _) ?_ | refine callM_flat (by with_reducible first | exact c_within _ _ _) rfl ?_ | refine callM_new (by with_reducible first | exact c_within _ _ _) ?_)
    simp [hv]
    (refine endG_keepT [] ?_ ?_ ?_ ?_ ?_ ?_ ?_ ⟨rfl, rfl⟩ ?_ <;> simp [noC])
theorem relC_small {c : Clo} {n : Nat} (hs : c.Small) : (relC c n).Small := hs.of_len (relL_length _ _) rfl rfl rfl
theorem c_RelaxCloth (c : Clo) (n : Int) (hs : c.Small) (hv : (vldC c && inB n 0 40) = true) : Fun Try.prog 41 [c.av, .int .i64 n] [] (.tup [(relC c n.toNat).own 0, .bool true]) (relC c n.toNat).mem := by
  simp only [Bool.and_eq_true] at hv
  obtain ⟨hv, hr⟩ := hv
  have hvl := vld_len hv
  obtain ⟨k, rfl, hk⟩ := inB_nat2 hr
  rw [Int.toNat_natCast]
  refine FnSpec.walk dr_ok Try.func41 rfl (by kernel_rfl) rfl rfl rfl (by simp) ?_
  simp
  (first | refine callG_r ?_ | refine callD_r ?_); simp; (first | refine callN_flat (by with_reducible first | exact c_ValidCloth c hs) rfl ?_ | refine callN_new (by with_reducible first | exact c_ValidCloth c hs) ?_ | refine callM_flat (by with_reducible first | exact c_ValidCloth c hs) rfl ?_ | refine callM_new (by with_reducible first | exact c_ValidCloth c hs) ?_)
  simp [hv]
  (first | refine callG_r ?_ | refine callD_r ?_); simp; (first | refine callN_flat (by with_reducible first | exact c_within _ _ _) rfl ?_ | refine callN_new (by with_reducible first | exact c_within _ _ _) ?_ | refine callM_flat (by with_reducible first | exact c_within _ _ _) rfl ?_ | refine callM_new (by with_reducible first | exact c_within _ _ _) ?_)
  simp [hr]
  (first | refine callG_r ?_ | refine callD_r ?_); simp; (first | refine callN_flat (by with_reducible first | exact c_copyCloth c hs) rfl ?_ | refine callN_new (by with_reducible first | exact c_copyCloth c hs) ?_ | refine callM_flat (by with_reducible first | exact c_copyCloth c hs) rfl ?_ | refine callM_new (by with_reducible first | exact c_copyCloth c hs) ?_)
  simp
  (first | refine callG_on true [6, 2, 3, 4, 5] ?_ | refine callD_on true [6, 2, 3, 4, 5] ?_); simp; (first | refine callN_fun (by with_reducible exact c_relax c k hs hvl.1 (vld_pins hv) (vld_th hv) (by omega)) (by simp) ?_ | refine callMD_fun (by with_reducible exact c_relax c k hs hvl.1 (vld_pins hv) (vld_th hv) (by omega)) (by simp) ?_)
  simp
  (refine endG_keepT [(some 2, 0), (some 3, 0), (some 4, 0), (some 5, 0)] ?_ ?_ ?_ ?_ ?_ ?_ ?_ ⟨rfl, rfl⟩ ?_ <;> simp)
theorem c_RelaxCloth0 (c : Clo) (n : Int) (hs : c.Small) (hv : (vldC c && inB n 0 40) = false) : Fun Try.prog 41 [c.av, .int .i64 n] [] (.tup [noC, .bool false]) [] := by
  refine FnSpec.walk dr_ok Try.func41 rfl (by kernel_rfl) rfl rfl rfl (by simp) ?_
  simp
  (first | refine callG_r ?_ | refine callD_r ?_); simp; (first | refine callN_flat (by with_reducible first | exact c_ValidCloth c hs) rfl ?_ | refine callN_new (by with_reducible first | exact c_ValidCloth c hs) ?_ | refine callM_flat (by with_reducible first | exact c_ValidCloth c hs) rfl ?_ | refine callM_new (by with_reducible first | exact c_ValidCloth c hs) ?_)
  cases h : vldC c with
  | false => simp; (refine endG_keepT [] ?_ ?_ ?_ ?_ ?_ ?_ ?_ ⟨rfl, rfl⟩ ?_ <;> simp [noC])
  | true =>
    rw [h] at hv
    simp at hv
    simp
    (first | refine callG_r ?_ | refine callD_r ?_); simp; (first | refine callN_flat (by with_reducible first | exact c_within _ _ _) rfl ?_ | refine callN_new (by with_reducible first | exact c_within _ _ _) ?_ | refine callM_flat (by with_reducible first | exact c_within _ _ _) rfl ?_ | refine callM_new (by with_reducible first | exact c_within _ _ _) ?_)
    simp [hv]
    (refine endG_keepT [] ?_ ?_ ?_ ?_ ?_ ?_ ?_ ⟨rfl, rfl⟩ ?_ <;> simp [noC])
end Go.Proofs.Ytbjfkhjckfodbaa
namespace Go.Proofs.Ytbjfkhjckfodbaa
set_option linter.all false
open Go Go.Awp
set_option maxRecDepth 100000
set_option maxHeartbeats 4000000
set_option pp.deepTerms true

/-- What a run is told. -/
structure Rn where
  f : V
  q : Nat
  r : Nat
  o : V
  rad : Nat
def runC (c : Clo) (x : Rn) : Nat → Clo
  | 0 => c
  | k + 1 => drapeC (relC (fallC (runC c x k) x.f x.q) x.r) x.o x.rad
structure Like (d c : Clo) : Prop where
  pl : d.pl.length = c.pl.length
  ol : d.ol.length = c.ol.length
  th : d.th = c.th
  pin : d.pin = c.pin
theorem run_like (c : Clo) (x : Rn) : ∀ k, Like (runC c x k) c
  | 0 => ⟨rfl, rfl, rfl, rfl⟩
  | k + 1 => by
    obtain ⟨h1, h2, h3, h4⟩ := run_like c x k
    exact ⟨by rw [runC, drapeC_pl]; show (relL _ _).length = _; rw [relL_length, fallC_pl, h1], by rw [runC]; show (fallC (runC c x k) x.f x.q).ol.length = _; rw [fallC_ol, h2], h3, h4⟩
theorem Like.small {c d : Clo} (h : Like d c) (hs : c.Small) : d.Small := hs.of_len h.pl h.ol (by rw [h.th]) (by rw [h.pin])
theorem c_RunCloth (c : Clo) (f : V) (q : Nat) (r : Int) (o : V) (rad : Nat) (n : Int) (hs : c.Small) (hv : (vldC c && inB r 0 40 && overB rad && inB n 0 40) = true) :
    Fun Try.prog 18 [c.av, aV f, .flt .f32 q, .int .i64 r, aV o, .flt .f32 rad, .int .i64 n] [] (.tup [(runC c ⟨f, q, r.toNat, o, rad⟩ n.toNat).own 0, .bool true]) (runC c ⟨f, q, r.toNat, o, rad⟩ n.toNat).mem := by
  simp only [Bool.and_eq_true] at hv
  obtain ⟨⟨⟨hv, hr⟩, ho⟩, hn⟩ := hv
  have hvl := vld_len hv
  obtain ⟨r, rfl, hr40⟩ := inB_nat2 hr
  obtain ⟨n, rfl, hn40⟩ := inB_nat2 hn
  rw [Int.toNat_natCast, Int.toNat_natCast]
  refine FnSpec.walk dr_ok Try.func18 rfl (by kernel_rfl) rfl rfl rfl (by simp) ?_
  simp
  (first | refine callG_r ?_ | refine callD_r ?_); simp; (first | refine callN_flat (by with_reducible first | exact c_ValidCloth c hs) rfl ?_ | refine callN_new (by with_reducible first | exact c_ValidCloth c hs) ?_ | refine callM_flat (by with_reducible first | exact c_ValidCloth c hs) rfl ?_ | refine callM_new (by with_reducible first | exact c_ValidCloth c hs) ?_)
  simp [hv]
  (first | refine callG_r ?_ | refine callD_r ?_); simp; (first | refine callN_flat (by with_reducible first | exact c_within _ _ _) rfl ?_ | refine callN_new (by with_reducible first | exact c_within _ _ _) ?_ | refine callM_flat (by with_reducible first | exact c_within _ _ _) rfl ?_ | refine callM_new (by with_reducible first | exact c_within _ _ _) ?_)
  simp [hr]
  (first | refine callG_r ?_ | refine callD_r ?_); simp; (first | refine callN_flat (by with_reducible first | exact c_isOver _) rfl ?_ | refine callN_new (by with_reducible first | exact c_isOver _) ?_ | refine callM_flat (by with_reducible first | exact c_isOver _) rfl ?_ | refine callM_new (by with_reducible first | exact c_isOver _) ?_)
  simp [ho]
  (first | refine callG_r ?_ | refine callD_r ?_); simp; (first | refine callN_flat (by with_reducible first | exact c_within _ _ _) rfl ?_ | refine callN_new (by with_reducible first | exact c_within _ _ _) ?_ | refine callM_flat (by with_reducible first | exact c_within _ _ _) rfl ?_ | refine callM_new (by with_reducible first | exact c_within _ _ _) ?_)
  simp [hn]
  (first | refine callG_r ?_ | refine callD_r ?_); simp; (first | refine callN_flat (by with_reducible first | exact c_copyCloth c hs) rfl ?_ | refine callN_new (by with_reducible first | exact c_copyCloth c hs) ?_ | refine callM_flat (by with_reducible first | exact c_copyCloth c hs) rfl ?_ | refine callM_new (by with_reducible first | exact c_copyCloth c hs) ?_)
  simp
  generalize hx : (⟨f, q, r, o, rad⟩ : Rn) = x
  refine loopG_of (α := Nat) (fun k => k ≤ n) (fun k => n - k) (fun k => [(39, .int .i64 k), (38, .int .i64 n), (16, .ptr 8 0), (8, .ptr 1 0), (11, .ptr 2 0), (2, .flt .f32 q), (3, .int .i64 r), (5, .flt .f32 rad), (14, .ptr 3 0)])
    (fun k => [.gone, .blk true true 38 [.flt .f32 f.1, .flt .f32 f.2.1, .flt .f32 f.2.2], .blk true true 38 [.flt .f32 o.1, .flt .f32 o.2.1, .flt .f32 o.2.2], .blk true true 28 [.nils, .nils, .nils, .nils],
      .blk true false 38 (cVs (runC c x k).pl), .blk true false 38 (cVs (runC c x k).ol), .blk true false 33 (cTs (runC c x k).th), .blk true false 2 (cIs (runC c x k).pin),
      .blk true true 28 [.slc 4 0 (runC c x k).pl.length 3, .slc 5 0 (runC c x k).ol.length 3, .slc 6 0 (runC c x k).th.length 3, .slc 7 0 (runC c x k).pin.length 1]]) 0 (by simp) ?_ fun k hk => ?_
  · (refine weak_gc [(some 0, 0), (some 1, 0), (some 2, 0), (some 3, 0), (some 4, 0), (some 5, 0), (some 6, 0), (some 7, 0), (some 8, 0)] ?_ ?_ ?_ ?_ ?_ <;> simp [runC])
  have hw := nat_wrap (k := k) (by omega)
  by_cases b : k < n
  · have hD := run_like c x k
    have hDs := hD.small hs
    have hp : ∀ p ∈ (runC c x k).pin, 0 ≤ p ∧ p < (runC c x k).pl.length := by rw [hD.pin, hD.pl]; exact vld_pins hv
    have ht : ∀ t ∈ (runC c x k).th, ThOk (runC c x k).pl.length t := by rw [hD.th, hD.pl]; exact vld_th hv
    have hl : (runC c x k).pl.length ≤ 64 := by rw [hD.pl]; exact hvl.1
    have hol : (runC c x k).ol.length = (runC c x k).pl.length := by rw [hD.pl, hD.ol]; exact hvl.2.1
    have e : runC c x (k + 1) = drapeC (relC (fallC (runC c x k) f q) r) o rad := by rw [runC, ← hx]
    generalize runC c x k = d at *
    simp [b, hw]
    (first | refine callG_on true [8, 4, 5, 6, 7] ?_ | refine callD_on true [8, 4, 5, 6, 7] ?_); simp; (first | refine callN_fun (by with_reducible exact c_fall d f q hDs hl hol hp) (by simp) ?_ | refine callMD_fun (by with_reducible exact c_fall d f q hDs hl hol hp) (by simp) ?_)
    simp [b, hw]
    have f1 := fallC_pl d f q
    have f2 := fallC_ol d f q
    have hFs : (fallC d f q).Small := hDs.of_len f1 f2 rfl rfl
    have hFp : ∀ p ∈ (fallC d f q).pin, 0 ≤ p ∧ p < (fallC d f q).pl.length := by rw [f1]; exact hp
    have hFt : ∀ t ∈ (fallC d f q).th, ThOk (fallC d f q).pl.length t := by rw [f1]; exact ht
    have hFl : (fallC d f q).pl.length ≤ 64 := by rw [f1]; exact hl
    generalize fallC d f q = e1 at *
    (first | refine callG_on true [8, 4, 5, 6, 7] ?_ | refine callD_on true [8, 4, 5, 6, 7] ?_); simp; (first | refine callN_fun (by with_reducible exact c_relax e1 r hFs hFl hFp hFt (by omega)) (by simp) ?_ | refine callMD_fun (by with_reducible exact c_relax e1 r hFs hFl hFp hFt (by omega)) (by simp) ?_)
    simp [b, hw]
    have g1 : (relC e1 r).pl.length = e1.pl.length := relL_length _ _
    have hGs : (relC e1 r).Small := hFs.of_len g1 rfl rfl rfl
    have hGp : ∀ p ∈ (relC e1 r).pin, 0 ≤ p ∧ p < (relC e1 r).pl.length := by rw [g1]; exact hFp
    generalize relC e1 r = e2 at *
    (first | refine callG_on true [8, 4, 5, 6, 7] ?_ | refine callD_on true [8, 4, 5, 6, 7] ?_); simp; (first | refine callN_fun (by with_reducible exact c_drape e2 o rad hGs (by omega) hGp) (by simp) ?_ | refine callMD_fun (by with_reducible exact c_drape e2 o rad hGs (by omega) hGp) (by simp) ?_)
    simp [b, hw]
    refine loopK_next (k + 1) (by omega) (by omega) ?_
    rw [e]
    (refine weak_gc [(some 0, 0), (some 1, 0), (some 2, 0), (some 3, 0), (some 4, 0), (some 5, 0), (some 6, 0), (some 7, 0), (some 8, 0)] ?_ ?_ ?_ ?_ ?_ <;> simp)
  · obtain rfl : k = n := by omega
    simp
    (refine endG_keepT [(some 4, 0), (some 5, 0), (some 6, 0), (some 7, 0)] ?_ ?_ ?_ ?_ ?_ ?_ ?_ ⟨rfl, rfl⟩ ?_ <;> simp)
theorem c_RunCloth0 (c : Clo) (f : V) (q : Nat) (r : Int) (o : V) (rad : Nat) (n : Int) (hs : c.Small) (hv : (vldC c && inB r 0 40 && overB rad && inB n 0 40) = false) :
    Fun Try.prog 18 [c.av, aV f, .flt .f32 q, .int .i64 r, aV o, .flt .f32 rad, .int .i64 n] [] (.tup [noC, .bool false]) [] := by
  refine FnSpec.walk dr_ok Try.func18 rfl (by kernel_rfl) rfl rfl rfl (by simp) ?_
  simp
  (first | refine callG_r ?_ | refine callD_r ?_); simp; (first | refine callN_flat (by with_reducible first | exact c_ValidCloth c hs) rfl ?_ | refine callN_new (by with_reducible first | exact c_ValidCloth c hs) ?_ | refine callM_flat (by with_reducible first | exact c_ValidCloth c hs) rfl ?_ | refine callM_new (by with_reducible first | exact c_ValidCloth c hs) ?_)
  cases h1 : vldC c with
  | false => simp; (refine endG_keepT [] ?_ ?_ ?_ ?_ ?_ ?_ ?_ ⟨rfl, rfl⟩ ?_ <;> simp [noC])
  | true =>
    simp
    (first | refine callG_r ?_ | refine callD_r ?_); simp; (first | refine callN_flat (by with_reducible first | exact c_within _ _ _) rfl ?_ | refine callN_new (by with_reducible first | exact c_within _ _ _) ?_ | refine callM_flat (by with_reducible first | exact c_within _ _ _) rfl ?_ | refine callM_new (by with_reducible first | exact c_within _ _ _) ?_)
    cases h2 : inB r 0 40 with
    | false => simp; (refine endG_keepT [] ?_ ?_ ?_ ?_ ?_ ?_ ?_ ⟨rfl, rfl⟩ ?_ <;> simp [noC])
    | true =>
      simp
      (first | refine callG_r ?_ | refine callD_r ?_); simp; (first | refine callN_flat (by with_reducible first | exact c_isOver _) rfl ?_ | refine callN_new (by with_reducible first | exact c_isOver _) ?_ | refine callM_flat (by with_reducible first | exact c_isOver _) rfl ?_ | refine callM_new (by with_reducible first | exact c_isOver _) ?_)
      cases h3 : overB rad with
      | false => simp; (refine endG_keepT [] ?_ ?_ ?_ ?_ ?_ ?_ ?_ ⟨rfl, rfl⟩ ?_ <;> simp [noC])
      | true =>
        rw [h1, h2, h3] at hv
        simp at hv
        simp
        (first | refine callG_r ?_ | refine callD_r ?_); simp; (first | refine callN_flat (by with_reducible first | exact c_within _ _ _) rfl ?_ | refine callN_new (by with_reducible first | exact c_within _ _ _) ?_ | refine callM_flat (by with_reducible first | exact c_within _ _ _) rfl ?_ | refine callM_new (by with_reducible first | exact c_within _ _ _) ?_)
        simp [hv]
        (refine endG_keepT [] ?_ ?_ ?_ ?_ ?_ ?_ ?_ ⟨rfl, rfl⟩ ?_ <;> simp [noC])
theorem runC_small {c : Clo} {x : Rn} {k : Nat} (hs : c.Small) : (runC c x k).Small := (run_like c x k).small hs
-- one step
theorem step_cond {c : Clo} {r : Int} {rad : Nat} : (vldC c && inB r 0 40 && overB rad && inB 1 0 40) = (vldC c && inB r 0 40 && overB rad) := by
  have : inB 1 0 40 = true := rfl
  rw [this, Bool.and_true]
def stepC' (c : Clo) (f : V) (q : Nat) (r : Int) (o : V) (rad : Nat) : Clo := runC c ⟨f, q, r.toNat, o, rad⟩ 1
theorem stepC_small {c : Clo} {f : V} {q : Nat} {r : Int} {o : V} {rad : Nat} (hs : c.Small) : (stepC' c f q r o rad).Small := runC_small hs
theorem c_StepCloth (c : Clo) (f : V) (q : Nat) (r : Int) (o : V) (rad : Nat) (hs : c.Small) (hv : (vldC c && inB r 0 40 && overB rad) = true) :
    Fun Try.prog 22 [c.av, aV f, .flt .f32 q, .int .i64 r, aV o, .flt .f32 rad] [] (.tup [(stepC' c f q r o rad).own 0, .bool true]) (stepC' c f q r o rad).mem := by
  have h := c_RunCloth c f q r o rad 1 hs (by rw [step_cond]; exact hv)
  have e : runC c ⟨f, q, r.toNat, o, rad⟩ (1 : Int).toNat = stepC' c f q r o rad := rfl
  rw [e] at h
  refine FnSpec.walk dr_ok Try.func22 rfl (by kernel_rfl) rfl rfl rfl (by simp) ?_
  simp
  (first | refine callG_r ?_ | refine callD_r ?_); simp; (first | refine callN_flat (by with_reducible first | exact h) rfl ?_ | refine callN_new (by with_reducible first | exact h) ?_ | refine callM_flat (by with_reducible first | exact h) rfl ?_ | refine callM_new (by with_reducible first | exact h) ?_)
  simp
  (refine endG_keepT [(some 4, 0), (some 5, 0), (some 6, 0), (some 7, 0)] ?_ ?_ ?_ ?_ ?_ ?_ ?_ ⟨rfl, rfl⟩ ?_ <;> simp)
theorem c_StepCloth0 (c : Clo) (f : V) (q : Nat) (r : Int) (o : V) (rad : Nat) (hs : c.Small) (hv : (vldC c && inB r 0 40 && overB rad) = false) :
    Fun Try.prog 22 [c.av, aV f, .flt .f32 q, .int .i64 r, aV o, .flt .f32 rad] [] (.tup [noC, .bool false]) [] := by
  have h := c_RunCloth0 c f q r o rad 1 hs (by rw [step_cond]; exact hv)
  refine FnSpec.walk dr_ok Try.func22 rfl (by kernel_rfl) rfl rfl rfl (by simp) ?_
  simp
  (first | refine callG_r ?_ | refine callD_r ?_); simp; (first | refine callN_flat (by with_reducible first | exact h) rfl ?_ | refine callN_new (by with_reducible first | exact h) ?_ | refine callM_flat (by with_reducible first | exact h) rfl ?_ | refine callM_new (by with_reducible first | exact h) ?_)
  simp [noC]
  (refine endG_keepT [] ?_ ?_ ?_ ?_ ?_ ?_ ?_ ⟨rfl, rfl⟩ ?_ <;> simp [noC])
end Go.Proofs.Ytbjfkhjckfodbaa
namespace Go.Proofs.Ytbjfkhjckfodbaa
set_option linter.all false
open Go Go.Awp
set_option maxRecDepth 100000
set_option maxHeartbeats 4000000
set_option pp.deepTerms true

def strV (c : Clo) (t : Th) : Nat := fop .quo .f32 (vlong (pullV c t)) t.2.2
theorem strV_at {c : Clo} {a b lg : Nat} (b1 : a < c.pl.length) (b2 : b < c.pl.length) : strV c (a, b, lg) = fop .quo .f32 (vlong (vsub c.pl[b] c.pl[a])) lg := by
  simp [strV, (pullC_at (lg := lg) b1 b2).2.2.1]
theorem c_stretchOf (c : Clo) (t : Th) (ht : ThOk c.pl.length t) : Fun Try.prog 80 [c.av, aT t] [] (.flt .f32 (strV c t)) [] := by
  obtain ⟨q1, q2, q3, q4, q5⟩ := ht
  obtain ⟨A, B, lg⟩ := t
  simp only at q1 q2 q3 q4 q5
  obtain ⟨a, rfl⟩ := Int.eq_ofNat_of_zero_le q1
  obtain ⟨b, rfl⟩ := Int.eq_ofNat_of_zero_le q3
  have b1 : a < c.pl.length := by omega
  have b2 : b < c.pl.length := by omega
  rw [strV_at b1 b2]
  refine FnSpec.walkF dr_ok Try.func80 rfl (by kernel_rfl) rfl rfl rfl (by simp) ?_
  simp [b1, b2]
  (first | refine callG_r ?_ | refine callD_r ?_); simp; (first | refine callN_flat (by with_reducible first | exact c_less _ _ _ _ _ _) rfl ?_ | refine callN_new (by with_reducible first | exact c_less _ _ _ _ _ _) ?_ | refine callM_flat (by with_reducible first | exact c_less _ _ _ _ _ _) rfl ?_ | refine callM_new (by with_reducible first | exact c_less _ _ _ _ _ _) ?_)
  simp
  (first | refine callG_r ?_ | refine callD_r ?_); simp; (first | refine callN_flat (by with_reducible first | exact c_long _ _ _) rfl ?_ | refine callN_new (by with_reducible first | exact c_long _ _ _) ?_ | refine callM_flat (by with_reducible first | exact c_long _ _ _) rfl ?_ | refine callM_new (by with_reducible first | exact c_long _ _ _) ?_)
  simp
def mostS (c : Clo) (m : Nat) (t : Th) : Nat := if ford .f32 (strV c t) m = some .gt then strV c t else m
def mostL (c : Clo) (j : Nat) : Nat := (c.th.take j).foldl (mostS c) 0
theorem mostL_succ (c : Clo) {j : Nat} (h : j < c.th.length) : mostL c (j + 1) = mostS c (mostL c j) c.th[j] := by
  unfold mostL
  rw [← List.take_append_getElem h, List.foldl_append]; rfl
theorem c_StretchOf (c : Clo) (hs : c.Small) (hv : vldC c = true) : Fun Try.prog 42 [c.av] [] (.tup [.flt .f32 (mostL c c.th.length), .bool true]) [] := by
  have hvl := vld_len hv
  refine FnSpec.walkF dr_ok Try.func42 rfl (by kernel_rfl) rfl rfl rfl (by simp) ?_
  simp
  (first | refine callG_r ?_ | refine callD_r ?_); simp; (first | refine callN_flat (by with_reducible first | exact c_ValidCloth c hs) rfl ?_ | refine callN_new (by with_reducible first | exact c_ValidCloth c hs) ?_ | refine callM_flat (by with_reducible first | exact c_ValidCloth c hs) rfl ?_ | refine callM_new (by with_reducible first | exact c_ValidCloth c hs) ?_)
  simp [hv]
  refine loopG_of (α := Nat) (fun k => k ≤ c.th.length) (fun k => c.th.length - k) (fun k => [(14, .int .i64 k), (13, .int .i64 c.th.length), (12, .view false (cTs c.th) c.th.length), (4, .flt .f32 (mostL c k)), (1, .ptr 0 0)])
    (fun k => [.blk true true 28 [.view false (cVs c.pl) c.pl.length, .view false (cVs c.ol) c.ol.length, .view false (cTs c.th) c.th.length, .view false (cIs c.pin) c.pin.length]]) 0 (by simp) ?_ fun k hk => ?_
  · (refine weak_gc [(some 0, 0)] ?_ ?_ ?_ ?_ ?_ <;> simp [mostL])
  have hw := nat_wrap (k := k) (by omega)
  by_cases b : k < c.th.length
  · simp [b, hw]
    (first | refine callG_r ?_ | refine callD_r ?_); simp; (first | refine callN_flat (by with_reducible first | exact c_stretchOf c c.th[k] (vld_th hv _ (List.getElem_mem b))) rfl ?_ | refine callN_new (by with_reducible first | exact c_stretchOf c c.th[k] (vld_th hv _ (List.getElem_mem b))) ?_ | refine callM_flat (by with_reducible first | exact c_stretchOf c c.th[k] (vld_th hv _ (List.getElem_mem b))) rfl ?_ | refine callM_new (by with_reducible first | exact c_stretchOf c c.th[k] (vld_th hv _ (List.getElem_mem b))) ?_)
    simp [b, hw]
    refine ⟨fun e => loopK_next (k + 1) (by omega) (by omega) ?_, fun e => loopK_next (k + 1) (by omega) (by omega) ?_⟩
    all_goals
      rw [mostL_succ c b, mostS]
      (refine weak_gc [(some 0, 0)] ?_ ?_ ?_ ?_ ?_ <;> simp [e])
  · obtain rfl : k = c.th.length := by omega
    simp
theorem c_StretchOf0 (c : Clo) (hs : c.Small) (hv : vldC c = false) : Fun Try.prog 42 [c.av] [] (.tup [.flt .f32 0, .bool false]) [] := by
  refine FnSpec.walkF dr_ok Try.func42 rfl (by kernel_rfl) rfl rfl rfl (by simp) ?_
  simp
  (first | refine callG_r ?_ | refine callD_r ?_); simp; (first | refine callN_flat (by with_reducible first | exact c_ValidCloth c hs) rfl ?_ | refine callN_new (by with_reducible first | exact c_ValidCloth c hs) ?_ | refine callM_flat (by with_reducible first | exact c_ValidCloth c hs) rfl ?_ | refine callM_new (by with_reducible first | exact c_ValidCloth c hs) ?_)
  simp [hv]
def insB (c : Clo) (o : V) (r : Nat) (k : Nat) : Prop := ford .f32 (vlong (vsub (c.pl.getD k v000) o)) r = some .lt
instance (c : Clo) (o : V) (r k : Nat) : Decidable (insB c o r k) := by unfold insB; infer_instance
def insL (c : Clo) (o : V) (r : Nat) : Nat → List Int
  | 0 => []
  | k + 1 => if insB c o r k then insL c o r k ++ [(k : Int)] else insL c o r k
theorem insL_le (c : Clo) (o : V) (r : Nat) : ∀ k, (insL c o r k).length ≤ k
  | 0 => by simp [insL]
  | k + 1 => by
    have := insL_le c o r k
    unfold insL
    split <;> simp <;> omega
theorem c_InsideBall (c : Clo) (o : V) (r : Nat) (hs : c.Small) (hv : (vldC c && overB r) = true) : Fun Try.prog 21 [c.av, aV o, .flt .f32 r] [] (.tup [.slc 0 0 (insL c o r c.pl.length).length 1, .bool true]) [.blk true false 2 (cIs (insL c o r c.pl.length))] := by
  simp only [Bool.and_eq_true] at hv
  obtain ⟨hv, hr⟩ := hv
  have hvl := vld_len hv
  refine FnSpec.walk dr_ok Try.func21 rfl (by kernel_rfl) rfl rfl rfl (by simp) ?_
  simp
  (first | refine callG_r ?_ | refine callD_r ?_); simp; (first | refine callN_flat (by with_reducible first | exact c_ValidCloth c hs) rfl ?_ | refine callN_new (by with_reducible first | exact c_ValidCloth c hs) ?_ | refine callM_flat (by with_reducible first | exact c_ValidCloth c hs) rfl ?_ | refine callM_new (by with_reducible first | exact c_ValidCloth c hs) ?_)
  simp [hv]
  (first | refine callG_r ?_ | refine callD_r ?_); simp; (first | refine callN_flat (by with_reducible first | exact c_isOver _) rfl ?_ | refine callN_new (by with_reducible first | exact c_isOver _) ?_ | refine callM_flat (by with_reducible first | exact c_isOver _) rfl ?_ | refine callM_new (by with_reducible first | exact c_isOver _) ?_)
  simp [hr]
  refine loopG_of (α := Nat) (fun k => k ≤ c.pl.length) (fun k => c.pl.length - k) (fun k => [(23, .int .i64 k), (22, .int .i64 c.pl.length), (21, .view false (cVs c.pl) c.pl.length), (8, .slc 2 0 (insL c o r k).length 1), (4, .ptr 1 0), (2, .flt .f32 r)])
    (fun k => [.gone, .blk true true 38 [.flt .f32 o.1, .flt .f32 o.2.1, .flt .f32 o.2.2], .blk true false 2 (cIs (insL c o r k))]) 0 (by simp) ?_ fun k hk => ?_
  · (refine weak_gc [(some 0, 0), (some 1, 0), (none, 2)] ?_ ?_ ?_ ?_ ?_ <;> simp [insL])
  have hw := nat_wrap (k := k) (by omega)
  have hl := insL_le c o r k
  by_cases b : k < c.pl.length
  · have hB : insB c o r k = (ford .f32 (vlong (vsub c.pl[k] o)) r = some .lt) := by simp [insB, b]
    simp [b, hw]
    (first | refine callG_r ?_ | refine callD_r ?_); simp; (first | refine callN_flat (by with_reducible first | exact c_less _ _ _ _ _ _) rfl ?_ | refine callN_new (by with_reducible first | exact c_less _ _ _ _ _ _) ?_ | refine callM_flat (by with_reducible first | exact c_less _ _ _ _ _ _) rfl ?_ | refine callM_new (by with_reducible first | exact c_less _ _ _ _ _ _) ?_)
    simp [b, hw]
    (first | refine callG_r ?_ | refine callD_r ?_); simp; (first | refine callN_flat (by with_reducible first | exact c_long _ _ _) rfl ?_ | refine callN_new (by with_reducible first | exact c_long _ _ _) ?_ | refine callM_flat (by with_reducible first | exact c_long _ _ _) rfl ?_ | refine callM_new (by with_reducible first | exact c_long _ _ _) ?_)
    simp [b, hw]
    refine ⟨fun e => ⟨by omega, by omega, loopK_next (k + 1) (by omega) (by omega) ?_⟩, fun e => loopK_next (k + 1) (by omega) (by omega) ?_⟩
    · rw [insL, if_pos (by rw [hB]; exact e)]
      (refine weak_gc [(some 0, 0), (some 1, 0), (some 5, 0)] ?_ ?_ ?_ ?_ ?_ <;> simp)
    · rw [insL, if_neg (by rw [hB]; exact e)]
      (refine weak_gc [(some 0, 0), (some 1, 0), (some 2, 0)] ?_ ?_ ?_ ?_ ?_ <;> simp)
  · obtain rfl : k = c.pl.length := by omega
    simp
    (refine endG_keepT [(some 2, 0)] ?_ ?_ ?_ ?_ ?_ ?_ ?_ ⟨rfl, rfl⟩ ?_ <;> simp)
theorem c_InsideBall0 (c : Clo) (o : V) (r : Nat) (hs : c.Small) (hv : (vldC c && overB r) = false) : Fun Try.prog 21 [c.av, aV o, .flt .f32 r] [] (.tup [.nils, .bool false]) [] := by
  refine FnSpec.walk dr_ok Try.func21 rfl (by kernel_rfl) rfl rfl rfl (by simp) ?_
  simp
  (first | refine callG_r ?_ | refine callD_r ?_); simp; (first | refine callN_flat (by with_reducible first | exact c_ValidCloth c hs) rfl ?_ | refine callN_new (by with_reducible first | exact c_ValidCloth c hs) ?_ | refine callM_flat (by with_reducible first | exact c_ValidCloth c hs) rfl ?_ | refine callM_new (by with_reducible first | exact c_ValidCloth c hs) ?_)
  cases h : vldC c with
  | false => simp; (refine endG_keepT [] ?_ ?_ ?_ ?_ ?_ ?_ ?_ ⟨rfl, rfl⟩ ?_ <;> simp)
  | true =>
    rw [h] at hv
    simp at hv
    simp
    (first | refine callG_r ?_ | refine callD_r ?_); simp; (first | refine callN_flat (by with_reducible first | exact c_isOver _) rfl ?_ | refine callN_new (by with_reducible first | exact c_isOver _) ?_ | refine callM_flat (by with_reducible first | exact c_isOver _) rfl ?_ | refine callM_new (by with_reducible first | exact c_isOver _) ?_)
    simp [hv]
    (refine endG_keepT [] ?_ ?_ ?_ ?_ ?_ ?_ ?_ ⟨rfl, rfl⟩ ?_ <;> simp)
end Go.Proofs.Ytbjfkhjckfodbaa
