/- Contracts: threads pull, many times.
Conditions: none. -/
import Derived.Test.YtafbecgidhoekaaM5
namespace Go.Proofs.Ytafbecgidhoekaa
set_option linter.all false
open Go Go.Awp
set_option maxRecDepth 100000
set_option maxHeartbeats 4000000
set_option pp.deepTerms true

/-- Places behind a pull of a thread. -/
def pullL (c : Clo) (l : List V) (t : Th) : List V := (pullC { c with pl := l } t).pl
theorem pullL_length (c : Clo) (l : List V) (t : Th) : (pullL c l t).length = l.length := pullC_pl _ _
theorem pullL_eq (c : Clo) (l : List V) (t : Th) : pullC { c with pl := l } t = { c with pl := pullL c l t } := by
  have := pullC_rest { c with pl := l } t
  unfold pullL
  generalize pullC { c with pl := l } t = d at *
  obtain ⟨h1, h2, h3⟩ := this
  cases d
  simp only at h1 h2 h3
  subst h1; subst h2; subst h3; rfl
def partL (c : Clo) (l : List V) (j : Nat) : List V := (c.th.take j).foldl (pullL c) l
theorem partL_length (c : Clo) (l : List V) (j : Nat) : (partL c l j).length = l.length := by
  unfold partL
  generalize c.th.take j = ts
  induction ts generalizing l with
  | nil => rfl
  | cons t ts ih => rw [List.foldl_cons, ih, pullL_length]
theorem partL_succ (c : Clo) (l : List V) {j : Nat} (h : j < c.th.length) : partL c l (j + 1) = pullL c (partL c l j) c.th[j] := by
  unfold partL
  rw [← List.take_append_getElem h, List.foldl_append]; rfl
def relL (c : Clo) : Nat → List V
  | 0 => c.pl
  | r + 1 => partL c (relL c r) c.th.length
theorem relL_length (c : Clo) : ∀ r, (relL c r).length = c.pl.length
  | 0 => rfl
  | r + 1 => by rw [relL, partL_length, relL_length c r]
def relC (c : Clo) (r : Nat) : Clo := { c with pl := relL c r }
theorem c_relax (c : Clo) (r : Nat) (hs : c.Small) (hn : c.pl.length ≤ 64) (hp : ∀ p ∈ c.pin, 0 ≤ p ∧ p < c.pl.length) (ht : ∀ t ∈ c.th, ThOk c.pl.length t) (hr : r ≤ 40) :
    Fun Try.prog 115 [.ptr 0 0, .int .i64 r] (c.at false) (.tup []) ((relC c r).at false) := by
  have h3 := hs.th
  refine FnSpec.walk dr_ok Try.func115 rfl (by kernel_rfl) rfl rfl rfl (by simp) ?_
  simp
  (first | refine callG_r ?_ | refine callD_r ?_); simp; (first | refine callN_flat (by with_reducible first | exact c_pins c hs hn hp) rfl ?_ | refine callN_new (by with_reducible first | exact c_pins c hs hn hp) ?_ | refine callM_flat (by with_reducible first | exact c_pins c hs hn hp) rfl ?_ | refine callM_new (by with_reducible first | exact c_pins c hs hn hp) ?_)
  simp
  refine loopG_of (α := Nat) (fun k => k ≤ r) (fun k => r - k) (fun k => [(12, .int .i64 k), (11, .int .i64 r), (4, .slc 5 0 c.pl.length 1), (0, .ptr 0 0)])
    (fun k => [.blk false true 32 [.slc 1 0 (relL c k).length 3, .slc 2 0 c.ol.length 3, .slc 3 0 c.th.length 3, .slc 4 0 c.pin.length 1],
      .blk false false 56 (cVs (relL c k)), .blk false false 56 (cVs c.ol), .blk false false 80 (cTs c.th), .blk false false 2 (cIs c.pin), .blk true false 4 (cBs (pinT c.pl.length c.pin))]) 0 (by simp) ?_ fun k hk => ?_
  · (refine weak_gc [(some 5, 0)] ?_ ?_ ?_ ?_ ?_ <;> simp [relL])
  have hw := nat_wrap (k := k) (by omega)
  have hl := relL_length c k
  by_cases b : k < r
  · simp [b, hw]
    refine loopG_of (α := Nat) (fun j => j ≤ c.th.length) (fun j => c.th.length - j) (fun j => [(19, .int .i64 j), (18, .int .i64 c.th.length), (17, .slc 3 0 c.th.length 3), (12, .int .i64 k), (11, .int .i64 r), (4, .slc 5 0 c.pl.length 1), (0, .ptr 0 0)])
      (fun j => [.blk false true 32 [.slc 1 0 (partL c (relL c k) j).length 3, .slc 2 0 c.ol.length 3, .slc 3 0 c.th.length 3, .slc 4 0 c.pin.length 1],
        .blk false false 56 (cVs (partL c (relL c k) j)), .blk false false 56 (cVs c.ol), .blk false false 80 (cTs c.th), .blk false false 2 (cIs c.pin), .blk true false 4 (cBs (pinT c.pl.length c.pin))]) 0 (by simp) ?_ fun j hj => ?_
    · (refine weak_gc [(some 5, 0)] ?_ ?_ ?_ ?_ ?_ <;> simp [partL])
    have hw2 := nat_wrap (k := j) (by omega)
    have hl2 := partL_length c (relL c k) j
    by_cases b2 : j < c.th.length
    · simp [b2, hw2]
      have hc := c_pull { c with pl := partL c (relL c k) j } c.th[j] c.pl.length c.pl.length ⟨by simp only; rw [hl2, hl]; exact hs.pl, hs.ol, hs.th, hs.pin⟩ (by simp only; rw [hl2, hl]) (by simp only; rw [hl2, hl]) (by simp only; rw [hl2, hl]; exact ht _ (List.getElem_mem b2))
      rw [pullL_eq, ← partL_succ c _ b2] at hc
      (first | refine callG_on true [0, 1, 2, 3, 4] ?_ | refine callD_on true [0, 1, 2, 3, 4] ?_); simp; (first | refine callN_fun (by with_reducible exact hc) (by simp) ?_ | refine callMD_fun (by with_reducible exact hc) (by simp) ?_)
      simp [hw2]
      refine loopK_next (j + 1) (by omega) (by omega) ?_
      (refine weak_gc [(some 5, 0)] ?_ ?_ ?_ ?_ ?_ <;> simp)
    · obtain rfl : j = c.th.length := by omega
      simp [hw]
      refine loopK_next (k + 1) (by omega) (by omega) ?_
      (refine weak_gc [(some 5, 0)] ?_ ?_ ?_ ?_ ?_ <;> simp [relL])
  · obtain rfl : k = r := by omega
    simp
    (refine endG_keepT [] ?_ ?_ ?_ ?_ ?_ ?_ ?_ ⟨rfl, rfl⟩ ?_ <;> simp [relC])
theorem c_l10Relax (c : Clo) (r : Nat) (hs : c.Small) (ht : ∀ t ∈ c.th, ThOk c.pl.length t) (hr : r ≤ 40) :
    Fun Try.prog 114 [.ptr 0 0, .int .i64 r] (c.at false) (.tup []) ((relC c r).at false) := by
  have h3 := hs.th
  refine FnSpec.walk dr_ok Try.func114 rfl (by kernel_rfl) rfl rfl rfl (by simp) ?_
  simp
  refine loopG_of (α := Nat) (fun k => k ≤ r) (fun k => r - k) (fun k => [(4, .int .i64 k), (1, .int .i64 r), (0, .ptr 0 0)])
    (fun k => [.blk false true 32 [.slc 1 0 (relL c k).length 3, .slc 2 0 c.ol.length 3, .slc 3 0 c.th.length 3, .slc 4 0 c.pin.length 1],
      .blk false false 56 (cVs (relL c k)), .blk false false 56 (cVs c.ol), .blk false false 80 (cTs c.th), .blk false false 2 (cIs c.pin)]) 0 (by simp) ?_ fun k hk => ?_
  · (refine weak_gc [] ?_ ?_ ?_ ?_ ?_ <;> simp [relL])
  have hw := nat_wrap (k := k) (by omega)
  have hl := relL_length c k
  by_cases b : k < r
  · simp [b, hw]
    refine loopG_of (α := Nat) (fun j => j ≤ c.th.length) (fun j => c.th.length - j) (fun j => [(5, .int .i64 j), (4, .int .i64 k), (1, .int .i64 r), (0, .ptr 0 0)])
      (fun j => [.blk false true 32 [.slc 1 0 (partL c (relL c k) j).length 3, .slc 2 0 c.ol.length 3, .slc 3 0 c.th.length 3, .slc 4 0 c.pin.length 1],
        .blk false false 56 (cVs (partL c (relL c k) j)), .blk false false 56 (cVs c.ol), .blk false false 80 (cTs c.th), .blk false false 2 (cIs c.pin)]) 0 (by simp) ?_ fun j hj => ?_
    · (refine weak_gc [] ?_ ?_ ?_ ?_ ?_ <;> simp [partL])
    have hw2 := nat_wrap (k := j) (by omega)
    have hl2 := partL_length c (relL c k) j
    by_cases b2 : j < c.th.length
    · simp [b2, hw2]
      have hc := c_l10Pull { c with pl := partL c (relL c k) j } j ⟨by simp only; rw [hl2, hl]; exact hs.pl, hs.ol, hs.th, hs.pin⟩ b2 (by simp only; rw [hl2, hl]; exact ht _ (List.getElem_mem b2))
      simp only at hc
      rw [pullL_eq, ← partL_succ c _ b2] at hc
      (first | refine callG_on true [0, 1, 2, 3, 4] ?_ | refine callD_on true [0, 1, 2, 3, 4] ?_); simp; (first | refine callN_fun (by with_reducible exact hc) (by simp) ?_ | refine callMD_fun (by with_reducible exact hc) (by simp) ?_)
      simp [hw2]
      refine loopK_next (j + 1) (by omega) (by omega) ?_
      (refine weak_gc [] ?_ ?_ ?_ ?_ ?_ <;> simp)
    · obtain rfl : j = c.th.length := by omega
      simp [hw]
      refine loopK_next (k + 1) (by omega) (by omega) ?_
      (refine weak_gc [] ?_ ?_ ?_ ?_ ?_ <;> simp [relL])
  · obtain rfl : k = r := by omega
    simp
    (refine endG_keepT [] ?_ ?_ ?_ ?_ ?_ ?_ ?_ ⟨rfl, rfl⟩ ?_ <;> simp [relC])
end Go.Proofs.Ytafbecgidhoekaa
