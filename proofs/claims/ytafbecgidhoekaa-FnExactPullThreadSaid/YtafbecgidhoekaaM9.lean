/- Contracts: pulls, rounds and runs of cloths.
Conditions: none. -/
import Derived.Test.YtafbecgidhoekaaM8
namespace Go.Proofs.Ytafbecgidhoekaa
set_option linter.all false
open Go Go.Awp
set_option maxRecDepth 100000
set_option maxHeartbeats 4000000
set_option pp.deepTerms true

theorem inB_nat {n m : Int} (h : inB n 0 m = true) : ∃ k : Nat, n = k ∧ (k : Int) ≤ m := by
  simp [inB] at h
  exact ⟨n.toNat, by omega, by omega⟩
-- a thread
def pulC (c : Clo) (n : Int) : Clo := pullC c (c.th.getD n.toNat (0, 0, 0))
theorem pulC_small {c : Clo} {n : Int} (hs : c.Small) : (pulC c n).Small := by
  obtain ⟨h1, h2, h3⟩ := pullC_rest c (c.th.getD n.toNat (0, 0, 0))
  exact hs.of_len (pullC_pl _ _) (by rw [pulC, h1]) (by rw [pulC, h2]) (by rw [pulC, h3])
theorem c_PullThread (c : Clo) (n : Int) (hs : c.Small) (hv : (vldC c && inB n 0 ((c.th.length : Int) - 1)) = true) : Fun Try.prog 55 [c.av, .int .i64 n] [] (.tup [(pulC c n).own 0, .bool true]) (pulC c n).mem := by
  simp only [Bool.and_eq_true] at hv
  obtain ⟨hv, hr⟩ := hv
  have hvl := vld_len hv
  obtain ⟨k, rfl, hk⟩ := inB_nat hr
  have b : k < c.th.length := by omega
  have e : pulC c k = pullC c c.th[k] := by simp [pulC, b]
  rw [e]
  have hw : IntKind.i64.wrap ((c.th.length : Int) - 1) = (c.th.length : Int) - 1 := wrap64 (by omega) (by omega)
  refine FnSpec.walk dr_ok Try.func55 rfl (by kernel_rfl) rfl rfl rfl (by simp) ?_
  simp
  (first | refine callG_r ?_ | refine callD_r ?_); simp; (first | refine callN_flat (by with_reducible first | exact c_ValidCloth c hs) rfl ?_ | refine callN_new (by with_reducible first | exact c_ValidCloth c hs) ?_ | refine callM_flat (by with_reducible first | exact c_ValidCloth c hs) rfl ?_ | refine callM_new (by with_reducible first | exact c_ValidCloth c hs) ?_)
  simp [hv, hw]
  (first | refine callG_r ?_ | refine callD_r ?_); simp; (first | refine callN_flat (by with_reducible first | exact c_within _ _ _) rfl ?_ | refine callN_new (by with_reducible first | exact c_within _ _ _) ?_ | refine callM_flat (by with_reducible first | exact c_within _ _ _) rfl ?_ | refine callM_new (by with_reducible first | exact c_within _ _ _) ?_)
  simp [hr]
  (first | refine callG_r ?_ | refine callD_r ?_); simp; (first | refine callN_flat (by with_reducible first | exact c_copyCloth c hs) rfl ?_ | refine callN_new (by with_reducible first | exact c_copyCloth c hs) ?_ | refine callM_flat (by with_reducible first | exact c_copyCloth c hs) rfl ?_ | refine callM_new (by with_reducible first | exact c_copyCloth c hs) ?_)
  simp [b]
  (first | refine callG_r ?_ | refine callD_r ?_); simp; (first | refine callN_flat (by with_reducible first | exact c_pins c hs hvl.1 (vld_pins hv)) rfl ?_ | refine callN_new (by with_reducible first | exact c_pins c hs hvl.1 (vld_pins hv)) ?_ | refine callM_flat (by with_reducible first | exact c_pins c hs hvl.1 (vld_pins hv)) rfl ?_ | refine callM_new (by with_reducible first | exact c_pins c hs hvl.1 (vld_pins hv)) ?_)
  simp
  (first | refine callG_on true [6, 2, 3, 4, 5] ?_ | refine callD_on true [6, 2, 3, 4, 5] ?_); simp; (first | refine callN_fun (by with_reducible exact c_pull c c.th[k] c.pl.length c.pl.length hs rfl rfl (vld_th hv _ (List.getElem_mem b))) (by simp) ?_ | refine callMD_fun (by with_reducible exact c_pull c c.th[k] c.pl.length c.pl.length hs rfl rfl (vld_th hv _ (List.getElem_mem b))) (by simp) ?_)
  simp
  (refine endG_keepT [(some 2, 0), (some 3, 0), (some 4, 0), (some 5, 0)] ?_ ?_ ?_ ?_ ?_ ?_ ?_ ⟨rfl, rfl⟩ ?_ <;> simp)
theorem c_specPullThread (c : Clo) (n : Int) (hs : c.Small) (hv : (vldC c && inB n 0 ((c.th.length : Int) - 1)) = true) : Fun Try.prog 54 [c.av, .int .i64 n] [] (.tup [(pulC c n).own 0, .bool true]) (pulC c n).mem := by
  simp only [Bool.and_eq_true] at hv
  obtain ⟨hv, hr⟩ := hv
  have hvl := vld_len hv
  obtain ⟨k, rfl, hk⟩ := inB_nat hr
  have b : k < c.th.length := by omega
  have e : pulC c k = pullC c c.th[k] := by simp [pulC, b]
  rw [e]
  have hw : IntKind.i64.wrap ((c.th.length : Int) - 1) = (c.th.length : Int) - 1 := wrap64 (by omega) (by omega)
  refine FnSpec.walk dr_ok Try.func54 rfl (by kernel_rfl) rfl rfl rfl (by simp) ?_
  simp
  (first | refine callG_r ?_ | refine callD_r ?_); simp; (first | refine callN_flat (by with_reducible first | exact c_l10Is c hs) rfl ?_ | refine callN_new (by with_reducible first | exact c_l10Is c hs) ?_ | refine callM_flat (by with_reducible first | exact c_l10Is c hs) rfl ?_ | refine callM_new (by with_reducible first | exact c_l10Is c hs) ?_)
  simp [hv, hw]
  (first | refine callG_r ?_ | refine callD_r ?_); simp; (first | refine callN_flat (by with_reducible first | exact c_l00In _ _ _) rfl ?_ | refine callN_new (by with_reducible first | exact c_l00In _ _ _) ?_ | refine callM_flat (by with_reducible first | exact c_l00In _ _ _) rfl ?_ | refine callM_new (by with_reducible first | exact c_l00In _ _ _) ?_)
  simp [hr]
  (first | refine callG_r ?_ | refine callD_r ?_); simp; (first | refine callN_flat (by with_reducible first | exact c_l10Own c hs) rfl ?_ | refine callN_new (by with_reducible first | exact c_l10Own c hs) ?_ | refine callM_flat (by with_reducible first | exact c_l10Own c hs) rfl ?_ | refine callM_new (by with_reducible first | exact c_l10Own c hs) ?_)
  simp [b]
  (first | refine callG_on true [6, 2, 3, 4, 5] ?_ | refine callD_on true [6, 2, 3, 4, 5] ?_); simp; (first | refine callN_fun (by with_reducible exact c_l10Pull c k hs b (vld_th hv _ (List.getElem_mem b))) (by simp) ?_ | refine callMD_fun (by with_reducible exact c_l10Pull c k hs b (vld_th hv _ (List.getElem_mem b))) (by simp) ?_)
  simp
  (refine endG_keepT [(some 2, 0), (some 3, 0), (some 4, 0), (some 5, 0)] ?_ ?_ ?_ ?_ ?_ ?_ ?_ ⟨rfl, rfl⟩ ?_ <;> simp)
theorem wrap_th {c : Clo} (hs : c.Small) : IntKind.i64.wrap ((c.th.length : Int) - 1) = (c.th.length : Int) - 1 := by
  have := hs.th
  exact wrap64 (by omega) (by omega)
theorem c_PullThread0 (c : Clo) (n : Int) (hs : c.Small) (hv : (vldC c && inB n 0 ((c.th.length : Int) - 1)) = false) : Fun Try.prog 55 [c.av, .int .i64 n] [] (.tup [noC, .bool false]) [] := by
  refine FnSpec.walk dr_ok Try.func55 rfl (by kernel_rfl) rfl rfl rfl (by simp) ?_
  simp
  (first | refine callG_r ?_ | refine callD_r ?_); simp; (first | refine callN_flat (by with_reducible first | exact c_ValidCloth c hs) rfl ?_ | refine callN_new (by with_reducible first | exact c_ValidCloth c hs) ?_ | refine callM_flat (by with_reducible first | exact c_ValidCloth c hs) rfl ?_ | refine callM_new (by with_reducible first | exact c_ValidCloth c hs) ?_)
  cases h : vldC c with
  | false => simp; (refine endG_keepT [] ?_ ?_ ?_ ?_ ?_ ?_ ?_ ⟨rfl, rfl⟩ ?_ <;> simp [noC])
  | true =>
    rw [h] at hv
    simp at hv
    simp [wrap_th hs]
    (first | refine callG_r ?_ | refine callD_r ?_); simp; (first | refine callN_flat (by with_reducible first | exact c_within _ _ _) rfl ?_ | refine callN_new (by with_reducible first | exact c_within _ _ _) ?_ | refine callM_flat (by with_reducible first | exact c_within _ _ _) rfl ?_ | refine callM_new (by with_reducible first | exact c_within _ _ _) ?_)
    simp [hv]
    (refine endG_keepT [] ?_ ?_ ?_ ?_ ?_ ?_ ?_ ⟨rfl, rfl⟩ ?_ <;> simp [noC])
theorem c_specPullThread0 (c : Clo) (n : Int) (hs : c.Small) (hv : (vldC c && inB n 0 ((c.th.length : Int) - 1)) = false) : Fun Try.prog 54 [c.av, .int .i64 n] [] (.tup [noC, .bool false]) [] := by
  refine FnSpec.walk dr_ok Try.func54 rfl (by kernel_rfl) rfl rfl rfl (by simp) ?_
  simp
  (first | refine callG_r ?_ | refine callD_r ?_); simp; (first | refine callN_flat (by with_reducible first | exact c_l10Is c hs) rfl ?_ | refine callN_new (by with_reducible first | exact c_l10Is c hs) ?_ | refine callM_flat (by with_reducible first | exact c_l10Is c hs) rfl ?_ | refine callM_new (by with_reducible first | exact c_l10Is c hs) ?_)
  cases h : vldC c with
  | false => simp; (refine endG_keepT [] ?_ ?_ ?_ ?_ ?_ ?_ ?_ ⟨rfl, rfl⟩ ?_ <;> simp [noC])
  | true =>
    rw [h] at hv
    simp at hv
    simp [wrap_th hs]
    (first | refine callG_r ?_ | refine callD_r ?_); simp; (first | refine callN_flat (by with_reducible first | exact c_l00In _ _ _) rfl ?_ | refine callN_new (by with_reducible first | exact c_l00In _ _ _) ?_ | refine callM_flat (by with_reducible first | exact c_l00In _ _ _) rfl ?_ | refine callM_new (by with_reducible first | exact c_l00In _ _ _) ?_)
    simp [hv]
    (refine endG_keepT [] ?_ ?_ ?_ ?_ ?_ ?_ ?_ ⟨rfl, rfl⟩ ?_ <;> simp [noC])
-- rounds
theorem c_l10Rounds (n : Int) : Fun Try.prog 113 [.int .i64 n] [] (.bool (inB n 0 40)) [] := by
  refine FnSpec.walkF dr_ok Try.func113 rfl (by kernel_rfl) rfl rfl rfl (by simp) ?_
  simp
  (first | refine callG_r ?_ | refine callD_r ?_); simp; (first | refine callN_flat (by with_reducible first | exact c_l00In _ _ _) rfl ?_ | refine callN_new (by with_reducible first | exact c_l00In _ _ _) ?_ | refine callM_flat (by with_reducible first | exact c_l00In _ _ _) rfl ?_ | refine callM_new (by with_reducible first | exact c_l00In _ _ _) ?_)
  simp
theorem relC_small {c : Clo} {n : Nat} (hs : c.Small) : (relC c n).Small := hs.of_len (relL_length _ _) rfl rfl rfl
theorem c_RelaxCloth (c : Clo) (n : Int) (hs : c.Small) (hv : (vldC c && inB n 0 40) = true) : Fun Try.prog 57 [c.av, .int .i64 n] [] (.tup [(relC c n.toNat).own 0, .bool true]) (relC c n.toNat).mem := by
  simp only [Bool.and_eq_true] at hv
  obtain ⟨hv, hr⟩ := hv
  have hvl := vld_len hv
  obtain ⟨k, rfl, hk⟩ := inB_nat hr
  rw [Int.toNat_natCast]
  refine FnSpec.walk dr_ok Try.func57 rfl (by kernel_rfl) rfl rfl rfl (by simp) ?_
  simp
  (first | refine callG_r ?_ | refine callD_r ?_); simp; (first | refine callN_flat (by with_reducible first | exact c_ValidCloth c hs) rfl ?_ | refine callN_new (by with_reducible first | exact c_ValidCloth c hs) ?_ | refine callM_flat (by with_reducible first | exact c_ValidCloth c hs) rfl ?_ | refine callM_new (by with_reducible first | exact c_ValidCloth c hs) ?_)
  simp [hv]
  (first | refine callG_r ?_ | refine callD_r ?_); simp; (first | refine callN_flat (by with_reducible first | exact c_within _ _ _) rfl ?_ | refine callN_new (by with_reducible first | exact c_within _ _ _) ?_ | refine callM_flat (by with_reducible first | exact c_within _ _ _) rfl ?_ | refine callM_new (by with_reducible first | exact c_within _ _ _) ?_)
  simp [hr]
  (first | refine callG_r ?_ | refine callD_r ?_); simp; (first | refine callN_flat (by with_reducible first | exact c_copyCloth c hs) rfl ?_ | refine callN_new (by with_reducible first | exact c_copyCloth c hs) ?_ | refine callM_flat (by with_reducible first | exact c_copyCloth c hs) rfl ?_ | refine callM_new (by with_reducible first | exact c_copyCloth c hs) ?_)
  simp
  (first | refine callG_on true [6, 2, 3, 4, 5] ?_ | refine callD_on true [6, 2, 3, 4, 5] ?_); simp; (first | refine callN_fun (by with_reducible exact c_relax c k hs hvl.1 (vld_pins hv) (vld_th hv) (by omega)) (by simp) ?_ | refine callMD_fun (by with_reducible exact c_relax c k hs hvl.1 (vld_pins hv) (vld_th hv) (by omega)) (by simp) ?_)
  simp
  (refine endG_keepT [(some 2, 0), (some 3, 0), (some 4, 0), (some 5, 0)] ?_ ?_ ?_ ?_ ?_ ?_ ?_ ⟨rfl, rfl⟩ ?_ <;> simp)
theorem c_specRelaxCloth (c : Clo) (n : Int) (hs : c.Small) (hv : (vldC c && inB n 0 40) = true) : Fun Try.prog 56 [c.av, .int .i64 n] [] (.tup [(relC c n.toNat).own 0, .bool true]) (relC c n.toNat).mem := by
  simp only [Bool.and_eq_true] at hv
  obtain ⟨hv, hr⟩ := hv
  have hvl := vld_len hv
  obtain ⟨k, rfl, hk⟩ := inB_nat hr
  rw [Int.toNat_natCast]
  refine FnSpec.walk dr_ok Try.func56 rfl (by kernel_rfl) rfl rfl rfl (by simp) ?_
  simp
  (first | refine callG_r ?_ | refine callD_r ?_); simp; (first | refine callN_flat (by with_reducible first | exact c_l10Is c hs) rfl ?_ | refine callN_new (by with_reducible first | exact c_l10Is c hs) ?_ | refine callM_flat (by with_reducible first | exact c_l10Is c hs) rfl ?_ | refine callM_new (by with_reducible first | exact c_l10Is c hs) ?_)
  simp [hv]
  (first | refine callG_r ?_ | refine callD_r ?_); simp; (first | refine callN_flat (by with_reducible first | exact c_l10Rounds _) rfl ?_ | refine callN_new (by with_reducible first | exact c_l10Rounds _) ?_ | refine callM_flat (by with_reducible first | exact c_l10Rounds _) rfl ?_ | refine callM_new (by with_reducible first | exact c_l10Rounds _) ?_)
  simp [hr]
  (first | refine callG_r ?_ | refine callD_r ?_); simp; (first | refine callN_flat (by with_reducible first | exact c_l10Own c hs) rfl ?_ | refine callN_new (by with_reducible first | exact c_l10Own c hs) ?_ | refine callM_flat (by with_reducible first | exact c_l10Own c hs) rfl ?_ | refine callM_new (by with_reducible first | exact c_l10Own c hs) ?_)
  simp
  (first | refine callG_on true [6, 2, 3, 4, 5] ?_ | refine callD_on true [6, 2, 3, 4, 5] ?_); simp; (first | refine callN_fun (by with_reducible exact c_l10Relax c k hs (vld_th hv) (by omega)) (by simp) ?_ | refine callMD_fun (by with_reducible exact c_l10Relax c k hs (vld_th hv) (by omega)) (by simp) ?_)
  simp
  (refine endG_keepT [(some 2, 0), (some 3, 0), (some 4, 0), (some 5, 0)] ?_ ?_ ?_ ?_ ?_ ?_ ?_ ⟨rfl, rfl⟩ ?_ <;> simp)
theorem c_RelaxCloth0 (c : Clo) (n : Int) (hs : c.Small) (hv : (vldC c && inB n 0 40) = false) : Fun Try.prog 57 [c.av, .int .i64 n] [] (.tup [noC, .bool false]) [] := by
  refine FnSpec.walk dr_ok Try.func57 rfl (by kernel_rfl) rfl rfl rfl (by simp) ?_
  simp
  (first | refine callG_r ?_ | refine callD_r ?_); simp; (first | refine callN_flat (by with_reducible first | exact c_ValidCloth c hs) rfl ?_ | refine callN_new (by with_reducible first | exact c_ValidCloth c hs) ?_ | refine callM_flat (by with_reducible first | exact c_ValidCloth c hs) rfl ?_ | refine callM_new (by with_reducible first | exact c_ValidCloth c hs) ?_)
  cases h : vldC c with
  | false => simp; (refine endG_keepT [] ?_ ?_ ?_ ?_ ?_ ?_ ?_ ⟨rfl, rfl⟩ ?_ <;> simp [noC])
  | true =>
    rw [h] at hv
    simp at hv
    simp
    (first | refine callG_r ?_ | refine callD_r ?_); simp; (first | refine callN_flat (by with_reducible first | exact c_within _ _ _) rfl ?_ | refine callN_new (by with_reducible first | exact c_within _ _ _) ?_ | refine callM_flat (by with_reducible first | exact c_within _ _ _) rfl ?_ | refine callM_new (by with_reducible first | exact c_within _ _ _) ?_)
    simp [hv]
    (refine endG_keepT [] ?_ ?_ ?_ ?_ ?_ ?_ ?_ ⟨rfl, rfl⟩ ?_ <;> simp [noC])
theorem c_specRelaxCloth0 (c : Clo) (n : Int) (hs : c.Small) (hv : (vldC c && inB n 0 40) = false) : Fun Try.prog 56 [c.av, .int .i64 n] [] (.tup [noC, .bool false]) [] := by
  refine FnSpec.walk dr_ok Try.func56 rfl (by kernel_rfl) rfl rfl rfl (by simp) ?_
  simp
  (first | refine callG_r ?_ | refine callD_r ?_); simp; (first | refine callN_flat (by with_reducible first | exact c_l10Is c hs) rfl ?_ | refine callN_new (by with_reducible first | exact c_l10Is c hs) ?_ | refine callM_flat (by with_reducible first | exact c_l10Is c hs) rfl ?_ | refine callM_new (by with_reducible first | exact c_l10Is c hs) ?_)
  cases h : vldC c with
  | false => simp; (refine endG_keepT [] ?_ ?_ ?_ ?_ ?_ ?_ ?_ ⟨rfl, rfl⟩ ?_ <;> simp [noC])
  | true =>
    rw [h] at hv
    simp at hv
    simp
    (first | refine callG_r ?_ | refine callD_r ?_); simp; (first | refine callN_flat (by with_reducible first | exact c_l10Rounds _) rfl ?_ | refine callN_new (by with_reducible first | exact c_l10Rounds _) ?_ | refine callM_flat (by with_reducible first | exact c_l10Rounds _) rfl ?_ | refine callM_new (by with_reducible first | exact c_l10Rounds _) ?_)
    simp [hv]
    (refine endG_keepT [] ?_ ?_ ?_ ?_ ?_ ?_ ?_ ⟨rfl, rfl⟩ ?_ <;> simp [noC])
end Go.Proofs.Ytafbecgidhoekaa
