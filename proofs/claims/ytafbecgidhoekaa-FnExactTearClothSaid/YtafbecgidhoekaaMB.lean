/- Contracts: how far threads are stretched; places inside a ball.
Conditions: none. -/
import Derived.Test.YtafbecgidhoekaaM8
namespace Go.Proofs.Ytafbecgidhoekaa
set_option linter.all false
open Go Go.Awp
set_option maxRecDepth 100000
set_option maxHeartbeats 4000000
set_option pp.deepTerms true

def strV (c : Clo) (t : Th) : Nat := fop .quo .f32 (vlong (pullV c t)) t.2.2
theorem strV_at {c : Clo} {a b lg : Nat} (b1 : a < c.pl.length) (b2 : b < c.pl.length) : strV c (a, b, lg) = fop .quo .f32 (vlong (vsub c.pl[b] c.pl[a])) lg := by
  simp [strV, (pullC_at (lg := lg) b1 b2).2.2.1]
theorem c_stretchOf (c : Clo) (t : Th) (ht : ThOk c.pl.length t) : Fun Try.prog 85 [c.av, aT t] [] (.flt .f32 (strV c t)) [] := by
  obtain ⟨q1, q2, q3, q4, q5⟩ := ht
  obtain ⟨A, B, lg⟩ := t
  simp only at q1 q2 q3 q4 q5
  obtain ⟨a, rfl⟩ := Int.eq_ofNat_of_zero_le q1
  obtain ⟨b, rfl⟩ := Int.eq_ofNat_of_zero_le q3
  have b1 : a < c.pl.length := by omega
  have b2 : b < c.pl.length := by omega
  rw [strV_at b1 b2]
  refine FnSpec.walkF dr_ok Try.func85 rfl (by kernel_rfl) rfl rfl rfl (by simp) ?_
  simp [b1, b2]
  (first | refine callG_r ?_ | refine callD_r ?_); simp; (first | refine callN_flat (by with_reducible first | exact c_less _ _ _ _ _ _) rfl ?_ | refine callN_new (by with_reducible first | exact c_less _ _ _ _ _ _) ?_ | refine callM_flat (by with_reducible first | exact c_less _ _ _ _ _ _) rfl ?_ | refine callM_new (by with_reducible first | exact c_less _ _ _ _ _ _) ?_)
  simp
  (first | refine callG_r ?_ | refine callD_r ?_); simp; (first | refine callN_flat (by with_reducible first | exact c_long _ _ _) rfl ?_ | refine callN_new (by with_reducible first | exact c_long _ _ _) ?_ | refine callM_flat (by with_reducible first | exact c_long _ _ _) rfl ?_ | refine callM_new (by with_reducible first | exact c_long _ _ _) ?_)
  simp
theorem c_l10Stretch (c : Clo) (k : Nat) (hk : k < c.th.length) (ht : ThOk c.pl.length c.th[k]) : Fun Try.prog 84 [c.pv, .int .i64 k] [] (.flt .f32 (strV c c.th[k])) [] := by
  obtain ⟨q1, q2, q3, q4, q5⟩ := ht
  have hth : c.th[k] = (c.th[k].1, c.th[k].2.1, c.th[k].2.2) := rfl
  generalize hA : c.th[k].1 = A at *
  generalize hB : c.th[k].2.1 = B at *
  generalize hG : c.th[k].2.2 = lg at *
  obtain ⟨a, rfl⟩ := Int.eq_ofNat_of_zero_le q1
  obtain ⟨b, rfl⟩ := Int.eq_ofNat_of_zero_le q3
  have b1 : a < c.pl.length := by omega
  have b2 : b < c.pl.length := by omega
  rw [hth, strV_at b1 b2]
  refine FnSpec.walkF dr_ok Try.func84 rfl (by kernel_rfl) rfl rfl rfl (by simp) ?_
  simp [hk, hA, hB, hG, b1, b2]
  (first | refine callG_r ?_ | refine callD_r ?_); simp; (first | refine callN_flat (by with_reducible first | exact c_l01Less _ _ _ _ _ _) rfl ?_ | refine callN_new (by with_reducible first | exact c_l01Less _ _ _ _ _ _) ?_ | refine callM_flat (by with_reducible first | exact c_l01Less _ _ _ _ _ _) rfl ?_ | refine callM_new (by with_reducible first | exact c_l01Less _ _ _ _ _ _) ?_)
  simp
  (first | refine callG_r ?_ | refine callD_r ?_); simp; (first | refine callN_flat (by with_reducible first | exact c_l01Long _ _ _) rfl ?_ | refine callN_new (by with_reducible first | exact c_l01Long _ _ _) ?_ | refine callM_flat (by with_reducible first | exact c_l01Long _ _ _) rfl ?_ | refine callM_new (by with_reducible first | exact c_l01Long _ _ _) ?_)
  simp
def mostS (c : Clo) (m : Nat) (t : Th) : Nat := if ford .f32 (strV c t) m = some .gt then strV c t else m
def mostL (c : Clo) (j : Nat) : Nat := (c.th.take j).foldl (mostS c) 0
theorem mostL_succ (c : Clo) {j : Nat} (h : j < c.th.length) : mostL c (j + 1) = mostS c (mostL c j) c.th[j] := by
  unfold mostL
  rw [← List.take_append_getElem h, List.foldl_append]; rfl
theorem c_StretchOf (c : Clo) (hs : c.Small) (hv : vldC c = true) : Fun Try.prog 33 [c.av] [] (.tup [.flt .f32 (mostL c c.th.length), .bool true]) [] := by
  have hvl := vld_len hv
  refine FnSpec.walkF dr_ok Try.func33 rfl (by kernel_rfl) rfl rfl rfl (by simp) ?_
  simp
  (first | refine callG_r ?_ | refine callD_r ?_); simp; (first | refine callN_flat (by with_reducible first | exact c_ValidCloth c hs) rfl ?_ | refine callN_new (by with_reducible first | exact c_ValidCloth c hs) ?_ | refine callM_flat (by with_reducible first | exact c_ValidCloth c hs) rfl ?_ | refine callM_new (by with_reducible first | exact c_ValidCloth c hs) ?_)
  simp [hv]
  refine loopG_of (α := Nat) (fun k => k ≤ c.th.length) (fun k => c.th.length - k) (fun k => [(14, .int .i64 k), (13, .int .i64 c.th.length), (12, .view false (cTs c.th) c.th.length), (4, .flt .f32 (mostL c k)), (1, .ptr 0 0)])
    (fun k => [.blk true true 32 [.view false (cVs c.pl) c.pl.length, .view false (cVs c.ol) c.ol.length, .view false (cTs c.th) c.th.length, .view false (cIs c.pin) c.pin.length]]) 0 (by simp) ?_ fun k hk => ?_
  · (refine weak_gc [(some 0, 0)] ?_ ?_ ?_ ?_ ?_ <;> simp [mostL])
  have hw := nat_wrap (k := k) (by omega)
  by_cases b : k < c.th.length
  · simp [b, hw]
    (first | refine callG_r ?_ | refine callD_r ?_); simp; (first | refine callN_flat (by with_reducible first | exact c_stretchOf c c.th[k] (vld_th hv _ (List.getElem_mem b))) rfl ?_ | refine callN_new (by with_reducible first | exact c_stretchOf c c.th[k] (vld_th hv _ (List.getElem_mem b))) ?_ | refine callM_flat (by with_reducible first | exact c_stretchOf c c.th[k] (vld_th hv _ (List.getElem_mem b))) rfl ?_ | refine callM_new (by with_reducible first | exact c_stretchOf c c.th[k] (vld_th hv _ (List.getElem_mem b))) ?_)
    simp [b, hw]
    refine ⟨fun e => loopK_next (k + 1) (by omega) (by omega) ?_, fun e => loopK_next (k + 1) (by omega) (by omega) ?_⟩
    all_goals
      rw [mostL_succ c b, mostS]
      (refine weak_gc [(some 0, 0)] ?_ ?_ ?_ ?_ ?_ <;> simp [e])
  · obtain rfl : k = c.th.length := by omega
    simp
theorem c_specStretchOf (c : Clo) (hs : c.Small) (hv : vldC c = true) : Fun Try.prog 32 [c.av] [] (.tup [.flt .f32 (mostL c c.th.length), .bool true]) [] := by
  have hvl := vld_len hv
  refine FnSpec.walkF dr_ok Try.func32 rfl (by kernel_rfl) rfl rfl rfl (by simp) ?_
  simp
  (first | refine callG_r ?_ | refine callD_r ?_); simp; (first | refine callN_flat (by with_reducible first | exact c_l10Is c hs) rfl ?_ | refine callN_new (by with_reducible first | exact c_l10Is c hs) ?_ | refine callM_flat (by with_reducible first | exact c_l10Is c hs) rfl ?_ | refine callM_new (by with_reducible first | exact c_l10Is c hs) ?_)
  simp [hv]
  refine loopG_of (α := Nat) (fun k => k ≤ c.th.length) (fun k => c.th.length - k) (fun k => [(5, .int .i64 k), (4, .flt .f32 (mostL c k)), (1, .ptr 0 0)])
    (fun k => [.blk true true 32 [.view false (cVs c.pl) c.pl.length, .view false (cVs c.ol) c.ol.length, .view false (cTs c.th) c.th.length, .view false (cIs c.pin) c.pin.length]]) 0 (by simp) ?_ fun k hk => ?_
  · (refine weak_gc [(some 0, 0)] ?_ ?_ ?_ ?_ ?_ <;> simp [mostL])
  have hw := nat_wrap (k := k) (by omega)
  by_cases b : k < c.th.length
  · have ht := vld_th hv _ (List.getElem_mem b)
    simp [b, hw]
    (first | refine callG_r ?_ | refine callD_r ?_); simp; (first | refine callN_flat (by with_reducible first | exact c_l10Stretch c k b ht) rfl ?_ | refine callN_new (by with_reducible first | exact c_l10Stretch c k b ht) ?_ | refine callM_flat (by with_reducible first | exact c_l10Stretch c k b ht) rfl ?_ | refine callM_new (by with_reducible first | exact c_l10Stretch c k b ht) ?_)
    simp [b, hw]
    refine ⟨fun e => ?_, fun e => ?_⟩
    · (first | refine callG_r ?_ | refine callD_r ?_); simp; (first | refine callN_flat (by with_reducible first | exact c_l10Stretch c k b ht) rfl ?_ | refine callN_new (by with_reducible first | exact c_l10Stretch c k b ht) ?_ | refine callM_flat (by with_reducible first | exact c_l10Stretch c k b ht) rfl ?_ | refine callM_new (by with_reducible first | exact c_l10Stretch c k b ht) ?_)
      simp [hw]
      refine loopK_next (k + 1) (by omega) (by omega) ?_
      rw [mostL_succ c b, mostS]
      (refine weak_gc [(some 0, 0)] ?_ ?_ ?_ ?_ ?_ <;> simp [e])
    · refine loopK_next (k + 1) (by omega) (by omega) ?_
      rw [mostL_succ c b, mostS]
      (refine weak_gc [(some 0, 0)] ?_ ?_ ?_ ?_ ?_ <;> simp [e])
  · obtain rfl : k = c.th.length := by omega
    simp
theorem c_StretchOf0 (c : Clo) (hs : c.Small) (hv : vldC c = false) : Fun Try.prog 33 [c.av] [] (.tup [.flt .f32 0, .bool false]) [] := by
  refine FnSpec.walkF dr_ok Try.func33 rfl (by kernel_rfl) rfl rfl rfl (by simp) ?_
  simp
  (first | refine callG_r ?_ | refine callD_r ?_); simp; (first | refine callN_flat (by with_reducible first | exact c_ValidCloth c hs) rfl ?_ | refine callN_new (by with_reducible first | exact c_ValidCloth c hs) ?_ | refine callM_flat (by with_reducible first | exact c_ValidCloth c hs) rfl ?_ | refine callM_new (by with_reducible first | exact c_ValidCloth c hs) ?_)
  simp [hv]
theorem c_specStretchOf0 (c : Clo) (hs : c.Small) (hv : vldC c = false) : Fun Try.prog 32 [c.av] [] (.tup [.flt .f32 0, .bool false]) [] := by
  refine FnSpec.walkF dr_ok Try.func32 rfl (by kernel_rfl) rfl rfl rfl (by simp) ?_
  simp
  (first | refine callG_r ?_ | refine callD_r ?_); simp; (first | refine callN_flat (by with_reducible first | exact c_l10Is c hs) rfl ?_ | refine callN_new (by with_reducible first | exact c_l10Is c hs) ?_ | refine callM_flat (by with_reducible first | exact c_l10Is c hs) rfl ?_ | refine callM_new (by with_reducible first | exact c_l10Is c hs) ?_)
  simp [hv]
-- inside of a ball
def insB (c : Clo) (o : V) (r : Nat) (k : Nat) : Prop := ford .f32 (vlong (vsub (c.pl.getD k v000) o)) r = some .lt
instance (c : Clo) (o : V) (r k : Nat) : Decidable (insB c o r k) := by unfold insB; infer_instance
def insL (c : Clo) (o : V) (r : Nat) : Nat → List Int
  | 0 => []
  | k + 1 => if insB c o r k then insL c o r k ++ [(k : Int)] else insL c o r k
theorem insL_le (c : Clo) (o : V) (r : Nat) : ∀ k, (insL c o r k).length ≤ k
  | 0 => by simp [insL]
  | k + 1 => by
    have := insL_le c o r k
    unfold insL
    split <;> simp <;> omega
theorem c_InsideBall (c : Clo) (o : V) (r : Nat) (hs : c.Small) (hv : (vldC c && overB r) = true) : Fun Try.prog 47 [c.av, aV o, .flt .f32 r] [] (.tup [.slc 0 0 (insL c o r c.pl.length).length 1, .bool true]) [.blk true false 2 (cIs (insL c o r c.pl.length))] := by
  simp only [Bool.and_eq_true] at hv
  obtain ⟨hv, hr⟩ := hv
  have hvl := vld_len hv
  refine FnSpec.walk dr_ok Try.func47 rfl (by kernel_rfl) rfl rfl rfl (by simp) ?_
  simp
  (first | refine callG_r ?_ | refine callD_r ?_); simp; (first | refine callN_flat (by with_reducible first | exact c_ValidCloth c hs) rfl ?_ | refine callN_new (by with_reducible first | exact c_ValidCloth c hs) ?_ | refine callM_flat (by with_reducible first | exact c_ValidCloth c hs) rfl ?_ | refine callM_new (by with_reducible first | exact c_ValidCloth c hs) ?_)
  simp [hv]
  (first | refine callG_r ?_ | refine callD_r ?_); simp; (first | refine callN_flat (by with_reducible first | exact c_isOver _) rfl ?_ | refine callN_new (by with_reducible first | exact c_isOver _) ?_ | refine callM_flat (by with_reducible first | exact c_isOver _) rfl ?_ | refine callM_new (by with_reducible first | exact c_isOver _) ?_)
  simp [hr]
  refine loopG_of (α := Nat) (fun k => k ≤ c.pl.length) (fun k => c.pl.length - k) (fun k => [(23, .int .i64 k), (22, .int .i64 c.pl.length), (21, .view false (cVs c.pl) c.pl.length), (8, .slc 2 0 (insL c o r k).length 1), (4, .ptr 1 0), (2, .flt .f32 r)])
    (fun k => [.gone, .blk true true 56 [.flt .f32 o.1, .flt .f32 o.2.1, .flt .f32 o.2.2], .blk true false 2 (cIs (insL c o r k))]) 0 (by simp) ?_ fun k hk => ?_
  · (refine weak_gc [(some 0, 0), (some 1, 0), (none, 2)] ?_ ?_ ?_ ?_ ?_ <;> simp [insL])
  have hw := nat_wrap (k := k) (by omega)
  have hl := insL_le c o r k
  by_cases b : k < c.pl.length
  · have hB : insB c o r k = (ford .f32 (vlong (vsub c.pl[k] o)) r = some .lt) := by simp [insB, b]
    simp [b, hw]
    (first | refine callG_r ?_ | refine callD_r ?_); simp; (first | refine callN_flat (by with_reducible first | exact c_less _ _ _ _ _ _) rfl ?_ | refine callN_new (by with_reducible first | exact c_less _ _ _ _ _ _) ?_ | refine callM_flat (by with_reducible first | exact c_less _ _ _ _ _ _) rfl ?_ | refine callM_new (by with_reducible first | exact c_less _ _ _ _ _ _) ?_)
    simp [b, hw]
    (first | refine callG_r ?_ | refine callD_r ?_); simp; (first | refine callN_flat (by with_reducible first | exact c_long _ _ _) rfl ?_ | refine callN_new (by with_reducible first | exact c_long _ _ _) ?_ | refine callM_flat (by with_reducible first | exact c_long _ _ _) rfl ?_ | refine callM_new (by with_reducible first | exact c_long _ _ _) ?_)
    simp [b, hw]
    refine ⟨fun e => ⟨by omega, by omega, loopK_next (k + 1) (by omega) (by omega) ?_⟩, fun e => loopK_next (k + 1) (by omega) (by omega) ?_⟩
    · rw [insL, if_pos (by rw [hB]; exact e)]
      (refine weak_gc [(some 0, 0), (some 1, 0), (some 5, 0)] ?_ ?_ ?_ ?_ ?_ <;> simp)
    · rw [insL, if_neg (by rw [hB]; exact e)]
      (refine weak_gc [(some 0, 0), (some 1, 0), (some 2, 0)] ?_ ?_ ?_ ?_ ?_ <;> simp)
  · obtain rfl : k = c.pl.length := by omega
    simp
    (refine endG_keepT [(some 2, 0)] ?_ ?_ ?_ ?_ ?_ ?_ ?_ ⟨rfl, rfl⟩ ?_ <;> simp)
theorem c_specInsideBall (c : Clo) (o : V) (r : Nat) (hs : c.Small) (hv : (vldC c && overB r) = true) : Fun Try.prog 46 [c.av, aV o, .flt .f32 r] [] (.tup [.slc 0 0 (insL c o r c.pl.length).length 1, .bool true]) [.blk true false 2 (cIs (insL c o r c.pl.length))] := by
  simp only [Bool.and_eq_true] at hv
  obtain ⟨hv, hr⟩ := hv
  have hvl := vld_len hv
  refine FnSpec.walk dr_ok Try.func46 rfl (by kernel_rfl) rfl rfl rfl (by simp) ?_
  simp
  (first | refine callG_r ?_ | refine callD_r ?_); simp; (first | refine callN_flat (by with_reducible first | exact c_l10Is c hs) rfl ?_ | refine callN_new (by with_reducible first | exact c_l10Is c hs) ?_ | refine callM_flat (by with_reducible first | exact c_l10Is c hs) rfl ?_ | refine callM_new (by with_reducible first | exact c_l10Is c hs) ?_)
  simp [hv]
  (first | refine callG_r ?_ | refine callD_r ?_); simp; (first | refine callN_flat (by with_reducible first | exact c_l02Size _) rfl ?_ | refine callN_new (by with_reducible first | exact c_l02Size _) ?_ | refine callM_flat (by with_reducible first | exact c_l02Size _) rfl ?_ | refine callM_new (by with_reducible first | exact c_l02Size _) ?_)
  simp [hr]
  refine loopG_of (α := Nat) (fun k => k ≤ c.pl.length) (fun k => c.pl.length - k) (fun k => [(9, .int .i64 k), (8, .slc 2 0 (insL c o r k).length 1), (3, .ptr 0 0), (4, .ptr 1 0), (2, .flt .f32 r)])
    (fun k => [.blk true true 32 [.view false (cVs c.pl) c.pl.length, .view false (cVs c.ol) c.ol.length, .view false (cTs c.th) c.th.length, .view false (cIs c.pin) c.pin.length], .blk true true 56 [.flt .f32 o.1, .flt .f32 o.2.1, .flt .f32 o.2.2], .blk true false 2 (cIs (insL c o r k))]) 0 (by simp) ?_ fun k hk => ?_
  · (refine weak_gc [(some 0, 0), (some 1, 0), (none, 2)] ?_ ?_ ?_ ?_ ?_ <;> simp [insL])
  have hw := nat_wrap (k := k) (by omega)
  have hl := insL_le c o r k
  by_cases b : k < c.pl.length
  · have hB : insB c o r k = (ford .f32 (vlong (vsub c.pl[k] o)) r = some .lt) := by simp [insB, b]
    simp [b, hw]
    (first | refine callG_r ?_ | refine callD_r ?_); simp; (first | refine callN_flat (by with_reducible first | exact c_l01Less _ _ _ _ _ _) rfl ?_ | refine callN_new (by with_reducible first | exact c_l01Less _ _ _ _ _ _) ?_ | refine callM_flat (by with_reducible first | exact c_l01Less _ _ _ _ _ _) rfl ?_ | refine callM_new (by with_reducible first | exact c_l01Less _ _ _ _ _ _) ?_)
    simp [b, hw]
    (first | refine callG_r ?_ | refine callD_r ?_); simp; (first | refine callN_flat (by with_reducible first | exact c_l01Long _ _ _) rfl ?_ | refine callN_new (by with_reducible first | exact c_l01Long _ _ _) ?_ | refine callM_flat (by with_reducible first | exact c_l01Long _ _ _) rfl ?_ | refine callM_new (by with_reducible first | exact c_l01Long _ _ _) ?_)
    simp [b, hw]
    refine ⟨fun e => ⟨by omega, by omega, loopK_next (k + 1) (by omega) (by omega) ?_⟩, fun e => loopK_next (k + 1) (by omega) (by omega) ?_⟩
    · rw [insL, if_pos (by rw [hB]; exact e)]
      (refine weak_gc [(some 0, 0), (some 1, 0), (some 4, 0)] ?_ ?_ ?_ ?_ ?_ <;> simp)
    · rw [insL, if_neg (by rw [hB]; exact e)]
      (refine weak_gc [(some 0, 0), (some 1, 0), (some 2, 0)] ?_ ?_ ?_ ?_ ?_ <;> simp)
  · obtain rfl : k = c.pl.length := by omega
    simp
    (refine endG_keepT [(some 2, 0)] ?_ ?_ ?_ ?_ ?_ ?_ ?_ ⟨rfl, rfl⟩ ?_ <;> simp)
theorem c_InsideBall0 (c : Clo) (o : V) (r : Nat) (hs : c.Small) (hv : (vldC c && overB r) = false) : Fun Try.prog 47 [c.av, aV o, .flt .f32 r] [] (.tup [.nils, .bool false]) [] := by
  refine FnSpec.walk dr_ok Try.func47 rfl (by kernel_rfl) rfl rfl rfl (by simp) ?_
  simp
  (first | refine callG_r ?_ | refine callD_r ?_); simp; (first | refine callN_flat (by with_reducible first | exact c_ValidCloth c hs) rfl ?_ | refine callN_new (by with_reducible first | exact c_ValidCloth c hs) ?_ | refine callM_flat (by with_reducible first | exact c_ValidCloth c hs) rfl ?_ | refine callM_new (by with_reducible first | exact c_ValidCloth c hs) ?_)
  cases h : vldC c with
  | false => simp; (refine endG_keepT [] ?_ ?_ ?_ ?_ ?_ ?_ ?_ ⟨rfl, rfl⟩ ?_ <;> simp)
  | true =>
    rw [h] at hv
    simp at hv
    simp
    (first | refine callG_r ?_ | refine callD_r ?_); simp; (first | refine callN_flat (by with_reducible first | exact c_isOver _) rfl ?_ | refine callN_new (by with_reducible first | exact c_isOver _) ?_ | refine callM_flat (by with_reducible first | exact c_isOver _) rfl ?_ | refine callM_new (by with_reducible first | exact c_isOver _) ?_)
    simp [hv]
    (refine endG_keepT [] ?_ ?_ ?_ ?_ ?_ ?_ ?_ ⟨rfl, rfl⟩ ?_ <;> simp)
theorem c_specInsideBall0 (c : Clo) (o : V) (r : Nat) (hs : c.Small) (hv : (vldC c && overB r) = false) : Fun Try.prog 46 [c.av, aV o, .flt .f32 r] [] (.tup [.nils, .bool false]) [] := by
  refine FnSpec.walk dr_ok Try.func46 rfl (by kernel_rfl) rfl rfl rfl (by simp) ?_
  simp
  (first | refine callG_r ?_ | refine callD_r ?_); simp; (first | refine callN_flat (by with_reducible first | exact c_l10Is c hs) rfl ?_ | refine callN_new (by with_reducible first | exact c_l10Is c hs) ?_ | refine callM_flat (by with_reducible first | exact c_l10Is c hs) rfl ?_ | refine callM_new (by with_reducible first | exact c_l10Is c hs) ?_)
  cases h : vldC c with
  | false => simp; (refine endG_keepT [] ?_ ?_ ?_ ?_ ?_ ?_ ?_ ⟨rfl, rfl⟩ ?_ <;> simp)
  | true =>
    rw [h] at hv
    simp at hv
    simp
    (first | refine callG_r ?_ | refine callD_r ?_); simp; (first | refine callN_flat (by with_reducible first | exact c_l02Size _) rfl ?_ | refine callN_new (by with_reducible first | exact c_l02Size _) ?_ | refine callM_flat (by with_reducible first | exact c_l02Size _) rfl ?_ | refine callM_new (by with_reducible first | exact c_l02Size _) ?_)
    simp [hv]
    (refine endG_keepT [] ?_ ?_ ?_ ?_ ?_ ?_ ?_ ⟨rfl, rfl⟩ ?_ <;> simp)
end Go.Proofs.Ytafbecgidhoekaa
