/- Contracts: sums of lists of numbers.
Conditions: none. -/
import Derived.Test.YtfngkhkghjgmkaaE2
import Derived.Test.YtfngkhkghjgmkaaS2
namespace Go.Proofs.Ytfngkhkghjgmkaa
set_option linter.all false
open Go Go.Awp
set_option maxRecDepth 100000
set_option maxHeartbeats 4000000
set_option pp.deepTerms true

theorem cFs_one (x : Nat) : [AV.flt .f32 x] = cFs [x] := rfl
def sumF (l : List Nat) : Nat := l.foldl (fop .add .f32) 0
theorem sumF_take {l : List Nat} {k : Nat} (h : k < l.length) : sumF (l.take (k + 1)) = fop .add .f32 (sumF (l.take k)) l[k] := by
  unfold sumF
  rw [← List.take_append_getElem h, List.foldl_append]; rfl
theorem c_SumNumbers (l : List Nat) (n : Nat) (hn : n = l.length) (h : l.length ≤ 256) : Fun Try.prog 24 [.view false (cFs l) n] [] (.tup [.flt .f32 (sumF l), .bool true]) [] := by
  subst hn
  have h' : ¬ (256 : Int) < l.length := by omega
  refine FnSpec.walkF dr_ok Try.func24 rfl (by kernel_rfl) rfl rfl rfl (by simp) ?_
  simp [h']
  refine loopG_of (α := Nat) (fun k => k ≤ l.length) (fun k => l.length - k) (fun k => [(12, .int .i64 k), (11, .int .i64 l.length), (10, .view false (cFs l) l.length), (4, .flt .f32 (sumF (l.take k)))]) (fun k => []) 0 (by simp) ?_ fun k hk => ?_
  · (refine weak_gc [] ?_ ?_ ?_ ?_ ?_ <;> simp [sumF])
  have hw := nat_wrap (k := k) (by omega)
  by_cases b : k < l.length
  · simp [b, hw]
    refine loopK_next (k + 1) (by omega) (by omega) ?_
    rw [sumF_take b]
    (refine weak_gc [] ?_ ?_ ?_ ?_ ?_ <;> simp)
  · obtain rfl : k = l.length := by omega
    simp
def dotF (l m : List Nat) (k : Nat) : Nat := (List.range k).foldl (fun s i => fop .add .f32 s (fop .mul .f32 (l.getD i 0) (m.getD i 0))) 0
theorem dotF_succ (l m : List Nat) (k : Nat) : dotF l m (k + 1) = fop .add .f32 (dotF l m k) (fop .mul .f32 (l.getD k 0) (m.getD k 0)) := by
  unfold dotF; rw [List.range_succ, List.foldl_append]; rfl
theorem c_DotNumbers (l m : List Nat) (n n' : Nat) (hn : n = l.length) (hn' : n' = m.length) (he : m.length = l.length) (h : l.length ≤ 256) : Fun Try.prog 25 [.view false (cFs l) n, .view false (cFs m) n'] [] (.tup [.flt .f32 (dotF l m l.length), .bool true]) [] := by
  subst hn; subst hn'
  have h' : ¬ (256 : Int) < l.length := by omega
  refine FnSpec.walkF dr_ok Try.func25 rfl (by kernel_rfl) rfl rfl rfl (by simp) ?_
  simp [h', he]
  refine loopG_of (α := Nat) (fun k => k ≤ l.length) (fun k => l.length - k) (fun k => [(20, .int .i64 k), (19, .int .i64 l.length), (0, .view false (cFs l) l.length), (1, .view false (cFs m) m.length), (6, .flt .f32 (dotF l m k))]) (fun k => []) 0 (by simp) ?_ fun k hk => ?_
  · (refine weak_gc [] ?_ ?_ ?_ ?_ ?_ <;> simp [dotF, he])
  have hw := nat_wrap (k := k) (by omega)
  by_cases b : k < l.length
  · have b' : k < m.length := by omega
    simp [b, b', hw]
    refine loopK_next (k + 1) (by omega) (by omega) ?_
    rw [dotF_succ]
    (refine weak_gc [] ?_ ?_ ?_ ?_ ?_ <;> simp [b, b'])
  · obtain rfl : k = l.length := by omega
    simp
def widF (l m : List Nat) (k : Nat) : Nat := (List.range k).foldl (fun s i => fop .add .f64 s (fop .mul .f64 (wid (l.getD i 0)) (wid (m.getD i 0)))) 0
theorem widF_succ (l m : List Nat) (k : Nat) : widF l m (k + 1) = fop .add .f64 (widF l m k) (fop .mul .f64 (wid (l.getD k 0)) (wid (m.getD k 0))) := by
  unfold widF; rw [List.range_succ, List.foldl_append]; rfl
theorem c_DotWide (l m : List Nat) (n n' y : Nat) (hn : n = l.length) (hn' : n' = m.length) (he : m.length = l.length) (h : l.length ≤ 256) (hy : fcvt .f64 .f32 (widF l m l.length) = some y) : Fun Try.prog 28 [.view false (cFs l) n, .view false (cFs m) n'] [] (.tup [.flt .f32 y, .bool true]) [] := by
  subst hn; subst hn'
  have h' : ¬ (256 : Int) < l.length := by omega
  refine FnSpec.walkF dr_ok Try.func28 rfl (by kernel_rfl) rfl rfl rfl (by simp) ?_
  simp [h', he]
  refine loopG_of (α := Nat) (fun k => k ≤ l.length) (fun k => l.length - k) (fun k => [(21, .int .i64 k), (20, .int .i64 l.length), (19, .view false (cFs l) l.length), (1, .view false (cFs m) m.length), (6, .flt .f64 (widF l m k))]) (fun k => []) 0 (by simp) ?_ fun k hk => ?_
  · (refine weak_gc [] ?_ ?_ ?_ ?_ ?_ <;> simp [widF, he])
  have hw := nat_wrap (k := k) (by omega)
  by_cases b : k < l.length
  · have b' : k < m.length := by omega
    simp [b, b', hw]
    refine loopK_next (k + 1) (by omega) (by omega) ?_
    rw [widF_succ]
    (refine weak_gc [] ?_ ?_ ?_ ?_ ?_ <;> simp [b, b'])
  · obtain rfl : k = l.length := by omega
    simp [hy]
theorem cFs_rest (l : List Nat) (k : Nat) : (cFs l).drop k = cFs (l.drop k) := by unfold cFs; rw [List.map_drop]
/-- Sums by halves. -/
def pairF : Nat → List Nat → Nat
  | 0, _ => 0
  | fuel + 1, l => if l.length = 0 then 0 else if l.length = 1 then l.getD 0 0 else fop .add .f32 (pairF fuel (l.take ((l.length + 1) / 2))) (pairF fuel (l.drop ((l.length + 1) / 2)))
theorem c_pairs : ∀ (fuel : Nat) (l : List Nat) (n : Nat), n = l.length → l.length < fuel → l.length ≤ 256 → Fun Try.prog 56 [.view false (cFs l) n] [] (.flt .f32 (pairF fuel l)) []
  | 0, l, n, _, h, _ => by omega
  | fuel + 1, l, n, hn, h, h2 => by
    subst hn
    refine FnSpec.walkF dr_ok Try.func56 rfl (by kernel_rfl) rfl rfl rfl (by simp) ?_
    by_cases c0 : l.length = 0
    · have c0' : l = [] := List.length_eq_zero_iff.1 c0
      subst c0'
      simp [pairF]
    · by_cases c1 : l.length = 1
      · have b : 0 < l.length := by omega
        have hp : pairF (fuel + 1) l = l[0] := by
          show (if l.length = 0 then _ else if l.length = 1 then _ else _) = _
          rw [if_neg c0, if_pos c1, List.getD_eq_getElem?_getD, List.getElem?_eq_getElem b]; rfl
        rw [hp]
        simp [c0, c1, b]
      · have i0 : ¬ (l.length : Int) = 0 := by omega
        have i1 : ¬ (l.length : Int) = 1 := by omega
        have hw := nat_wrap (k := l.length) (by omega)
        have hd : ((l.length : Int) + 1).tdiv 2 = (((l.length + 1) / 2 : Nat) : Int) := by rw [show ((l.length : Int) + 1) = ((l.length + 1 : Nat) : Int) by simp]; rfl
        have hp : pairF (fuel + 1) l = fop .add .f32 (pairF fuel (l.take ((l.length + 1) / 2))) (pairF fuel (l.drop ((l.length + 1) / 2))) := by
          show (if l.length = 0 then _ else _) = _
          rw [if_neg c0, if_neg c1]
        rw [hp]
        generalize hh : (l.length + 1) / 2 = H at *
        have g1 : H < l.length := by omega
        have g2 : 1 ≤ H := by omega
        have hw2 : IntKind.i64.wrap (H : Int) = H := wrap64 (by omega) (by omega)
        have k1 := c_pairs fuel (l.take H) H (by rw [List.length_take]; omega) (by rw [List.length_take]; omega) (by rw [List.length_take]; omega)
        have k2 := c_pairs fuel (l.drop H) (l.length - H) (by rw [List.length_drop]) (by rw [List.length_drop]; omega) (by rw [List.length_drop]; omega)
        have g3 : (H : Int) ≤ l.length := by omega
        have tk : (l.drop H).take (l.length - H) = l.drop H := List.take_of_length_le (by rw [List.length_drop]; omega)
        simp [c0, c1, i0, i1, hw, hd, hw2, -cFs_drop, cFs_rest]
        refine ⟨by omega, ?_⟩
        (first | refine callG_r ?_ | refine callD_r ?_); simp; (first | refine callN_flat (by with_reducible first | exact k1) rfl ?_ | refine callN_new (by with_reducible first | exact k1) ?_ | refine callM_flat (by with_reducible first | exact k1) rfl ?_ | refine callM_new (by with_reducible first | exact k1) ?_)
        simp [-cFs_drop, cFs_rest, tk]
        refine ⟨by omega, ?_⟩
        (first | refine callG_r ?_ | refine callD_r ?_); simp; (first | refine callN_flat (by with_reducible first | exact k2) rfl ?_ | refine callN_new (by with_reducible first | exact k2) ?_ | refine callM_flat (by with_reducible first | exact k2) rfl ?_ | refine callM_new (by with_reducible first | exact k2) ?_)
        simp
end Go.Proofs.Ytfngkhkghjgmkaa
