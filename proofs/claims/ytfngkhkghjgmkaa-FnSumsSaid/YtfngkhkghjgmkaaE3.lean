/- The law of sums.
Conditions: none. -/
import Derived.Test.YtfngkhkghjgmkaaS6
namespace Go.Proofs.Ytfngkhkghjgmkaa
set_option linter.all false
open Go Go.Awp
set_option maxRecDepth 100000
set_option maxHeartbeats 4000000
set_option pp.deepTerms true

theorem cFs_ones (k : Nat) : cFs (List.replicate k 1065353216) ++ [.flt .f32 1065353216] = cFs (List.replicate (k + 1) 1065353216) := by
  rw [List.replicate_succ', cFs, cFs, List.map_append]; rfl
theorem law_FnSums (l m : List Nat) (hb : ∀ b ∈ l, b < 256) (hb' : ∀ b ∈ m, b < 256) (h1 : l.length ≤ maxLen) (h2 : m.length ≤ maxLen) : FnSpec Try.prog 5 [.view false (cBy l) l.length, .view false (cBy m) m.length] [] fun av _ => av = .bool true := by
  refine FnSpec.walkF dr_ok Try.func5 rfl (by kernel_rfl) rfl rfl rfl (by simp) ?_
  simp
  (first | refine callG_r ?_ | refine callD_r ?_); simp; (first | refine callN_flat (by with_reducible first | exact c_b10Long l m h1 h2) rfl ?_ | refine callN_new (by with_reducible first | exact c_b10Long l m h1 h2) ?_ | refine callM_flat (by with_reducible first | exact c_b10Long l m h1 h2) rfl ?_ | refine callM_new (by with_reducible first | exact c_b10Long l m h1 h2) ?_)
  simp
  intro q1 q2
  refine callG_r ?_
  simp
  refine callN_rel (c_b10At l _ rfl (by omega) hb) ?_
  rintro _ ⟨n, hn, rfl⟩
  simp
  refine callG_on false [] ?_; simp; refine callN_all (by with_reducible exact c_B10Numbers l _ n rfl (by omega) hb (by omega)) ?_; rintro _ _ ⟨xs, hx, hc, rfl, rfl⟩; refine ⟨fun e => (by cases e), ?_⟩; simp
  refine loopG_of (α := Nat) (fun k => k ≤ n) (fun k => n - k) (fun k => [(0, .view false (cBy l) l.length), (1, .view false (cBy m) m.length), (5, .int .i64 n), (6, .slc 0 0 n 1), (7, .slc 1 0 k 1), (8, .flt .f32 (sumF (xs.take k))), (9, .int .i64 k)]) (fun k => [.blk true false 24 (cFs xs), .blk true false 24 (cFs (List.replicate k 1065353216))]) 0 (by simp) ?_ fun k hk => ?_
  · (refine weak_gc [(some 0, 0), (none, 24)] ?_ ?_ ?_ ?_ ?_ <;> simp [sumF])
  have hw := nat_wrap (k := k) (by omega)
  by_cases b : k < n
  · have b' : k < xs.length := by omega
    simp [b, b', hw, hx]
    refine ⟨by omega, by omega, loopK_next (k + 1) (by omega) (by omega) ?_⟩
    rw [sumF_take b']
    (refine weak_gc [(some 0, 0), (some 3, 0)] ?_ ?_ ?_ ?_ ?_ <;> simp)
    rw [List.replicate_succ']
  · obtain rfl : k = n := by omega
    have ht : xs.take k = xs := List.take_of_length_le (by omega)
    rw [ht]
    simp
    have e1 : List.take k (List.replicate k 1065353216) = List.replicate k 1065353216 := List.take_of_length_le (by simp)
    have g1 : Fun Try.prog 24 [.view false (cFs (xs.take k)) k] [] (.tup [.flt .f32 (sumF xs), .bool true]) [] := by rw [ht]; exact c_SumNumbers xs _ hx.symm (by omega)
    have g2 : Fun Try.prog 25 [.view false (cFs (xs.take k)) k, .view false (cFs (List.replicate k 1065353216)) k] [] (.tup [.flt .f32 (dotF xs (List.replicate k 1065353216) xs.length), .bool true]) [] := by rw [ht]; exact c_DotNumbers xs _ _ _ hx.symm (by simp) (by simp [hx]) (by omega)
    have g3 : Fun Try.prog 26 [.view false (cFs (xs.take k)) k] [] (.tup [.flt .f32 (pairF 257 xs), .bool true]) [] := by rw [ht]; exact c_SumPairs xs _ hx.symm (by omega)
    rw [dot_ones hc hx.symm _ (Nat.le_refl _), List.take_of_length_le (Nat.le_refl _)] at g2
    have hw2 : IntKind.i64.wrap (((k : Int) + 1).tdiv 2) = (((k + 1) / 2 : Nat) : Int) := by rw [show ((k : Int) + 1) = ((k + 1 : Nat) : Int) by simp, show ((k + 1 : Nat) : Int).tdiv 2 = (((k + 1) / 2 : Nat) : Int) from rfl]; exact wrap64 (by omega) (by omega)
    have hpair : 1 < k → pairF 257 xs = fop .add .f32 (pairF 257 (xs.take ((k + 1) / 2))) (pairF 257 (xs.drop ((k + 1) / 2))) := fun h => by
      have := pairF_halves (l := xs) (by omega) (by omega)
      rw [hx] at this; exact this
    generalize hH : (k + 1) / 2 = H at *
    have kH : H ≤ k := by omega
    have g4 : Fun Try.prog 26 [.view false (cFs (xs.take H)) H] [] (.tup [.flt .f32 (pairF 257 (xs.take H)), .bool true]) [] := c_SumPairs _ _ (by simp; omega) (by simp; omega)
    have g5 : Fun Try.prog 26 [.view false (cFs (xs.drop H)) (k - H)] [] (.tup [.flt .f32 (pairF 257 (xs.drop H)), .bool true]) [] := c_SumPairs _ _ (by simp; omega) (by simp; omega)
    rw [show cFs (xs.drop H) = List.take (k - H) (List.drop H (cFs xs)) by rw [cFs_rest, List.take_of_length_le (by simp [cFs]; omega)]] at g5
    have n1 := can_sumF xs
    have n2 := can_pairF hc 257
    (first | refine callG_r ?_ | refine callD_r ?_); simp; (first | refine callN_flat (by with_reducible first | exact g1) rfl ?_ | refine callN_new (by with_reducible first | exact g1) ?_ | refine callM_flat (by with_reducible first | exact g1) rfl ?_ | refine callM_new (by with_reducible first | exact g1) ?_)
    simp
    (first | refine callG_r ?_ | refine callD_r ?_); simp; (first | refine callN_flat (by with_reducible first | exact g2) rfl ?_ | refine callN_new (by with_reducible first | exact g2) ?_ | refine callM_flat (by with_reducible first | exact g2) rfl ?_ | refine callM_new (by with_reducible first | exact g2) ?_)
    simp [hw]
    (first | refine callG_r ?_ | refine callD_r ?_); simp; (first | refine callN_flat (by with_reducible first | exact g3) rfl ?_ | refine callN_new (by with_reducible first | exact g3) ?_ | refine callM_flat (by with_reducible first | exact g3) rfl ?_ | refine callM_new (by with_reducible first | exact g3) ?_)
    simp [hw2]
    refine ⟨by omega, ?_⟩
    (first | refine callG_r ?_ | refine callD_r ?_); simp; (first | refine callN_flat (by with_reducible first | exact g4) rfl ?_ | refine callN_new (by with_reducible first | exact g4) ?_ | refine callM_flat (by with_reducible first | exact g4) rfl ?_ | refine callM_new (by with_reducible first | exact g4) ?_)
    simp
    have g6 : Fun Try.prog 26 [.view false [] 0] [] (.tup [.flt .f32 (pairF 257 []), .bool true]) [] := c_SumPairs [] 0 rfl (by decide)
    have n3 := canF_fop .add (pairF 257 (xs.take H)) (pairF 257 (xs.drop H))
    refine ⟨kH, fun c1 => ?_, fun c1 c2 => ?_, fun c1 c2 => ?_⟩
    all_goals
      (first | refine callG_r ?_ | refine callD_r ?_); simp; (first | refine callN_flat (by with_reducible first | exact g3 | exact g5 | exact g6) rfl ?_ | refine callN_new (by with_reducible first | exact g3 | exact g5 | exact g6) ?_ | refine callM_flat (by with_reducible first | exact g3 | exact g5 | exact g6) rfl ?_ | refine callM_new (by with_reducible first | exact g3 | exact g5 | exact g6) ?_)
      simp
      (first | refine callG_r ?_ | refine callD_r ?_); simp; (first | refine callN_flat (by with_reducible first | exact c_specSameNumber n1 n1) rfl ?_ | refine callN_new (by with_reducible first | exact c_specSameNumber n1 n1) ?_ | refine callM_flat (by with_reducible first | exact c_specSameNumber n1 n1) rfl ?_ | refine callM_new (by with_reducible first | exact c_specSameNumber n1 n1) ?_)
      simp
      (first | refine callG_r ?_ | refine callD_r ?_); simp; (first | refine callN_flat (by with_reducible first | exact c_specSameNumber n1 n1) rfl ?_ | refine callN_new (by with_reducible first | exact c_specSameNumber n1 n1) ?_ | refine callM_flat (by with_reducible first | exact c_specSameNumber n1 n1) rfl ?_ | refine callM_new (by with_reducible first | exact c_specSameNumber n1 n1) ?_)
      simp
    all_goals refine ⟨fun c3 => ?_, fun c3 => ?_⟩
    case refine_1.refine_1 => exact absurd c3 (by omega)
    case refine_3.refine_1 => exact absurd c3 (by omega)
    case' refine_2.refine_1 =>
      have c4 := hpair (by omega)
      (first | refine callG_r ?_ | refine callD_r ?_); simp; (first | refine callN_flat (by with_reducible first | exact c_specSameNumber n2 n3) rfl ?_ | refine callN_new (by with_reducible first | exact c_specSameNumber n2 n3) ?_ | refine callM_flat (by with_reducible first | exact c_specSameNumber n2 n3) rfl ?_ | refine callM_new (by with_reducible first | exact c_specSameNumber n2 n3) ?_)
      simp [c4]
    all_goals
      refine callG_on false [] ?_; simp; refine callN_all (by with_reducible exact c_B10Whole m _ k rfl (by omega) hb' (by omega)) ?_; rintro _ _ ⟨ys, hy, hyc, rfl, rfl⟩; refine ⟨fun e => (by cases e), ?_⟩; simp
      have tk : List.take k (List.map (fint .f32) ys) = List.map (fint .f32) ys := List.take_of_length_le (by simp [hy])
      have yl : ys.length ≤ 256 := by omega
      have f1 := sum_fint hyc yl ys.length (Nat.le_refl _)
      rw [List.take_of_length_le (Nat.le_refl _)] at f1
      have f2 := pair_fint 257 hyc (by omega) yl
      have f3 := dot_fint hyc yl ys.length (Nat.le_refl _)
      have f4 := wide_fint hyc yl ys.length (Nat.le_refl _)
      have f5 := sqs_bound hyc ys.length (Nat.le_refl _)
      have f6 := sum_bound (by decide) hyc
      rw [hy] at f3 f4 f5 f6
      have p1 : Fun Try.prog 24 [.view false (cFs (List.take k (List.map (fint .f32) ys))) k] [] (.tup [.flt .f32 (fint .f32 ys.sum), .bool true]) [] := by
        rw [tk, ← f1]; exact c_SumNumbers _ _ (by simp [hy]) (by simp; omega)
      have p2 : Fun Try.prog 26 [.view false (cFs (List.take k (List.map (fint .f32) ys))) k] [] (.tup [.flt .f32 (fint .f32 ys.sum), .bool true]) [] := by
        rw [tk, ← f2]; exact c_SumPairs _ _ (by simp [hy]) (by simp; omega)
      have p3 : Fun Try.prog 25 [.view false (cFs (List.take k (List.map (fint .f32) ys))) k, .view false (cFs (List.take k (List.map (fint .f32) ys))) k] [] (.tup [.flt .f32 (fint .f32 (sqs ys k)), .bool true]) [] := by
        have := c_DotNumbers (List.map (fint .f32) ys) (List.map (fint .f32) ys) k k (by simp [hy]) (by simp [hy]) rfl (by simp; omega)
        rw [tk, ← f3]; rw [List.length_map, hy] at this; exact this
      have p4 : Fun Try.prog 28 [.view false (cFs (List.take k (List.map (fint .f32) ys))) k, .view false (cFs (List.take k (List.map (fint .f32) ys))) k] [] (.tup [.flt .f32 (fint .f32 (sqs ys k)), .bool true]) [] := by
        have hn := narrow_fint (a := sqs ys k) (by omega)
        rw [← f4] at hn
        have := c_DotWide (List.map (fint .f32) ys) (List.map (fint .f32) ys) k k (fint .f32 (sqs ys k)) (by simp [hy]) (by simp [hy]) rfl (by simp; omega) (by rw [List.length_map, hy]; exact hn)
        rw [tk]; exact this
      have p5 : Fun Try.prog 26 [.view false (cFs (List.take k (List.take k (List.map (fint .f32) ys)))) k] [] (.tup [.flt .f32 (fint .f32 ys.sum), .bool true]) [] := by
        rw [tk]; rw [tk] at p2; rw [tk]; exact p2
      (first | refine callG_r ?_ | refine callD_r ?_); simp; (first | refine callN_flat (by with_reducible first | exact p1) rfl ?_ | refine callN_new (by with_reducible first | exact p1) ?_ | refine callM_flat (by with_reducible first | exact p1) rfl ?_ | refine callM_new (by with_reducible first | exact p1) ?_)
      simp
      (first | refine callG_r ?_ | refine callD_r ?_); simp; (first | refine callN_flat (by with_reducible first | exact p2) rfl ?_ | refine callN_new (by with_reducible first | exact p2) ?_ | refine callM_flat (by with_reducible first | exact p2) rfl ?_ | refine callM_new (by with_reducible first | exact p2) ?_)
      simp
      refine ⟨by omega, by omega, by omega, ?_⟩
      (first | refine callG_r ?_ | refine callD_r ?_); simp; (first | refine callN_flat (by with_reducible first | exact p5) rfl ?_ | refine callN_new (by with_reducible first | exact p5) ?_ | refine callM_flat (by with_reducible first | exact p5) rfl ?_ | refine callM_new (by with_reducible first | exact p5) ?_)
      simp
      (first | refine callG_r ?_ | refine callD_r ?_); simp; (first | refine callN_flat (by with_reducible first | exact p3) rfl ?_ | refine callN_new (by with_reducible first | exact p3) ?_ | refine callM_flat (by with_reducible first | exact p3) rfl ?_ | refine callM_new (by with_reducible first | exact p3) ?_)
      simp
      (first | refine callG_r ?_ | refine callD_r ?_); simp; (first | refine callN_flat (by with_reducible first | exact p4) rfl ?_ | refine callN_new (by with_reducible first | exact p4) ?_ | refine callM_flat (by with_reducible first | exact p4) rfl ?_ | refine callM_new (by with_reducible first | exact p4) ?_)
      simp
      refine loopG_of (α := Nat) (fun i => i ≤ k) (fun i => k - i) (fun i => [(5, .int .i64 k), (21, .slc 0 0 k 1), (22, .flt .f32 (fint .f32 ys.sum)), (23, .bool true), (24, .flt .f32 (fint .f32 ys.sum)), (25, .bool true), (26, .flt .f32 (fint .f32 ys.sum)), (27, .bool true), (28, .flt .f32 (fint .f32 (sqs ys k))), (29, .bool true), (30, .flt .f32 (fint .f32 (sqs ys k))), (31, .bool true), (32, .int .i64 (ys.take i).sum), (33, .int .i64 (sqs ys i)), (34, .int .i64 i)]) (fun i => [.blk true false 24 (cFs (List.map (fint .f32) ys))]) 0 (by simp) ?_ fun i hi => ?_
      · (refine weak_gc [(some 2, 0)] ?_ ?_ ?_ ?_ ?_ <;> simp [sqs])
      have hw' := nat_wrap (k := i) (by omega)
      by_cases b2 : i < k
      · have b3 : i < ys.length := by omega
        have z1 := hyc _ (List.getElem_mem b3)
        have z2 := sq_bound z1
        have z3 := sum_bound (by decide) (xs := ys.take i) fun x hx => hyc x (List.mem_of_mem_take hx)
        rw [List.length_take, Nat.min_eq_left (by omega)] at z3
        have z4 := sqs_bound hyc i (by omega)
        have z5 := fint_back (a := ys[i]) (by omega)
        have z6 : IntKind.i64.wrap (ys[i] * ys[i]) = ys[i] * ys[i] := wrap64 (by omega) (by omega)
        have z7 : IntKind.i64.wrap (sqs ys i + ys[i] * ys[i]) = sqs ys i + ys[i] * ys[i] := wrap64 (by omega) (by omega)
        have z8 : IntKind.i64.wrap ((ys.take i).sum + ys[i]) = (ys.take i).sum + ys[i] := wrap64 (by omega) (by omega)
        simp [b2, b3, hw', z5, z6, z7, z8]
        refine loopK_next (i + 1) (by omega) (by omega) ?_
        rw [sqs_succ b3, sums_take b3]
        (refine weak_gc [(some 0, 0)] ?_ ?_ ?_ ?_ ?_ <;> simp)
      · obtain rfl : i = k := by omega
        have z1 : List.take i ys = ys := List.take_of_length_le (by omega)
        have z2 : ford .f32 (fint .f32 ys.sum) (fint .f32 ys.sum) = some .eq := ford_self (fint_same (by omega))
        have z3 : ford .f32 (fint .f32 (sqs ys i)) (fint .f32 (sqs ys i)) = some .eq := ford_self (fint_same (by omega))
        rw [z1]
        simp [z2, z3]
end Go.Proofs.Ytfngkhkghjgmkaa
