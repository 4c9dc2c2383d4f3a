/- Contracts: the pieces of a cloth, as the reference reckons them.
Conditions: none. -/
import Derived.Test.YtnpflgeenecaeaaP3
namespace Go.Proofs.Ytnpflgeenecaeaa
set_option linter.all false
open Go Go.Awp
set_option maxRecDepth 100000
set_option maxHeartbeats 4000000
set_option pp.deepTerms true

theorem c_l00Max (a b : Int) : Fun Try.prog 31 [.int .i64 a, .int .i64 b] [] (.int .i64 (max a b)) [] := by
  refine FnSpec.walkF dr_ok Try.func31 rfl (by kernel_rfl) rfl rfl rfl (by simp) ?_
  simp
  grind
theorem c_l00Min (a b : Int) : Fun Try.prog 32 [.int .i64 a, .int .i64 b] [] (.int .i64 (min a b)) [] := by
  refine FnSpec.walkF dr_ok Try.func32 rfl (by kernel_rfl) rfl rfl rfl (by simp) ?_
  simp
  grind
theorem ids_succ (k : Nat) : ids (k + 1) = ids k ++ [(k : Int)] := by simp [ids, List.range_succ]
theorem ids_len (k : Nat) : (ids k).length = k := by simp [ids]
theorem set_mid {a : List Int} {k : Nat} {x z : Int} : (a ++ List.replicate (k + 1) z).set a.length x = (a ++ [x]) ++ List.replicate k z := by
  rw [List.set_append_right _ _ (Nat.le_refl _), Nat.sub_self, List.replicate_succ]; simp
theorem c_specPieces (c : Clo) (hs : c.Small) (hv : vldC c = true) : Fun Try.prog 7 [c.av] [] (.tup [.slc 0 0 c.pl.length 1, .int .i64 (fin (groups c.pl.length c.th) c.pl.length).2, .bool true]) [.blk true false 2 (cIs (fin (groups c.pl.length c.th) c.pl.length).1)] := by
  have hV := vld_of hv
  refine FnSpec.walk dr_ok Try.func7 rfl (by kernel_rfl) rfl rfl rfl (by simp) ?_
  simp
  (first | refine callG_r ?_ | refine callD_r ?_); simp; (first | refine callN_flat (by with_reducible first | exact c_l10Is c hs) rfl ?_ | refine callN_new (by with_reducible first | exact c_l10Is c hs) ?_ | refine callM_flat (by with_reducible first | exact c_l10Is c hs) rfl ?_ | refine callM_new (by with_reducible first | exact c_l10Is c hs) ?_)
  simp [hv]
  obtain ⟨h1, h2, h3, h4⟩ := hs
  have hpl := hV.pl
  have hth := hV.th
  refine loopG_of (α := Nat) (fun k => k ≤ c.pl.length) (fun k => c.pl.length - k) (fun k => [(1, .ptr 0 0), (5, .int .i64 c.pl.length), (6, .slc 1 0 k 1), (7, .int .i64 k)]) (fun k => [cloB c, .blk true false 2 (cIs (ids k))]) 0 (by simp) ?_ fun k hk => ?_
  · (refine weak_gc [(some 0, 0), (none, 2)] ?_ ?_ ?_ ?_ ?_ <;> simp [ids])
  have hw := nat_wrap (k := k) (by omega)
  by_cases b : k < c.pl.length
  · simp [b, hw]
    refine ⟨by rw [ids_len]; omega, by omega, by omega, loopK_next (k + 1) (by omega) (by omega) ?_⟩
    (refine weak_gc [(some 0, 0), (some 3, 0)] ?_ ?_ ?_ ?_ ?_ <;> simp)
    rw [List.take_of_length_le (by rw [ids_len]; omega), ids_succ]
  · obtain rfl : k = c.pl.length := by omega
    simp
    refine loopG_of (α := Nat) (fun k => k ≤ c.th.length) (fun k => c.th.length - k) (fun k => [(1, .ptr 0 0), (5, .int .i64 c.pl.length), (6, .slc 1 0 c.pl.length 1), (8, .int .i64 k)]) (fun k => [cloB c, .blk true false 2 (cIs (groups c.pl.length (c.th.take k)))]) 0 (by simp) ?_ fun j hj => ?_
    · exact weak_UH rfl (by simp)
    have hw2 := nat_wrap (k := j) (by omega)
    by_cases b2 : j < c.th.length
    · have hgi := gi_groups j hj hV.ok
      obtain ⟨t1, t2, t3, t4⟩ := hV.ok _ (List.getElem_mem b2)
      have hsn : groups c.pl.length (c.th.take (j + 1)) = relT (groups c.pl.length (c.th.take j)) c.th[j] := by rw [← List.take_append_getElem b2, groups_snoc]
      obtain ⟨A, hA'⟩ : ∃ a : Nat, c.th[j].1 = a := ⟨c.th[j].1.toNat, by omega⟩
      obtain ⟨B, hB'⟩ : ∃ a : Nat, c.th[j].2.1 = a := ⟨c.th[j].2.1.toNat, by omega⟩
      generalize groups c.pl.length (c.th.take j) = g at *
      have gl := hgi.len
      have hA : A < c.pl.length := by omega
      have hB : B < c.pl.length := by omega
      have eA : nth g A = g[A]'(by omega) := nth_at (by omega)
      have eB : nth g B = g[B]'(by omega) := nth_at (by omega)
      simp [b2, hw2, hA', hB', hA, hB, gl]
      rw [← eA, ← eB]
      have hrl : (relT g c.th[j]).length = g.length := by simp [relT]
      refine loopG_of (α := Nat) (fun i => i ≤ c.pl.length) (fun i => c.pl.length - i) (fun i => [(1, .ptr 0 0), (5, .int .i64 c.pl.length), (6, .slc 1 0 c.pl.length 1), (8, .int .i64 j), (9, .int .i64 (nth g A)), (10, .int .i64 (nth g B)), (11, .int .i64 i)]) (fun i => [cloB c, .blk true false 2 (cIs (mixN (relT g c.th[j]) g i))]) 0 (by simp) ?_ fun i hi => ?_
      · exact weak_UH (by simp) (by simp)
      have hw3 := nat_wrap (k := i) (by omega)
      have hm := mixN_length i hrl
      by_cases b3 : i < c.pl.length
      · have e5 : nth g i = g[i]'(by omega) := nth_at (by omega)
        have e6 : (mixN (relT g c.th[j]) g i)[i]'(by omega) = nth g i := by rw [e5]; simp [mixN, List.getElem_append_right, hrl, gl, Nat.min_eq_left (Nat.le_of_lt b3)]
        simp [b3, hw3, hm, gl]
        (first | refine callG_r ?_ | refine callD_r ?_); simp; (first | refine callN_flat (by with_reducible first | exact c_l00Max _ _) rfl ?_ | refine callN_new (by with_reducible first | exact c_l00Max _ _) ?_ | refine callM_flat (by with_reducible first | exact c_l00Max _ _) rfl ?_ | refine callM_new (by with_reducible first | exact c_l00Max _ _) ?_)
        have e7 : (relT g c.th[j])[i]'(by omega) = if nth g i = max (nth g A) (nth g B) then min (nth g A) (nth g B) else nth g i := by
          simp only [relT, List.getElem_map, hA', hB', Int.toNat_natCast, ← e5]
        simp [e6]
        refine ⟨fun q0 => ?_, fun q0 => ?_⟩
        · (first | refine callG_r ?_ | refine callD_r ?_); simp; (first | refine callN_flat (by with_reducible first | exact c_l00Min _ _) rfl ?_ | refine callN_new (by with_reducible first | exact c_l00Min _ _) ?_ | refine callM_flat (by with_reducible first | exact c_l00Min _ _) rfl ?_ | refine callM_new (by with_reducible first | exact c_l00Min _ _) ?_)
          rw [if_pos q0] at e7
          have := mixN_set (v := min (nth g A) (nth g B)) (by omega : i < (relT g c.th[j]).length) hrl e7.symm
          simp [b3, hw3, hm, gl]
          refine ⟨by omega, loopK_next (i + 1) (by omega) (by omega) (weak_UH (by rw [this]) (by simp))⟩
        · rw [if_neg q0] at e7
          have h1 := mixN_set (v := nth g i) (by omega : i < (relT g c.th[j]).length) hrl e7.symm
          have h2 : (mixN (relT g c.th[j]) g i).set i (nth g i) = mixN (relT g c.th[j]) g i := by
            conv => lhs; rw [← e6]
            exact List.set_getElem_self _
          rw [h2] at h1
          refine loopK_next (i + 1) (by omega) (by omega) (weak_UH (by rw [h1]) (by simp [hw3]))
      · obtain rfl : i = c.pl.length := by omega
        rw [mixN_all (by omega) (by omega)]
        simp [hw2]
        refine loopK_next (j + 1) (by omega) (by omega) ?_
        rw [hsn]
        exact weak_UH rfl (by simp)
    · obtain rfl : j = c.th.length := by omega
      have hgi := gi_groups c.th.length (Nat.le_refl _) hV.ok
      rw [List.take_length] at hgi ⊢
      simp
      refine ⟨by omega, by omega, ?_⟩
      generalize groups c.pl.length c.th = g at *
      have gl := hgi.len
      refine loopG_of (α := Nat) (fun i => i ≤ c.pl.length) (fun i => c.pl.length - i) (fun i => [(5, .int .i64 c.pl.length), (6, .slc 0 0 c.pl.length 1), (12, .slc 1 0 c.pl.length 1), (13, .int .i64 (fin g i).2), (14, .int .i64 i)]) (fun i => [.blk true false 2 (cIs g), .blk true false 2 (cIs ((fin g i).1 ++ List.replicate (c.pl.length - i) 0))]) 0 (by simp) ?_ fun i hi => ?_
      · (refine weak_gc [(some 1, 0), (some 2, 0)] ?_ ?_ ?_ ?_ ?_ <;> simp [fin])
      have hw3 := nat_wrap (k := i) (by omega)
      have fl := fin_len g i
      have fc := fin_cnt g i
      by_cases b3 : i < c.pl.length
      · have e5 : nth g i = g[i]'(by omega) := nth_at (by omega)
        have hr : List.replicate (c.pl.length - i) (0 : Int) = List.replicate (c.pl.length - (i + 1) + 1) 0 := by congr 1; omega
        have hwc : IntKind.i64.wrap ((fin g i).2 + 1) = (fin g i).2 + 1 := wrap64 (by omega) (by omega)
        have lo := hgi.lo i b3
        have up := hgi.hi i b3
        have hset : ∀ x : Int, ((fin g i).1 ++ List.replicate (c.pl.length - i) 0).set i x = ((fin g i).1 ++ [x]) ++ List.replicate (c.pl.length - (i + 1)) 0 := fun x => by
          have := set_mid (a := (fin g i).1) (k := c.pl.length - (i + 1)) (x := x) (z := 0)
          rw [fl] at this
          rw [hr]; exact this
        have ol : ((fin g i).1 ++ List.replicate (c.pl.length - i) (0 : Int)).length = c.pl.length := by rw [List.length_append, fl, List.length_replicate]; omega
        have oget : ∀ r : Nat, (hr : r < i) → ∀ h' : r < ((fin g i).1 ++ List.replicate (c.pl.length - i) (0 : Int)).length, ((fin g i).1 ++ List.replicate (c.pl.length - i) (0 : Int))[r]'h' = nth (fin g i).1 r := fun r hr h' => by
          rw [nth_at (by omega), List.getElem_append_left (by omega)]
        generalize hO : (fin g i).1 ++ List.replicate (c.pl.length - i) (0 : Int) = o at hset ol oget ⊢
        obtain ⟨r, hr'⟩ : ∃ r : Nat, nth g i = r := ⟨(nth g i).toNat, by omega⟩
        simp [b3, hw3, gl]
        rw [← e5, hr']
        refine ⟨fun q0 => ?_, fun q0 => ?_⟩
        · have hf : fin g (i + 1) = ((fin g i).1 ++ [(fin g i).2], (fin g i).2 + 1) := by
            show (if nth g i = i then _ else _ : List Int × Int) = _; rw [if_pos (by omega)]
          simp [ol, hwc, b3]
          refine ⟨by omega, loopK_next (i + 1) (by omega) (by omega) ?_⟩
          refine weak_UH ?_ (by simp [hf, hw3])
          rw [hset, hf]
        · have hf : fin g (i + 1) = ((fin g i).1 ++ [nth (fin g i).1 (nth g i).toNat], (fin g i).2) := by
            show (if nth g i = i then _ else _ : List Int × Int) = _; rw [if_neg (by omega)]
          rw [hr', Int.toNat_natCast] at hf
          have hri : r < i := by omega
          have hrn : r < c.pl.length := by omega
          have og := oget r hri (by omega)
          simp [ol, b3, hrn, gl, ← e5, hr', og]
          refine ⟨by omega, loopK_next (i + 1) (by omega) (by omega) ?_⟩
          refine weak_UH ?_ (by simp [hf, hw3])
          rw [hset, hf]
      · obtain rfl : i = c.pl.length := by omega
        simp
        (refine endG_keepT [(some 1, 0)] ?_ ?_ ?_ ?_ ?_ ?_ ?_ ⟨rfl, rfl⟩ ?_ <;> simp)
end Go.Proofs.Ytnpflgeenecaeaa
