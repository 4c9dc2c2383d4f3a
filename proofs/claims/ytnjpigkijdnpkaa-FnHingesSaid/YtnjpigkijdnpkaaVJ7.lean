/- The law of hinges.
Conditions: none. -/
import Derived.Test.YtnjpigkijdnpkaaY6
namespace Go.Proofs.Ytnjpigkijdnpkaa
set_option linter.all false
open Go Go.Awp
set_option maxRecDepth 100000
set_option maxHeartbeats 8000000
set_option pp.deepTerms true

abbrev hHeap (b : Bod) : Heap := [.blk true false 32 (cVs b.me.pl), .blk true false 38 (cRs true b.me.tr), .blk true false 110 (cSs b.sp), .blk true false 29 (cFs b.w),
  .blk true true 34 [.slc 0 0 b.me.pl.length 3, .slc 1 0 b.me.tr.length 1, .slc 2 0 b.sp.length 4, .flt .f32 b.film, .flt .f32 b.bend, .slc 3 0 b.w.length 1, .flt .f32 b.fall.1, .flt .f32 b.fall.2.1, .flt .f32 b.fall.2.2],
  .blk true false 38 (cRs true (hinS b.me)), .blk true false 38 (cRs true ((edS b.me).map ekey))]
attribute [simp] hHeap
theorem law_FnHinges (l m : List Nat) (hb : ∀ b ∈ l, b < 256) (hb' : ∀ b ∈ m, b < 256) (h1 : l.length ≤ maxLen) (h2 : m.length ≤ maxLen) : FnSpec Try.prog 3 [.view false (cBy l) l.length, .view false (cBy m) m.length] [] fun av _ => av = .bool true := by
  refine FnSpec.walkF dr_ok Try.func3 rfl (by kernel_rfl) rfl rfl rfl (by simp) ?_
  simp
  (first | refine callG_r ?_ | refine callD_r ?_); simp; (first | refine callN_flat (by with_reducible first | exact c_b10Long l m h1 h2) rfl ?_ | refine callN_new (by with_reducible first | exact c_b10Long l m h1 h2) ?_ | refine callM_flat (by with_reducible first | exact c_b10Long l m h1 h2) rfl ?_ | refine callM_new (by with_reducible first | exact c_b10Long l m h1 h2) ?_)
  simp
  intro q1 q2
  refine callG_on false [] ?_; simp; refine callN_all (by with_reducible exact c_B10Body l _ rfl (by omega) hb) ?_; rintro _ _ ⟨b, hvb, hn4, rfl, rfl⟩; refine ⟨fun e => (by cases e), ?_⟩; simp
  have hv : vldM b.me = true := by
    unfold vldB at hvb
    simp only [Bool.and_eq_true] at hvb
    exact hvb.1.1.1
  (first | refine callG_r ?_ | refine callD_r ?_); simp; (first | refine callN_flat (by with_reducible first | exact c_HingesOf b.me hv) rfl ?_ | refine callN_new (by with_reducible first | exact c_HingesOf b.me hv) ?_ | refine callM_flat (by with_reducible first | exact c_HingesOf b.me hv) rfl ?_ | refine callM_new (by with_reducible first | exact c_HingesOf b.me hv) ?_)
  simp
  (first | refine callG_r ?_ | refine callD_r ?_); simp; (first | refine callN_flat (by with_reducible first | exact c_specEdgesOf b.me hv) rfl ?_ | refine callN_new (by with_reducible first | exact c_specEdgesOf b.me hv) ?_ | refine callM_flat (by with_reducible first | exact c_specEdgesOf b.me hv) rfl ?_ | refine callM_new (by with_reducible first | exact c_specEdgesOf b.me hv) ?_)
  simp
  have hel := edS_len hv
  have hpl := vldM_len hv
  refine loopG_of (α := Nat) (fun k => k ≤ (edS b.me).length) (fun k => (edS b.me).length - k) (fun k => [(42, .int .i64 k), (41, .int .i64 (edS b.me).length), (10, .int .i64 (hinN b.me k).length), (8, .slc 6 0 (edS b.me).length 1), (6, .slc 5 0 (hinS b.me).length 1), (5, .ptr 4 0)])
    (fun k => hHeap b) 0 (by simp) ?_ fun k hk => ?_
  · (refine weak_gc [(some 0, 0), (some 1, 0), (some 2, 0), (some 3, 0), (some 4, 0), (some 5, 0), (some 6, 0)] ?_ ?_ ?_ ?_ ?_ <;> simp [hinN])
  have hw := nat_wrap (k := k) (by omega)
  by_cases c : k < (edS b.me).length
  · obtain ⟨p, q, he, hpq, hqn⟩ := ed_at hv c
    have hek := ekey_at2 c he
    have hnl := hinN_len b.me k
    have hsu := hinN_succ c
    rw [he] at hsu
    simp [c, hw, he, hek]
    (first | refine callG_r ?_ | refine callD_r ?_); simp; (first | refine callN_flat (by with_reducible first | exact c_TrianglesAt b.me hv p q hpq hqn) rfl ?_ | refine callN_new (by with_reducible first | exact c_TrianglesAt b.me hv p q hpq hqn) ?_ | refine callM_flat (by with_reducible first | exact c_TrianglesAt b.me hv p q hpq hqn) rfl ?_ | refine callM_new (by with_reducible first | exact c_TrianglesAt b.me hv p q hpq hqn) ?_)
    simp [c, hw]
    have hth := atE_thirds b.me.tr ((p : Int), (q : Int))
    have hmem := fun i => atE_mem (T := b.me.tr) (e := ((p : Int), (q : Int))) (i := i)
    have hin := fun h => hin_next (m := b.me) c (by rw [he]; exact h)
    rw [he] at hin
    generalize atE b.me.tr ((p : Int), (q : Int)) = A at *
    refine ⟨fun h2 => ?_, fun h2 => ?_⟩
    · have hH : isH b.me.tr ((p : Int), (q : Int)) = false := by
        unfold isH; rw [hth]; simp; omega
      rw [hH] at hsu
      simp at hsu
      refine loopK_next (k + 1) (by omega) (by omega) ?_
      rw [hsu]
      (refine weak_gc [(some 0, 0), (some 1, 0), (some 2, 0), (some 3, 0), (some 4, 0), (some 5, 0), (some 6, 0)] ?_ ?_ ?_ ?_ ?_ <;> simp [hw])
    · obtain ⟨i0, i1, rfl⟩ : ∃ x y, A = [x, y] := by
        match A, h2 with
        | [x, y], _ => exact ⟨x, y, rfl⟩
      obtain ⟨a1, a2⟩ := hmem i0 (by simp)
      obtain ⟨b1, b2⟩ := hmem i1 (by simp)
      rw [List.getD_eq_getElem?_getD, List.getElem?_eq_getElem a1, Option.getD_some] at a2
      rw [List.getD_eq_getElem?_getD, List.getElem?_eq_getElem b1, Option.getD_some] at b2
      have hT0 := tri3_of hv _ (List.getElem_mem a1)
      have hT1 := tri3_of hv _ (List.getElem_mem b1)
      obtain ⟨_, u2, u3, u4, _⟩ := third_nonneg hT0 (e := ((p : Int), (q : Int))) (by simp; omega) a2
      obtain ⟨_, v2, v3, v4, _⟩ := third_nonneg hT1 (e := ((p : Int), (q : Int))) (by simp; omega) b2
      simp [List.getElem?_eq_getElem a1, List.getElem?_eq_getElem b1] at hth
      have hl0 : (b.me.tr[i0]).length ≤ 1048576 := by have := (vld_small hv).tr.2 _ (List.getElem_mem a1); omega
      have hl1 : (b.me.tr[i1]).length ≤ 1048576 := by have := (vld_small hv).tr.2 _ (List.getElem_mem b1); omega
      generalize hx0 : thirdE b.me.tr[i0] ((p : Int), (q : Int)) = x0 at *
      generalize hx1 : thirdE b.me.tr[i1] ((p : Int), (q : Int)) = x1 at *
      have hH : isH b.me.tr ((p : Int), (q : Int)) = true := by unfold isH; rw [hth]; rfl
      obtain ⟨hc, hg⟩ := hin hH
      have hE : hinE b.me.tr ((p : Int), (q : Int)) = [(p : Int), (q : Int), x0, x1] := by unfold hinE; rw [hth]
      rw [hE] at hg
      rw [hH, if_pos rfl, hE] at hsu
      have hcl : (hinN b.me (k + 1)).length = (hinN b.me k).length + 1 := by rw [hsu]; simp
      have hc' : ¬ (hinS b.me).length ≤ (hinN b.me k).length := by omega
      unfold hasE at a2 b2
      rw [Bool.and_eq_true] at a2 b2
      simp only at a2 b2 u3 u4 v3 v4
      have g0 : b.me.tr[i0].any (· == x0) = true := by simpa using u2
      have g1 : b.me.tr[i1].any (· == x1) = true := by simpa using v2
      simp [hc, hc', hg, c, hw, he, ekey]
      refine loopG_of (α := Nat) (fun j => j ≤ 2) (fun j => 2 - j) (fun j => [(15, .int .i64 j), (14, .view true (cIs [(p : Int), (q : Int), x0, x1]) 4), (12, .slc 7 0 2 1), (42, .int .i64 k), (41, .int .i64 (edS b.me).length), (10, .int .i64 (hinN b.me k).length), (8, .slc 6 0 (edS b.me).length 1), (6, .slc 5 0 (hinS b.me).length 1), (5, .ptr 4 0)])
        (fun _ => hHeap b ++ [.blk true false 2 (cIs [(i0 : Int), (i1 : Int)])]) 0 (by simp) ?_ fun j hj => ?_
      · (refine weak_gc [(some 0, 0), (some 1, 0), (some 2, 0), (some 3, 0), (some 4, 0), (some 5, 0), (some 6, 0), (some 7, 0)] ?_ ?_ ?_ ?_ ?_ <;> simp)
      have hwc : IntKind.i64.wrap (((hinN b.me k).length : Int) + 1) = (hinN b.me k).length + 1 := wrap64 (by omega) (by omega)
      have w1 : IntKind.i64.wrap 1 = 1 := by decide
      have w2 : IntKind.i64.wrap 2 = 2 := by decide
      have w3 : IntKind.i64.wrap 3 = 3 := by decide
      have hj2 : j = 0 ∨ j = 1 ∨ j = 2 := by omega
      rcases hj2 with rfl | rfl | rfl
      · simp [a1]
        (first | refine callG_r ?_ | refine callD_r ?_); simp; (first | refine callN_flat (by with_reducible first | exact c_b10Has b.me.tr[i0] p hl0) rfl ?_ | refine callN_new (by with_reducible first | exact c_b10Has b.me.tr[i0] p hl0) ?_ | refine callM_flat (by with_reducible first | exact c_b10Has b.me.tr[i0] p hl0) rfl ?_ | refine callM_new (by with_reducible first | exact c_b10Has b.me.tr[i0] p hl0) ?_)
        simp [a2.1]
        (first | refine callG_r ?_ | refine callD_r ?_); simp; (first | refine callN_flat (by with_reducible first | exact c_b10Has b.me.tr[i0] q hl0) rfl ?_ | refine callN_new (by with_reducible first | exact c_b10Has b.me.tr[i0] q hl0) ?_ | refine callM_flat (by with_reducible first | exact c_b10Has b.me.tr[i0] q hl0) rfl ?_ | refine callM_new (by with_reducible first | exact c_b10Has b.me.tr[i0] q hl0) ?_)
        simp [a2.2, w2]
        (first | refine callG_r ?_ | refine callD_r ?_); simp; (first | refine callN_flat (by with_reducible first | exact c_b10Has b.me.tr[i0] x0 hl0) rfl ?_ | refine callN_new (by with_reducible first | exact c_b10Has b.me.tr[i0] x0 hl0) ?_ | refine callM_flat (by with_reducible first | exact c_b10Has b.me.tr[i0] x0 hl0) rfl ?_ | refine callM_new (by with_reducible first | exact c_b10Has b.me.tr[i0] x0 hl0) ?_)
        simp [g0, u3, u4, w1, w2]
        refine loopK_next 1 (by omega) (by omega) ?_
        (refine weak_gc [(some 0, 0), (some 1, 0), (some 2, 0), (some 3, 0), (some 4, 0), (some 5, 0), (some 6, 0), (some 7, 0)] ?_ ?_ ?_ ?_ ?_ <;> simp)
      · simp [b1]
        (first | refine callG_r ?_ | refine callD_r ?_); simp; (first | refine callN_flat (by with_reducible first | exact c_b10Has b.me.tr[i1] p hl1) rfl ?_ | refine callN_new (by with_reducible first | exact c_b10Has b.me.tr[i1] p hl1) ?_ | refine callM_flat (by with_reducible first | exact c_b10Has b.me.tr[i1] p hl1) rfl ?_ | refine callM_new (by with_reducible first | exact c_b10Has b.me.tr[i1] p hl1) ?_)
        simp [b2.1]
        (first | refine callG_r ?_ | refine callD_r ?_); simp; (first | refine callN_flat (by with_reducible first | exact c_b10Has b.me.tr[i1] q hl1) rfl ?_ | refine callN_new (by with_reducible first | exact c_b10Has b.me.tr[i1] q hl1) ?_ | refine callM_flat (by with_reducible first | exact c_b10Has b.me.tr[i1] q hl1) rfl ?_ | refine callM_new (by with_reducible first | exact c_b10Has b.me.tr[i1] q hl1) ?_)
        simp [b2.2, w3]
        (first | refine callG_r ?_ | refine callD_r ?_); simp; (first | refine callN_flat (by with_reducible first | exact c_b10Has b.me.tr[i1] x1 hl1) rfl ?_ | refine callN_new (by with_reducible first | exact c_b10Has b.me.tr[i1] x1 hl1) ?_ | refine callM_flat (by with_reducible first | exact c_b10Has b.me.tr[i1] x1 hl1) rfl ?_ | refine callM_new (by with_reducible first | exact c_b10Has b.me.tr[i1] x1 hl1) ?_)
        simp [g1, v3, v4, w2, w3]
        refine loopK_next 2 (by omega) (by omega) ?_
        (refine weak_gc [(some 0, 0), (some 1, 0), (some 2, 0), (some 3, 0), (some 4, 0), (some 5, 0), (some 6, 0), (some 7, 0)] ?_ ?_ ?_ ?_ ?_ <;> simp)
      · simp [hwc, hw]
        refine loopK_next (k + 1) (by omega) (by omega) ?_
        (refine weak_gc [(some 0, 0), (some 1, 0), (some 2, 0), (some 3, 0), (some 4, 0), (some 5, 0), (some 6, 0)] ?_ ?_ ?_ ?_ ?_ <;> simp [hcl])
  · obtain rfl : k = (edS b.me).length := by omega
    simp [hinS]
end Go.Proofs.Ytnjpigkijdnpkaa
