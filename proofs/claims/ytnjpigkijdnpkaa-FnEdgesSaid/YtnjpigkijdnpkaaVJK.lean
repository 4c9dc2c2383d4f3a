/- The law of edges.
Conditions: none. -/
import Derived.Test.YtnjpigkijdnpkaaVJH
import Derived.Test.YtnjpigkijdnpkaaVJI
namespace Go.Proofs.Ytnjpigkijdnpkaa
set_option linter.all false
open Go Go.Awp
set_option maxRecDepth 100000
set_option maxHeartbeats 8000000
set_option pp.deepTerms true
theorem nb_fwd {m : Msh} {a b : Int} (h : (a, b) ∈ edS m) : b ∈ nbS m a := by
  unfold nbS nbN
  rw [List.take_length, List.mem_flatMap]
  exact ⟨_, h, by simp [nbE]⟩
theorem nb_bwd {m : Msh} {a b : Int} (h : (a, b) ∈ edS m) : a ∈ nbS m b := by
  unfold nbS nbN
  rw [List.take_length, List.mem_flatMap]
  exact ⟨_, h, by simp [nbE]⟩
theorem srt_any {L : List Int} {x : Int} (h : x ∈ L) : (srt L).any (· == x) = true := by
  rw [List.any_eq_true]
  exact ⟨x, by simpa using h, by simp⟩
abbrev gHeap2 (m : Msh) : Heap := [.blk true false 32 (cVs m.pl), .blk true false 38 (cRs true m.tr), .blk true true 27 [.slc 0 0 m.pl.length 3, .slc 1 0 m.tr.length 1],
  .blk true false 38 (cRs true ((edS m).map ekey)), .blk true false 38 (cRs true ((borS m).map ekey))]
attribute [simp] gHeap2
theorem law_FnEdges (l m0 : List Nat) (hb : ∀ b ∈ l, b < 256) (hb' : ∀ b ∈ m0, b < 256) (h1 : l.length ≤ maxLen) (h2 : m0.length ≤ maxLen) : FnSpec Try.prog 4 [.view false (cBy l) l.length, .view false (cBy m0) m0.length] [] fun av _ => av = .bool true := by
  refine FnSpec.walkF dr_ok Try.func4 rfl (by kernel_rfl) rfl rfl rfl (by simp) ?_
  simp
  (first | refine callG_r ?_ | refine callD_r ?_); simp; (first | refine callN_flat (by with_reducible first | exact c_r8Long l m0 h1 h2) rfl ?_ | refine callN_new (by with_reducible first | exact c_r8Long l m0 h1 h2) ?_ | refine callM_flat (by with_reducible first | exact c_r8Long l m0 h1 h2) rfl ?_ | refine callM_new (by with_reducible first | exact c_r8Long l m0 h1 h2) ?_)
  simp
  intro q1 q2
  refine callG_on false [] ?_; simp; refine callN_all (by with_reducible exact c_R8Mesh l _ rfl (by omega) hb) ?_; rintro _ _ ⟨m, hv, hn4, rfl, rfl⟩; refine ⟨fun e => (by cases e), ?_⟩; simp
  have hs := vld_small hv
  have hel := edS_len hv
  have hpl := vldM_len hv
  (first | refine callG_r ?_ | refine callD_r ?_); simp; (first | refine callN_flat (by with_reducible first | exact c_implEdgesOf m hv) rfl ?_ | refine callN_new (by with_reducible first | exact c_implEdgesOf m hv) ?_ | refine callM_flat (by with_reducible first | exact c_implEdgesOf m hv) rfl ?_ | refine callM_new (by with_reducible first | exact c_implEdgesOf m hv) ?_)
  simp
  (first | refine callG_r ?_ | refine callD_r ?_); simp; (first | refine callN_flat (by with_reducible first | exact c_LongsOfF m hv) rfl ?_ | refine callN_new (by with_reducible first | exact c_LongsOfF m hv) ?_ | refine callM_flat (by with_reducible first | exact c_LongsOfF m hv) rfl ?_ | refine callM_new (by with_reducible first | exact c_LongsOfF m hv) ?_)
  simp
  (first | refine callG_r ?_ | refine callD_r ?_); simp; (first | refine callN_flat (by with_reducible first | exact c_BorderOf m hv) rfl ?_ | refine callN_new (by with_reducible first | exact c_BorderOf m hv) ?_ | refine callM_flat (by with_reducible first | exact c_BorderOf m hv) rfl ?_ | refine callM_new (by with_reducible first | exact c_BorderOf m hv) ?_)
  simp
  (first | refine callG_r ?_ | refine callD_r ?_); simp; (first | refine callN_flat (by with_reducible first | exact c_ValidMesh m hs) rfl ?_ | refine callN_new (by with_reducible first | exact c_ValidMesh m hs) ?_ | refine callM_flat (by with_reducible first | exact c_ValidMesh m hs) rfl ?_ | refine callM_new (by with_reducible first | exact c_ValidMesh m hs) ?_)
  simp [hv]
  refine loopG_of (α := Nat) (fun k => k ≤ (edS m).length) (fun k => (edS m).length - k) (fun k => [(14, .int .i64 k), (12, .int .i64 (sumE m k)), (13, .int .i64 (borN m k).length), (6, .slc 3 0 (edS m).length 1), (10, .slc 4 0 (borS m).length 1), (5, .ptr 2 0), (1, .view false (cBy m0) m0.length)])
    (fun k => gHeap2 m) 0 (by simp) ?_ fun k hk => ?_
  · (refine weak_gc [(some 0, 0), (some 1, 0), (some 2, 0), (some 3, 0), (some 5, 0)] ?_ ?_ ?_ ?_ ?_ <;> simp [borN, sumE, sumA])
  have hw := nat_wrap (k := k) (by omega)
  have hsl := sumE_le (m := m) hk
  have hm3 : k * m.tr.length ≤ 384 * 128 := Nat.mul_le_mul (by omega) hpl.2
  by_cases c : k < (edS m).length
  · obtain ⟨p, q, he, hpq, hqn⟩ := ed_at hv c
    have hek := ekey_at2 c he
    have hmem : ((p : Int), (q : Int)) ∈ edS m := by rw [← he]; exact List.getElem_mem c
    have hsu := sumE_succ c
    have hbu := borN_succ c
    have hbl := borN_len m k
    have hbn := fun h => bor_next (m := m) c h
    have hpos := at_some hv hmem
    rw [he] at hsu hbu hbn
    have hpq' : ¬ (q : Int) ≤ (p : Int) := by omega
    have hpq'' : ¬ q ≤ p := by omega
    have hpq3 : ¬ (q : Int) = (p : Int) := by omega
    have hstep : (k = 0) ∨ ∃ j x y : Nat, ∃ hj : j < (edS m).length, k = j + 1 ∧ (edS m)[j] = ((x : Int), (y : Int)) ∧ (x < p ∨ x = p ∧ y < q) := by
      match k, c with
      | 0, _ => exact .inl rfl
      | j + 1, c =>
        obtain ⟨x, y, he', hxy, hyn⟩ := ed_at hv (show j < (edS m).length by omega)
        have ho := ed_order c
        rw [he', he] at ho
        unfold ltE at ho
        simp only at ho
        exact .inr ⟨j, x, y, by omega, rfl, he', by omega⟩
    have wj : ∀ j : Nat, k = j + 1 → IntKind.i64.wrap ((k : Int) - 1) = (j : Int) := fun j e => by rw [wrap64 (by omega) (by omega)]; omega
    have hnp : (q : Int) ∈ nbS m (p : Int) := nb_fwd hmem
    have hnq : (p : Int) ∈ nbS m (q : Int) := nb_bwd hmem
    have hnp0 : nbS m (p : Int) ≠ [] := List.ne_nil_of_mem hnp
    have hnq0 : nbS m (q : Int) ≠ [] := List.ne_nil_of_mem hnq
    have hsp : (srt (nbS m (p : Int))).any (· == (q : Int)) = true := srt_any hnp
    have hsq : (srt (nbS m (q : Int))).any (· == (p : Int)) = true := srt_any hnq
    have hlp : (srt (nbS m (p : Int))).length = (nbS m (p : Int)).length := by simp
    have hlq : (srt (nbS m (q : Int))).length = (nbS m (q : Int)).length := by simp
    have hnb : (nbS m (p : Int)).length ≤ 2 * (edS m).length := nbN_len (Nat.le_refl _)
    have hnb2 : (nbS m (q : Int)).length ≤ 2 * (edS m).length := nbN_len (Nat.le_refl _)
    have r1 : Fun Try.prog 20 [.view false (cIs (List.take (nbS m (p : Int)).length (srt (nbS m (p : Int))))) (nbS m (p : Int)).length, .int .i64 q] [] (.bool true) [] := by
      have := c_r8In (srt (nbS m (p : Int))) q (by omega)
      rw [hsp, hlp] at this
      rw [List.take_of_length_le (by omega)]
      exact this
    have r2 : Fun Try.prog 20 [.view false (cIs (List.take (nbS m (q : Int)).length (srt (nbS m (q : Int))))) (nbS m (q : Int)).length, .int .i64 p] [] (.bool true) [] := by
      have := c_r8In (srt (nbS m (q : Int))) p (by omega)
      rw [hsq, hlq] at this
      rw [List.take_of_length_le (by omega)]
      exact this
    have t1 : Fun Try.prog 18 [m.av, .int .i64 q, .int .i64 p] [] (.tup [.slc 0 0 (atE m.tr ((p : Int), (q : Int))).length 1, .bool true]) [.blk true false 2 (cIs ((atE m.tr ((p : Int), (q : Int))).map Int.ofNat))] := by
      have := c_implTrianglesAt m hv q p (by omega) hqn (by omega)
      rwa [atE_swap m.tr (q : Int) (p : Int)] at this
    have hB : isB1 m ((p : Int), (q : Int)) = ((atE m.tr ((p : Int), (q : Int))).length == 1) := rfl
    have hal : (atE m.tr ((p : Int), (q : Int))).length ≤ 128 := Nat.le_trans (atN_len _ _ _) hpl.2
    generalize atE m.tr ((p : Int), (q : Int)) = A at *
    have hA0 : ¬ A = [] := by intro e; rw [e] at hpos; simp at hpos
    have hA0' : ¬ A.length = 0 := by omega
    have hsw : IntKind.i64.wrap ((sumE m k : Int) + A.length) = ((sumE m k + A.length : Nat) : Int) := by rw [wrap64 (by omega) (by omega)]; simp
    have hbw : IntKind.i64.wrap (((borN m k).length : Int) + 1) = (((borN m k).length + 1 : Nat) : Int) := by rw [wrap64 (by omega) (by omega)]; simp
    rcases hstep with k0 | ⟨j, x, y, hj, kj, he', ho | ⟨ho1, ho2⟩⟩
    · have kz : ¬ 0 < k := by omega
      have kz' : ¬ (0 : Int) < k := by omega
      simp [c, he, hek, ekey, hpq', hpq'', kz, kz']
      (first | refine callG_r ?_ | refine callD_r ?_); simp; (first | refine callN_flat (by with_reducible first | exact t1) rfl ?_ | refine callN_new (by with_reducible first | exact t1) ?_ | refine callM_flat (by with_reducible first | exact t1) rfl ?_ | refine callM_new (by with_reducible first | exact t1) ?_)
      simp [c, hw, he, hek, ekey]
      (first | refine callG_r ?_ | refine callD_r ?_); simp; (first | refine callN_flat (by with_reducible first | exact c_NeighboursOf m hv p (by omega) hnp0) rfl ?_ | refine callN_new (by with_reducible first | exact c_NeighboursOf m hv p (by omega) hnp0) ?_ | refine callM_flat (by with_reducible first | exact c_NeighboursOf m hv p (by omega) hnp0) rfl ?_ | refine callM_new (by with_reducible first | exact c_NeighboursOf m hv p (by omega) hnp0) ?_)
      simp [c, hw, he, hek, ekey]
      (first | refine callG_r ?_ | refine callD_r ?_); simp; (first | refine callN_flat (by with_reducible first | exact c_NeighboursOf m hv q hqn hnq0) rfl ?_ | refine callN_new (by with_reducible first | exact c_NeighboursOf m hv q hqn hnq0) ?_ | refine callM_flat (by with_reducible first | exact c_NeighboursOf m hv q hqn hnq0) rfl ?_ | refine callM_new (by with_reducible first | exact c_NeighboursOf m hv q hqn hnq0) ?_)
      simp [c, hw, he, hek, ekey, hA0, hA0']
      (first | refine callG_r ?_ | refine callD_r ?_); simp; (first | refine callN_flat (by with_reducible first | exact r1) rfl ?_ | refine callN_new (by with_reducible first | exact r1) ?_ | refine callM_flat (by with_reducible first | exact r1) rfl ?_ | refine callM_new (by with_reducible first | exact r1) ?_)
      simp [c, hw, he, hek, ekey, hA0, hA0']
      (first | refine callG_r ?_ | refine callD_r ?_); simp; (first | refine callN_flat (by with_reducible first | exact r2) rfl ?_ | refine callN_new (by with_reducible first | exact r2) ?_ | refine callM_flat (by with_reducible first | exact r2) rfl ?_ | refine callM_new (by with_reducible first | exact r2) ?_)
      simp [c, hw, he, hek, ekey, hA0, hA0', hsw]
      by_cases hA1 : A.length = 1
      · have hb1 : isB1 m ((p : Int), (q : Int)) = true := by rw [hB, hA1]; rfl
        obtain ⟨hc, hg⟩ := hbn hb1
        rw [hb1, if_pos rfl] at hbu
        have hbl' : (borN m (k + 1)).length = (borN m k).length + 1 := by rw [hbu]; simp
        have hc' : ¬ (borS m).length ≤ (borN m k).length := by omega
        simp [hA1, hc, hc', hg, ekey, c, he, hw, hbw]
        (first | refine callG_r ?_ | refine callD_r ?_); simp; (first | refine callN_flat (by with_reducible first | exact c_r8Same2 (p : Int) (q : Int)) rfl ?_ | refine callN_new (by with_reducible first | exact c_r8Same2 (p : Int) (q : Int)) ?_ | refine callM_flat (by with_reducible first | exact c_r8Same2 (p : Int) (q : Int)) rfl ?_ | refine callM_new (by with_reducible first | exact c_r8Same2 (p : Int) (q : Int)) ?_)
        simp [hw, hbw]
        refine loopK_next (k + 1) (by omega) (by omega) ?_
        (refine weak_gc [(some 0, 0), (some 1, 0), (some 2, 0), (some 3, 0), (some 4, 0)] ?_ ?_ ?_ ?_ ?_ <;> simp [hsu, hbl', hA1])
      · have hb1 : isB1 m ((p : Int), (q : Int)) = false := by rw [hB]; simpa using hA1
        have hA1' : ¬ (A.length : Int) = 1 := by omega
        rw [hb1] at hbu
        simp only [Bool.false_eq_true, if_false, List.append_nil] at hbu
        simp [hA1, hA1', hw]
        refine loopK_next (k + 1) (by omega) (by omega) ?_
        rw [hbu]
        (refine weak_gc [(some 0, 0), (some 1, 0), (some 2, 0), (some 3, 0), (some 4, 0)] ?_ ?_ ?_ ?_ ?_ <;> simp [hsu])
    · have wj' := wj j kj
      have k1 : 0 < k := by omega
      have k2 : (0 : Int) < k := by omega
      have o1 : x ≤ p := by omega
      have o2 : ¬ (x : Int) = p := by omega
      simp [c, he, hek, ekey, hpq', hpq'', wj', k1, k2, hj, he', o1, o2]
      (first | refine callG_r ?_ | refine callD_r ?_); simp; (first | refine callN_flat (by with_reducible first | exact t1) rfl ?_ | refine callN_new (by with_reducible first | exact t1) ?_ | refine callM_flat (by with_reducible first | exact t1) rfl ?_ | refine callM_new (by with_reducible first | exact t1) ?_)
      simp [c, hw, he, hek, ekey]
      (first | refine callG_r ?_ | refine callD_r ?_); simp; (first | refine callN_flat (by with_reducible first | exact c_NeighboursOf m hv p (by omega) hnp0) rfl ?_ | refine callN_new (by with_reducible first | exact c_NeighboursOf m hv p (by omega) hnp0) ?_ | refine callM_flat (by with_reducible first | exact c_NeighboursOf m hv p (by omega) hnp0) rfl ?_ | refine callM_new (by with_reducible first | exact c_NeighboursOf m hv p (by omega) hnp0) ?_)
      simp [c, hw, he, hek, ekey]
      (first | refine callG_r ?_ | refine callD_r ?_); simp; (first | refine callN_flat (by with_reducible first | exact c_NeighboursOf m hv q hqn hnq0) rfl ?_ | refine callN_new (by with_reducible first | exact c_NeighboursOf m hv q hqn hnq0) ?_ | refine callM_flat (by with_reducible first | exact c_NeighboursOf m hv q hqn hnq0) rfl ?_ | refine callM_new (by with_reducible first | exact c_NeighboursOf m hv q hqn hnq0) ?_)
      simp [c, hw, he, hek, ekey, hA0, hA0']
      (first | refine callG_r ?_ | refine callD_r ?_); simp; (first | refine callN_flat (by with_reducible first | exact r1) rfl ?_ | refine callN_new (by with_reducible first | exact r1) ?_ | refine callM_flat (by with_reducible first | exact r1) rfl ?_ | refine callM_new (by with_reducible first | exact r1) ?_)
      simp [c, hw, he, hek, ekey, hA0, hA0']
      (first | refine callG_r ?_ | refine callD_r ?_); simp; (first | refine callN_flat (by with_reducible first | exact r2) rfl ?_ | refine callN_new (by with_reducible first | exact r2) ?_ | refine callM_flat (by with_reducible first | exact r2) rfl ?_ | refine callM_new (by with_reducible first | exact r2) ?_)
      simp [c, hw, he, hek, ekey, hA0, hA0', hsw]
      by_cases hA1 : A.length = 1
      · have hb1 : isB1 m ((p : Int), (q : Int)) = true := by rw [hB, hA1]; rfl
        obtain ⟨hc, hg⟩ := hbn hb1
        rw [hb1, if_pos rfl] at hbu
        have hbl' : (borN m (k + 1)).length = (borN m k).length + 1 := by rw [hbu]; simp
        have hc' : ¬ (borS m).length ≤ (borN m k).length := by omega
        simp [hA1, hc, hc', hg, ekey, c, he, hw, hbw]
        (first | refine callG_r ?_ | refine callD_r ?_); simp; (first | refine callN_flat (by with_reducible first | exact c_r8Same2 (p : Int) (q : Int)) rfl ?_ | refine callN_new (by with_reducible first | exact c_r8Same2 (p : Int) (q : Int)) ?_ | refine callM_flat (by with_reducible first | exact c_r8Same2 (p : Int) (q : Int)) rfl ?_ | refine callM_new (by with_reducible first | exact c_r8Same2 (p : Int) (q : Int)) ?_)
        simp [hw, hbw]
        refine loopK_next (k + 1) (by omega) (by omega) ?_
        (refine weak_gc [(some 0, 0), (some 1, 0), (some 2, 0), (some 3, 0), (some 4, 0)] ?_ ?_ ?_ ?_ ?_ <;> simp [hsu, hbl', hA1])
      · have hb1 : isB1 m ((p : Int), (q : Int)) = false := by rw [hB]; simpa using hA1
        have hA1' : ¬ (A.length : Int) = 1 := by omega
        rw [hb1] at hbu
        simp only [Bool.false_eq_true, if_false, List.append_nil] at hbu
        simp [hA1, hA1', hw]
        refine loopK_next (k + 1) (by omega) (by omega) ?_
        rw [hbu]
        (refine weak_gc [(some 0, 0), (some 1, 0), (some 2, 0), (some 3, 0), (some 4, 0)] ?_ ?_ ?_ ?_ ?_ <;> simp [hsu])
    · have wj' := wj j kj
      have k1 : 0 < k := by omega
      have k2 : (0 : Int) < k := by omega
      have o1 : x ≤ p := by omega
      have o2 : (x : Int) = p := by omega
      simp [c, he, hek, ekey, hpq', hpq'', wj', k1, k2, hj, he', o1, o2, ho2]
      (first | refine callG_r ?_ | refine callD_r ?_); simp; (first | refine callN_flat (by with_reducible first | exact t1) rfl ?_ | refine callN_new (by with_reducible first | exact t1) ?_ | refine callM_flat (by with_reducible first | exact t1) rfl ?_ | refine callM_new (by with_reducible first | exact t1) ?_)
      simp [c, hw, he, hek, ekey]
      (first | refine callG_r ?_ | refine callD_r ?_); simp; (first | refine callN_flat (by with_reducible first | exact c_NeighboursOf m hv p (by omega) hnp0) rfl ?_ | refine callN_new (by with_reducible first | exact c_NeighboursOf m hv p (by omega) hnp0) ?_ | refine callM_flat (by with_reducible first | exact c_NeighboursOf m hv p (by omega) hnp0) rfl ?_ | refine callM_new (by with_reducible first | exact c_NeighboursOf m hv p (by omega) hnp0) ?_)
      simp [c, hw, he, hek, ekey]
      (first | refine callG_r ?_ | refine callD_r ?_); simp; (first | refine callN_flat (by with_reducible first | exact c_NeighboursOf m hv q hqn hnq0) rfl ?_ | refine callN_new (by with_reducible first | exact c_NeighboursOf m hv q hqn hnq0) ?_ | refine callM_flat (by with_reducible first | exact c_NeighboursOf m hv q hqn hnq0) rfl ?_ | refine callM_new (by with_reducible first | exact c_NeighboursOf m hv q hqn hnq0) ?_)
      simp [c, hw, he, hek, ekey, hA0, hA0']
      (first | refine callG_r ?_ | refine callD_r ?_); simp; (first | refine callN_flat (by with_reducible first | exact r1) rfl ?_ | refine callN_new (by with_reducible first | exact r1) ?_ | refine callM_flat (by with_reducible first | exact r1) rfl ?_ | refine callM_new (by with_reducible first | exact r1) ?_)
      simp [c, hw, he, hek, ekey, hA0, hA0']
      (first | refine callG_r ?_ | refine callD_r ?_); simp; (first | refine callN_flat (by with_reducible first | exact r2) rfl ?_ | refine callN_new (by with_reducible first | exact r2) ?_ | refine callM_flat (by with_reducible first | exact r2) rfl ?_ | refine callM_new (by with_reducible first | exact r2) ?_)
      simp [c, hw, he, hek, ekey, hA0, hA0', hsw]
      by_cases hA1 : A.length = 1
      · have hb1 : isB1 m ((p : Int), (q : Int)) = true := by rw [hB, hA1]; rfl
        obtain ⟨hc, hg⟩ := hbn hb1
        rw [hb1, if_pos rfl] at hbu
        have hbl' : (borN m (k + 1)).length = (borN m k).length + 1 := by rw [hbu]; simp
        have hc' : ¬ (borS m).length ≤ (borN m k).length := by omega
        simp [hA1, hc, hc', hg, ekey, c, he, hw, hbw]
        (first | refine callG_r ?_ | refine callD_r ?_); simp; (first | refine callN_flat (by with_reducible first | exact c_r8Same2 (p : Int) (q : Int)) rfl ?_ | refine callN_new (by with_reducible first | exact c_r8Same2 (p : Int) (q : Int)) ?_ | refine callM_flat (by with_reducible first | exact c_r8Same2 (p : Int) (q : Int)) rfl ?_ | refine callM_new (by with_reducible first | exact c_r8Same2 (p : Int) (q : Int)) ?_)
        simp [hw, hbw]
        refine loopK_next (k + 1) (by omega) (by omega) ?_
        (refine weak_gc [(some 0, 0), (some 1, 0), (some 2, 0), (some 3, 0), (some 4, 0)] ?_ ?_ ?_ ?_ ?_ <;> simp [hsu, hbl', hA1])
      · have hb1 : isB1 m ((p : Int), (q : Int)) = false := by rw [hB]; simpa using hA1
        have hA1' : ¬ (A.length : Int) = 1 := by omega
        rw [hb1] at hbu
        simp only [Bool.false_eq_true, if_false, List.append_nil] at hbu
        simp [hA1, hA1', hw]
        refine loopK_next (k + 1) (by omega) (by omega) ?_
        rw [hbu]
        (refine weak_gc [(some 0, 0), (some 1, 0), (some 2, 0), (some 3, 0), (some 4, 0)] ?_ ?_ ?_ ?_ ?_ <;> simp [hsu])
  · obtain rfl : k = (edS m).length := by omega
    simp
    obtain ⟨x, hx, hcx⟩ := c_r8At m0 m.pl.length hb' (by omega) (by omega) hpl.1
    (first | refine callG_r ?_ | refine callD_r ?_); simp; (first | refine callN_flat (by with_reducible first | exact hcx) rfl ?_ | refine callN_new (by with_reducible first | exact hcx) ?_ | refine callM_flat (by with_reducible first | exact hcx) rfl ?_ | refine callM_new (by with_reducible first | exact hcx) ?_)
    simp
    (first | refine callG_r ?_ | refine callD_r ?_); simp; (first | refine callN_flat (by with_reducible first | exact c_TrianglesOf m hv x hx) rfl ?_ | refine callN_new (by with_reducible first | exact c_TrianglesOf m hv x hx) ?_ | refine callM_flat (by with_reducible first | exact c_TrianglesOf m hv x hx) rfl ?_ | refine callM_new (by with_reducible first | exact c_TrianglesOf m hv x hx) ?_)
    simp
    refine loopG_of (α := Nat) (fun k => k ≤ m.tr.length) (fun k => m.tr.length - k) (fun k => [(25, .int .i64 k), (24, .int .i64 (withN m.tr [(x : Int)] k).length), (23, .bool true), (22, .slc 5 0 (withN m.tr [(x : Int)] m.tr.length).length 1), (21, .int .i64 x), (12, .int .i64 (sumE m (edS m).length)), (13, .int .i64 (borN m (edS m).length).length), (10, .slc 4 0 (borS m).length 1), (5, .ptr 2 0)])
      (fun _ => gHeap2 m ++ [.blk true false 2 (cIs ((withN m.tr [(x : Int)] m.tr.length).map Int.ofNat))]) 0 (by simp) ?_ fun k hk => ?_
    · (refine weak_gc [(some 0, 0), (some 1, 0), (some 2, 0), (some 3, 0), (some 4, 0), (some 5, 0)] ?_ ?_ ?_ ?_ ?_ <;> simp [withN])
    have hw := nat_wrap (k := k) (by omega)
    by_cases c : k < m.tr.length
    · have hsm := hs.tr.2 _ (List.getElem_mem c)
      have hsu := withN_succ (ps := [(x : Int)]) c
      have hle := withN_len m.tr [(x : Int)] k
      have hA : allW m.tr[k] [(x : Int)] = m.tr[k].any (· == (x : Int)) := by simp [allW]
      have hww : IntKind.i64.wrap (((withN m.tr [(x : Int)] k).length : Int) + 1) = (((withN m.tr [(x : Int)] k).length + 1 : Nat) : Int) := by rw [wrap64 (by omega) (by omega)]; simp
      rw [hA] at hsu
      simp [c, hw]
      (first | refine callG_r ?_ | refine callD_r ?_); simp; (first | refine callN_flat (by with_reducible first | exact c_r8In m.tr[k] x hsm) rfl ?_ | refine callN_new (by with_reducible first | exact c_r8In m.tr[k] x hsm) ?_ | refine callM_flat (by with_reducible first | exact c_r8In m.tr[k] x hsm) rfl ?_ | refine callM_new (by with_reducible first | exact c_r8In m.tr[k] x hsm) ?_)
      generalize m.tr[k].any (· == (x : Int)) = B at *
      cases B
      · simp [hw]
        simp at hsu
        refine loopK_next (k + 1) (by omega) (by omega) ?_
        rw [hsu]
        (refine weak_gc [(some 0, 0), (some 1, 0), (some 2, 0), (some 3, 0), (some 4, 0), (some 5, 0)] ?_ ?_ ?_ ?_ ?_ <;> simp)
      · simp [hw, hww]
        simp at hsu
        have hcl : (withN m.tr [(x : Int)] (k + 1)).length = (withN m.tr [(x : Int)] k).length + 1 := by rw [hsu]; simp
        refine loopK_next (k + 1) (by omega) (by omega) ?_
        (refine weak_gc [(some 0, 0), (some 1, 0), (some 2, 0), (some 3, 0), (some 4, 0), (some 5, 0)] ?_ ?_ ?_ ?_ ?_ <;> simp [hcl])
    · obtain rfl : k = m.tr.length := by omega
      have h3 : IntKind.i64.wrap (3 * (m.tr.length : Int)) = 3 * (m.tr.length : Int) := wrap64 (by omega) (by omega)
      have h4 : ((sumE m (edS m).length : Nat) : Int) = 3 * (m.tr.length : Int) := by rw [sumE_all hv]; simp
      simp only [sumE] at h4
      simp [h3, h4]
end Go.Proofs.Ytnjpigkijdnpkaa
