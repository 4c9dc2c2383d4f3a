/- Contracts: what the law of edges asks of the program.
Conditions: none. -/
import Derived.Test.YtnjpigkijdnpkaaY6
namespace Go.Proofs.Ytnjpigkijdnpkaa
set_option linter.all false
open Go Go.Awp
set_option maxRecDepth 100000
set_option maxHeartbeats 8000000
set_option pp.deepTerms true

theorem c_r8Long (l m : List Nat) (h1 : l.length ≤ maxLen) (h2 : m.length ≤ maxLen) : Fun Try.prog 12 [.view false (cBy l) l.length, .view false (cBy m) m.length] [] (.bool (decide (48 < l.length) || decide (48 < m.length))) [] := by
  refine FnSpec.walkF dr_ok Try.func12 rfl (by kernel_rfl) rfl rfl rfl (by simp) ?_
  simp
  grind
theorem c_r8In (l : List Int) (n : Int) (h : l.length ≤ 1048576) : Fun Try.prog 20 [.view false (cIs l) l.length, .int .i64 n] [] (.bool (l.any (· == n))) [] := by
  refine FnSpec.walkF dr_ok Try.func20 rfl (by kernel_rfl) rfl rfl rfl (by simp) ?_
  simp
  refine loopG_of (α := Nat) (fun k => k ≤ l.length ∧ (l.take k).any (· == n) = false) (fun k => l.length - k) (fun k => [(0, .view false (cIs l) l.length), (1, .int .i64 n), (5, .int .i64 k)]) (fun k => []) 0 (by simp) (weak_UH (by simp) (by simp)) fun k ⟨hk, hi⟩ => ?_
  have hw := nat_wrap (k := k) (by omega)
  by_cases b : k < l.length
  · simp [b, hw]
    refine ⟨fun e => by rw [← e]; exact List.getElem_mem b, fun e => ?_⟩
    refine loopK_next (k + 1) (by omega) ⟨by omega, ?_⟩ ?_
    · rw [← List.take_append_getElem b, List.any_append, hi]
      simp [e]
    · (refine weak_gc [] ?_ ?_ ?_ ?_ ?_ <;> simp)
  · obtain rfl : k = l.length := by omega
    simp at hi ⊢
    exact hi
theorem c_r8Same2 (a b : Int) : Fun Try.prog 21 [.view false (cIs [a, b]) 2, .view false (cIs [a, b]) 2] [] (.bool true) [] := by
  refine FnSpec.walkF dr_ok Try.func21 rfl (by kernel_rfl) rfl rfl rfl (by simp) ?_
  simp
  refine loopG_of (α := Nat) (fun k => k ≤ 2) (fun k => 2 - k) (fun k => [(0, .view false (cIs [a, b]) 2), (1, .view false (cIs [a, b]) 2), (5, .int .i64 k)]) (fun k => []) 0 (by simp) (weak_UH (by simp) (by simp)) fun k hk => ?_
  have hk2 : k = 0 ∨ k = 1 ∨ k = 2 := by omega
  have w1 : IntKind.i64.wrap 1 = 1 := by decide
  have w2 : IntKind.i64.wrap 2 = 2 := by decide
  rcases hk2 with rfl | rfl | rfl
  · simp [w1]
    refine loopK_next 1 (by omega) (by omega) ?_
    (refine weak_gc [] ?_ ?_ ?_ ?_ ?_ <;> simp)
  · simp [w2]
    refine loopK_next 2 (by omega) (by omega) ?_
    (refine weak_gc [] ?_ ?_ ?_ ?_ ?_ <;> simp)
  · simp
/-- What r8At reads. -/
theorem c_r8At (l : List Nat) (n : Nat) (hb : ∀ b ∈ l, b < 256) (hl : l.length ≤ 48) (hn : 0 < n) (hn2 : n ≤ 64) : ∃ x : Nat, x < n ∧ Fun Try.prog 22 [.view false (cBy l) l.length, .int .i64 0, .int .i64 n] [] (.int .i64 x) [] := by
  by_cases c : n ≤ 1
  · refine ⟨0, hn, ?_⟩
    have cI : (n : Int) ≤ 1 := by omega
    have cI' : ¬ (1 : Int) < n := by omega
    refine FnSpec.walkF dr_ok Try.func22 rfl (by kernel_rfl) rfl rfl rfl (by simp) ?_
    simp [c, cI, cI']
  · have cI : ¬ (n : Int) ≤ 1 := by omega
    have cI' : (1 : Int) < n := by omega
    by_cases d : l.length = 0
    · refine ⟨0, hn, ?_⟩
      have : l = [] := List.eq_nil_of_length_eq_zero d
      subst this
      refine FnSpec.walkF dr_ok Try.func22 rfl (by kernel_rfl) rfl rfl rfl (by simp) ?_
      simp [c, cI, cI']
    · have h0 : 0 < l.length := by omega
      have hx := hb _ (List.getElem_mem h0)
      refine ⟨l[0] % n, Nat.mod_lt _ hn, ?_⟩
      have hw : IntKind.i64.wrap ((l[0] : Nat) : Int) = (l[0] : Nat) := wrap64 (by omega) (by omega)
      have hr : ((l[0] : Nat) : Int).tmod n = ((l[0] % n : Nat) : Int) := rfl
      have hne : ¬ l = [] := by intro e; rw [e] at h0; simp at h0
      have hn0 : ¬ n = 0 := by omega
      refine FnSpec.walkF dr_ok Try.func22 rfl (by kernel_rfl) rfl rfl rfl (by simp) ?_
      have hd := cBy_drop (l := l) (k := 0) h0
      rw [List.drop_zero] at hd
      simp [c, cI, cI', h0, hw, hr, hne, hn0, hd]
theorem c_isPlaceOf (m : Msh) (p : Nat) (hv : vldM m = true) (hp : p < m.pl.length) : Fun Try.prog 47 [m.av, .int .i64 p] [] (.bool true) [] := by
  have hs := vld_small hv
  have hl := (vldM_len hv).1
  have hwn : IntKind.i64.wrap ((m.pl.length : Int) - 1) = (m.pl.length : Int) - 1 := wrap64 (by omega) (by omega)
  refine FnSpec.walkF dr_ok Try.func47 rfl (by kernel_rfl) rfl rfl rfl (by simp) ?_
  simp
  (first | refine callG_r ?_ | refine callD_r ?_); simp; (first | refine callN_flat (by with_reducible first | exact c_ValidMesh m hs) rfl ?_ | refine callN_new (by with_reducible first | exact c_ValidMesh m hs) ?_ | refine callM_flat (by with_reducible first | exact c_ValidMesh m hs) rfl ?_ | refine callM_new (by with_reducible first | exact c_ValidMesh m hs) ?_)
  simp [hv, hwn]
  (first | refine callG_r ?_ | refine callD_r ?_); simp; (first | refine callN_flat (by with_reducible first | exact c_within _ _ _) rfl ?_ | refine callN_new (by with_reducible first | exact c_within _ _ _) ?_ | refine callM_flat (by with_reducible first | exact c_within _ _ _) rfl ?_ | refine callM_new (by with_reducible first | exact c_within _ _ _) ?_)
  simp [inB_nat hp]
theorem c_Index3 (t : List Int) (n : Int) (h : t.length ≤ 1048576) : FnSpec Try.prog 101 [.view false (cIs t) t.length, .int .i64 n] [] fun av H => H = [] ∧ av.flats = true ∧ ∃ r : Int, (0 ≤ r ↔ t.any (· == n) = true) ∧ av = .int .i64 r := by
  refine FnSpec.walkF dr_ok Try.func101 rfl (by kernel_rfl) rfl rfl rfl (by simp) ?_
  simp
  refine loopG_of (α := Nat) (fun k => k ≤ t.length ∧ (t.take k).any (· == n) = false) (fun k => t.length - k) (fun k => [(8, .int .i64 k), (7, .int .i64 t.length), (6, .view false (cIs t) t.length), (0, .view false (cIs t) t.length), (1, .int .i64 n)]) (fun k => []) 0 (by simp) (weak_UH rfl (by simp)) fun k ⟨hk, hi⟩ => ?_
  have hw := nat_wrap (k := k) (by omega)
  by_cases b : k < t.length
  · simp [b, hw]
    refine ⟨fun e => ?_, fun e => ?_⟩
    · rw [e]; exact List.getElem_mem b
    · refine loopK_next (k + 1) (by omega) ⟨by omega, ?_⟩ ?_
      · rw [← List.take_append_getElem b, List.any_append, hi]
        simp; exact fun h => e h.symm
      · (refine weak_gc [] ?_ ?_ ?_ ?_ ?_ <;> simp)
  · obtain rfl : k = t.length := by omega
    simp at hi ⊢
    exact fun hm => hi _ hm rfl
theorem c_Contains3 (t : List Int) (n : Int) (h : t.length ≤ 1048576) : Fun Try.prog 80 [.view false (cIs t) t.length, .int .i64 n] [] (.bool (t.any (· == n))) [] := by
  refine FnSpec.walkF dr_ok Try.func80 rfl (by kernel_rfl) rfl rfl rfl (by simp) ?_
  simp
  refine callG_r ?_
  simp
  refine callN_rel (c_Index3 t n h) ?_
  rintro _ ⟨r, hr, rfl⟩
  simp
  rw [Bool.eq_iff_iff]
  simp only [decide_eq_true_eq]
  exact hr
/-- The triangles that have all of some places. -/
def allW (t : List Int) (ps : List Int) : Bool := ps.all fun p => t.any (· == p)
def withN (T : List (List Int)) (ps : List Int) (k : Nat) : List Nat := (List.range k).filter fun i => allW (T.getD i []) ps
theorem withN_succ {T : List (List Int)} {ps : List Int} {k : Nat} (h : k < T.length) : withN T ps (k + 1) = withN T ps k ++ if allW T[k] ps then [k] else [] := by
  unfold withN
  rw [List.range_succ, List.filter_append, List.filter_cons, List.filter_nil, List.getD_eq_getElem?_getD, List.getElem?_eq_getElem h, Option.getD_some]
theorem withN_len (T : List (List Int)) (ps : List Int) (k : Nat) : (withN T ps k).length ≤ k := by
  unfold withN
  have := List.length_filter_le (fun i => allW (T.getD i []) ps) (List.range k)
  simpa using this
theorem c_trianglesWith (m : Msh) (hv : vldM m = true) (ps : List Int) (hp : ps.length ≤ 64) : Fun Try.prog 48 [m.av, .view false (cIs ps) ps.length] [] (.slc 0 0 (withN m.tr ps m.tr.length).length 1) [.blk true false 2 (cIs ((withN m.tr ps m.tr.length).map Int.ofNat))] := by
  have hs := vld_small hv
  have hl := (vldM_len hv).2
  refine FnSpec.walk dr_ok Try.func48 rfl (by kernel_rfl) rfl rfl rfl (by simp) ?_
  simp
  refine loopG_of (α := Nat) (fun k => k ≤ m.tr.length) (fun k => m.tr.length - k) (fun k => [(15, .int .i64 k), (14, .int .i64 m.tr.length), (13, .view false (cRs false m.tr) m.tr.length), (5, .slc 1 0 (withN m.tr ps k).length 1), (2, .ptr 0 0), (1, .view false (cIs ps) ps.length)])
    (fun k => [.blk true true 27 m.cells, .blk true false 2 (cIs ((withN m.tr ps k).map Int.ofNat))]) 0 (by simp) ?_ fun k hk => ?_
  · (refine weak_gc [(some 0, 0), (none, 2)] ?_ ?_ ?_ ?_ ?_ <;> simp [withN])
  have hw := nat_wrap (k := k) (by omega)
  by_cases c : k < m.tr.length
  · have hsm := hs.tr.2 _ (List.getElem_mem c)
    have hsu := withN_succ (ps := ps) c
    have hle := withN_len m.tr ps k
    simp [c, hw]
    refine loopG_of (α := Nat) (fun j => j ≤ ps.length) (fun j => ps.length - j) (fun j => [(22, .int .i64 j), (21, .int .i64 ps.length), (20, .view false (cIs ps) ps.length), (8, .bool (allW m.tr[k] (ps.take j))), (7, .view false (cIs m.tr[k]) m.tr[k].length), (6, .int .i64 k), (15, .int .i64 k), (14, .int .i64 m.tr.length), (13, .view false (cRs false m.tr) m.tr.length), (5, .slc 1 0 (withN m.tr ps k).length 1), (2, .ptr 0 0), (1, .view false (cIs ps) ps.length)])
      (fun j => [.blk true true 27 m.cells, .blk true false 2 (cIs ((withN m.tr ps k).map Int.ofNat))]) 0 (by simp) ?_ fun j hj => ?_
    · (refine weak_gc [(some 0, 0), (some 1, 0)] ?_ ?_ ?_ ?_ ?_ <;> simp [allW])
    have hw2 := nat_wrap (k := j) (by omega)
    by_cases d : j < ps.length
    · have hA : allW m.tr[k] (ps.take (j + 1)) = (allW m.tr[k] (ps.take j) && m.tr[k].any (· == ps[j])) := by
        unfold allW
        rw [List.take_succ_eq_append_getElem d, List.all_append]; simp
      simp [d, hw2]
      generalize allW m.tr[k] (ps.take j) = A at *
      cases A
      · simp [d, hw2]
        refine loopK_next (j + 1) (by omega) (by omega) ?_
        rw [hA]
        (refine weak_gc [(some 0, 0), (some 1, 0)] ?_ ?_ ?_ ?_ ?_ <;> simp)
      · simp [d, hw2]
        (first | refine callG_r ?_ | refine callD_r ?_); simp; (first | refine callN_flat (by with_reducible first | exact c_Contains3 m.tr[k] ps[j] hsm) rfl ?_ | refine callN_new (by with_reducible first | exact c_Contains3 m.tr[k] ps[j] hsm) ?_ | refine callM_flat (by with_reducible first | exact c_Contains3 m.tr[k] ps[j] hsm) rfl ?_ | refine callM_new (by with_reducible first | exact c_Contains3 m.tr[k] ps[j] hsm) ?_)
        simp [d, hw2]
        refine loopK_next (j + 1) (by omega) (by omega) ?_
        rw [hA]
        (refine weak_gc [(some 0, 0), (some 1, 0)] ?_ ?_ ?_ ?_ ?_ <;> simp)
    · obtain rfl : j = ps.length := by omega
      rw [List.take_length]
      generalize allW m.tr[k] ps = A at *
      cases A
      · simp [hw]
        simp at hsu
        refine loopK_next (k + 1) (by omega) (by omega) ?_
        rw [hsu]
        (refine weak_gc [(some 0, 0), (some 1, 0)] ?_ ?_ ?_ ?_ ?_ <;> simp)
      · have htk : List.take (withN m.tr ps k).length ((withN m.tr ps k).map Int.ofNat) = (withN m.tr ps k).map Int.ofNat := List.take_of_length_le (by simp)
        simp [hw]
        simp at hsu
        refine ⟨by omega, by omega, loopK_next (k + 1) (by omega) (by omega) ?_⟩
        rw [hsu, htk]
        (refine weak_gc [(some 0, 0), (some 3, 0)] ?_ ?_ ?_ ?_ ?_ <;> simp)
  · obtain rfl : k = m.tr.length := by omega
    simp
    (refine endG_keepT [(some 1, 0)] ?_ ?_ ?_ ?_ ?_ ?_ ?_ ⟨rfl, rfl⟩ ?_ <;> simp)
theorem c_listsOf (L : List Ed) (hl : L.length ≤ 1048576) : Fun Try.prog 43 [.view false (cEs L) L.length] [] (.slc 0 0 L.length 1) [.blk true false 38 (cRs true (L.map ekey))] := by
  refine FnSpec.walk dr_ok Try.func43 rfl (by kernel_rfl) rfl rfl rfl (by simp) ?_
  simp
  refine loopG_of (α := Nat) (fun k => k ≤ L.length) (fun k => L.length - k) (fun k => [(9, .int .i64 k), (8, .int .i64 L.length), (7, .view false (cEs L) L.length), (3, .slc 0 0 k 1)])
    (fun k => [.blk true false 38 (cRs true ((L.take k).map ekey))]) 0 (by simp) ?_ fun k hk => ?_
  · (refine weak_gc [(none, 38)] ?_ ?_ ?_ ?_ ?_ <;> simp)
  have hw := nat_wrap (k := k) (by omega)
  by_cases c : k < L.length
  · simp [c, hw]
    have hcl : cRs true ((L.take k).map ekey) ++ [.view true (cIs [L[k].1, L[k].2]) 2] = cRs true ((L.take (k + 1)).map ekey) := by
      rw [List.take_succ_eq_append_getElem c, List.map_append, ← cRs_append]; rfl
    have htk : (List.take k (L.map ekey)) = (L.take k).map ekey := by rw [List.map_take]
    rw [List.take_take, Nat.min_self, htk, hcl]
    refine ⟨by omega, by omega, by omega, loopK_next (k + 1) (by omega) (by omega) ?_⟩
    (refine weak_gc [(some 4, 0)] ?_ ?_ ?_ ?_ ?_ <;> simp)
  · obtain rfl : k = L.length := by omega
    simp
    (refine endG_keepT [(some 0, 0)] ?_ ?_ ?_ ?_ ?_ ?_ ?_ ⟨rfl, rfl⟩ ?_ <;> simp)
end Go.Proofs.Ytnjpigkijdnpkaa
