/- Triangles at two places; the law of hinges in plain words. What laws of drawn things are given; the law of hinges.
Conditions: none. -/
import Derived.Test.YtnjpigkijdnpkaaY3
import Derived.Test.YtnjpigkijdnpkaaY5
namespace Go.Proofs.Ytnjpigkijdnpkaa
set_option linter.all false
open Go Go.Awp
set_option maxRecDepth 100000
set_option maxHeartbeats 4000000
set_option pp.deepTerms true

/-- The first triangles that have both places of an edge. -/
def atN (T : List (List Int)) (e : Ed) (k : Nat) : List Nat := (List.range k).filter fun i => hasE (T.getD i []) e
theorem atN_succ {T : List (List Int)} {e : Ed} {k : Nat} (h : k < T.length) : atN T e (k + 1) = atN T e k ++ if hasE T[k] e then [k] else [] := by
  unfold atN
  rw [List.range_succ, List.filter_append, List.filter_cons, List.filter_nil, List.getD_eq_getElem?_getD, List.getElem?_eq_getElem h, Option.getD_some]
theorem atN_len (T : List (List Int)) (e : Ed) (k : Nat) : (atN T e k).length ≤ k := by
  unfold atN
  have := List.length_filter_le (fun i => hasE (T.getD i []) e) (List.range k)
  simpa using this
theorem atN_thirds (T : List (List Int)) (e : Ed) : ∀ k, k ≤ T.length → thirds (T.take k) e = (atN T e k).map fun i => thirdE (T.getD i []) e
  | 0, _ => rfl
  | k + 1, h => by
    have ih := atN_thirds T e k (by omega)
    rw [atN_succ (by omega), List.map_append, ← ih]
    unfold thirds
    rw [List.take_succ_eq_append_getElem (show k < T.length by omega), List.filter_append, List.map_append]
    congr 1
    cases hq : hasE T[k] e <;> simp [hq, List.getElem?_eq_getElem (show k < T.length by omega)]
abbrev atE (T : List (List Int)) (e : Ed) : List Nat := atN T e T.length
theorem atE_thirds (T : List (List Int)) (e : Ed) : thirds T e = (atE T e).map fun i => thirdE (T.getD i []) e := by
  have := atN_thirds T e T.length (Nat.le_refl _)
  rwa [List.take_length] at this
theorem atE_mem {T : List (List Int)} {e : Ed} {i : Nat} (h : i ∈ atE T e) : i < T.length ∧ hasE (T.getD i []) e = true := by
  unfold atE atN at h
  obtain ⟨h1, h2⟩ := List.mem_filter.1 h
  exact ⟨List.mem_range.1 h1, h2⟩
/-- The hinges before an edge are a beginning of all. -/
theorem hinN_prefix (m : Msh) {k : Nat} (h : k ≤ (edS m).length) : hinN m k <+: hinS m := by
  unfold hinS hinN
  rw [List.take_length]
  conv => rhs; rw [← List.take_append_drop k (edS m), List.filter_append, List.map_append]
  exact List.prefix_append _ _
theorem hin_next {m : Msh} {k : Nat} (h : k < (edS m).length) (hi : isH m.tr (edS m)[k] = true) : ∃ hc : (hinN m k).length < (hinS m).length, (hinS m)[(hinN m k).length] = hinE m.tr (edS m)[k] := by
  have h1 := hinN_prefix m (k := k + 1) h
  rw [hinN_succ h, if_pos hi] at h1
  obtain ⟨r, hr⟩ := h1
  have hl : (hinN m k).length < (hinS m).length := by rw [← hr]; simp
  refine ⟨hl, ?_⟩
  have : (hinS m)[(hinN m k).length]? = some (hinE m.tr (edS m)[k]) := by rw [← hr]; simp
  rw [List.getElem?_eq_getElem hl] at this
  exact Option.some.inj this
end Go.Proofs.Ytnjpigkijdnpkaa
namespace Go.Proofs.Ytnjpigkijdnpkaa
set_option linter.all false
open Go Go.Awp
set_option maxRecDepth 100000
set_option maxHeartbeats 8000000
set_option pp.deepTerms true

theorem wf_u8 {n : Int} (h : (Lit.int .u8 n).wf = true) : ∃ m : Nat, m < 256 ∧ n = m := by
  have h2 : Lit.wf (.int .u8 n) = decide (IntKind.u8.min ≤ n ∧ n ≤ IntKind.u8.max) := by simp [Lit.wf]
  rw [h2] at h
  have := of_decide_eq_true h
  have e1 : IntKind.u8.min = 0 := by decide
  have e2 : IntKind.u8.max = 255 := by decide
  rw [e1, e2] at this
  exact ⟨n.toNat, by omega, by omega⟩
theorem opens_By : Opens Try.prog 5 fun l => ∃ n : Nat, n < 256 ∧ l = [.int .u8 (n : Int)] := (opens_int Try.underlying5).mono (by
    rintro l ⟨x, hx, rfl⟩
    obtain ⟨m, hm, rfl⟩ := wf_u8 hx
    exact ⟨m, hm, rfl⟩)
theorem flat_bytes (l : List Nat) : l.flatMap (fun n : Nat => [AV.int .u8 (n : Int)]) = cBy l := by
  induction l with
  | nil => rfl
  | cons a l ih => simp only [List.flatMap_cons, ih]; rfl
theorem opens_Bys : Opens Try.prog 22 fun l => ∃ vs : List Nat, ((∀ v ∈ vs, v < 256) ∧ vs.length ≤ maxLen) ∧ l = [.view false (cBy vs) vs.length] :=
  (opens_slice (enc' := fun n : Nat => [AV.int .u8 (n : Int)]) Try.underlying22 (by kernel_rfl) (by decide : 0 < 1) (fun _ => rfl) opens_By).mono (by
    rintro l ⟨vs, h, rfl⟩
    exact ⟨vs, h, by rw [flat_bytes]⟩)
theorem arg_Bys : ArgOk Try.prog 22 fun a => ∃ vs : List Nat, ((∀ v ∈ vs, v < 256) ∧ vs.length ≤ maxLen) ∧ a = .view false (cBy vs) vs.length :=
  argOk_one (by rw [Try.underlying22]; intro fs h; cases h) (by rw [Try.underlying22]; intro n e h; cases h) (opens_Bys.mono (by
    rintro l ⟨x, hx, rfl⟩
    exact ⟨_, ⟨x, hx, rfl⟩, rfl⟩))
theorem relL_of {W : World} {avs : List AV} {args : Array Value} (h1 : avs.length = args.toList.length) (h2 : ∀ (i : Nat) a v, avs[i]? = some a → args.toList[i]? = some v → VRel W (env0 W) a v) : RelL W (env0 W) avs args :=
  ⟨by simpa using h1, fun i a v ha hv => h2 i a v ha (by simpa using hv)⟩
theorem c_b10Long (l m : List Nat) (h1 : l.length ≤ maxLen) (h2 : m.length ≤ maxLen) : Fun Try.prog 6 [.view false (cBy l) l.length, .view false (cBy m) m.length] [] (.bool (decide (1048576 < l.length) || decide (1048576 < m.length))) [] := by
  refine FnSpec.walkF dr_ok Try.func6 rfl (by kernel_rfl) rfl rfl rfl (by simp) ?_
  simp
  grind

theorem c_b10Has (l : List Int) (n : Int) (h : l.length ≤ 1048576) : Fun Try.prog 11 [.view false (cIs l) l.length, .int .i64 n] [] (.bool (l.any (· == n))) [] := by
  refine FnSpec.walkF dr_ok Try.func11 rfl (by kernel_rfl) rfl rfl rfl (by simp) ?_
  simp
  refine loopG_of (α := Nat) (fun k => k ≤ l.length ∧ (l.take k).any (· == n) = false) (fun k => l.length - k) (fun k => [(0, .view false (cIs l) l.length), (1, .int .i64 n), (8, .int .i64 k), (7, .int .i64 l.length)]) (fun k => []) 0 (by simp) (weak_UH (by simp) (by simp)) fun k ⟨hk, hi⟩ => ?_
  have hw := nat_wrap (k := k) (by omega)
  by_cases b : k < l.length
  · simp [b, hw]
    refine ⟨fun e => by rw [← e]; exact List.getElem_mem b, fun e => ?_⟩
    refine loopK_next (k + 1) (by omega) ⟨by omega, ?_⟩ ?_
    · rw [← List.take_append_getElem b, List.any_append, hi]
      simp [e]
    · (refine weak_gc [] ?_ ?_ ?_ ?_ ?_ <;> simp)
  · obtain rfl : k = l.length := by omega
    simp at hi ⊢
    exact hi
theorem c_l02Has (t : List Int) (p : Int) (n : Nat) (hn : n = t.length) (ht : t.length = 3) : Fun Try.prog 69 [.view false (cIs t) n, .int .i64 p] [] (.bool (t.any (· == p))) [] := by
  subst hn
  match t, ht with
  | [a, b, c], _ =>
    refine FnSpec.walkF dr_ok Try.func69 rfl (by kernel_rfl) rfl rfl rfl (by simp) ?_
    by_cases e1 : a = p <;> by_cases e2 : b = p <;> by_cases e3 : c = p <;> first | (simp [e1, e2, e3]; done) | (simp [e1, e2, e3]; rw [Bool.eq_iff_iff]; simp [e1, e2, e3])
theorem c_l02Place (m : Msh) (rest : List AV) (p : Int) (hl : m.pl.length ≤ 64) : Fun Try.prog 39 [m.vp rest, .int .i64 p] [] (.bool (inB p 0 ((m.pl.length : Int) - 1))) [] := by
  have hwn : IntKind.i64.wrap ((m.pl.length : Int) - 1) = (m.pl.length : Int) - 1 := wrap64 (by omega) (by omega)
  refine FnSpec.walkF dr_ok Try.func39 rfl (by kernel_rfl) rfl rfl rfl (by simp) ?_
  simp [hwn]
  (first | refine callG_r ?_ | refine callD_r ?_); simp; (first | refine callN_flat (by with_reducible first | exact c_l00In _ _ _) rfl ?_ | refine callN_new (by with_reducible first | exact c_l00In _ _ _) ?_ | refine callM_flat (by with_reducible first | exact c_l00In _ _ _) rfl ?_ | refine callM_new (by with_reducible first | exact c_l00In _ _ _) ?_)
  simp
theorem c_l02At (m : Msh) (rest : List AV) (hv : vldM m = true) (a b : Int) : Fun Try.prog 40 [m.vp rest, .int .i64 a, .int .i64 b] [] (.slc 0 0 (atE m.tr (a, b)).length 1) [.blk true false 2 (cIs ((atE m.tr (a, b)).map Int.ofNat))] := by
  have hs := vld_small hv
  have hl := (vldM_len hv).2
  refine FnSpec.walk dr_ok Try.func40 rfl (by kernel_rfl) rfl rfl rfl (by simp) ?_
  simp
  refine loopG_of (α := Nat) (fun k => k ≤ m.tr.length) (fun k => m.tr.length - k) (fun k => [(8, .int .i64 k), (7, .slc 0 0 (atN m.tr (a, b) k).length 1), (0, m.vp rest), (1, .int .i64 a), (2, .int .i64 b)])
    (fun k => [.blk true false 2 (cIs ((atN m.tr (a, b) k).map Int.ofNat))]) 0 (by simp) ?_ fun k hk => ?_
  · (refine weak_gc [(none, 2)] ?_ ?_ ?_ ?_ ?_ <;> simp [atN])
  have hw := nat_wrap (k := k) (by omega)
  by_cases c : k < m.tr.length
  · have h3 : m.tr[k].length = 3 := by
      obtain ⟨x, y, z, e, _⟩ := tri_of hv c
      rw [e]; rfl
    have hsu := atN_succ (e := (a, b)) c
    have hle := atN_len m.tr (a, b) k
    have hE : hasE m.tr[k] (a, b) = (m.tr[k].any (· == a) && m.tr[k].any (· == b)) := rfl
    simp [c, hw]
    (first | refine callG_r ?_ | refine callD_r ?_); simp; (first | refine callN_flat (by with_reducible first | exact c_l02Has m.tr[k] a _ rfl h3) rfl ?_ | refine callN_new (by with_reducible first | exact c_l02Has m.tr[k] a _ rfl h3) ?_ | refine callM_flat (by with_reducible first | exact c_l02Has m.tr[k] a _ rfl h3) rfl ?_ | refine callM_new (by with_reducible first | exact c_l02Has m.tr[k] a _ rfl h3) ?_)
    generalize m.tr[k].any (· == a) = A at *
    cases A
    · simp [c, hw]
      rw [hE] at hsu
      simp at hsu
      refine loopK_next (k + 1) (by omega) (by omega) ?_
      rw [hsu]
      (refine weak_gc [(some 0, 0)] ?_ ?_ ?_ ?_ ?_ <;> simp [hw])
    · simp [c, hw]
      (first | refine callG_r ?_ | refine callD_r ?_); simp; (first | refine callN_flat (by with_reducible first | exact c_l02Has m.tr[k] b _ rfl h3) rfl ?_ | refine callN_new (by with_reducible first | exact c_l02Has m.tr[k] b _ rfl h3) ?_ | refine callM_flat (by with_reducible first | exact c_l02Has m.tr[k] b _ rfl h3) rfl ?_ | refine callM_new (by with_reducible first | exact c_l02Has m.tr[k] b _ rfl h3) ?_)
      generalize m.tr[k].any (· == b) = B at *
      cases B
      · simp [c, hw]
        rw [hE] at hsu
        simp at hsu
        refine loopK_next (k + 1) (by omega) (by omega) ?_
        rw [hsu]
        (refine weak_gc [(some 0, 0)] ?_ ?_ ?_ ?_ ?_ <;> simp [hw])
      · simp [c, hw]
        rw [hE] at hsu
        simp at hsu
        have htk : List.take (atN m.tr (a, b) k).length ((atN m.tr (a, b) k).map Int.ofNat) = (atN m.tr (a, b) k).map Int.ofNat := List.take_of_length_le (by simp)
        refine ⟨by omega, by omega, loopK_next (k + 1) (by omega) (by omega) ?_⟩
        rw [hsu, htk]
        (refine weak_gc [(some 2, 0)] ?_ ?_ ?_ ?_ ?_ <;> simp [hw])
  · obtain rfl : k = m.tr.length := by omega
    simp
    (refine endG_keepT [(some 0, 0)] ?_ ?_ ?_ ?_ ?_ ?_ ?_ ⟨rfl, rfl⟩ ?_ <;> simp)
theorem c_TrianglesAt (m : Msh) (hv : vldM m = true) (a b : Nat) (ha : a < b) (hb : b < m.pl.length) : Fun Try.prog 10 [m.av, .int .i64 a, .int .i64 b] [] (.tup [.slc 0 0 (atE m.tr ((a : Int), (b : Int))).length 1, .bool true]) [.blk true false 2 (cIs ((atE m.tr ((a : Int), (b : Int))).map Int.ofNat))] := by
  have hs := vld_small hv
  have hl := (vldM_len hv).1
  have hwn : IntKind.i64.wrap ((m.pl.length : Int) - 1) = (m.pl.length : Int) - 1 := wrap64 (by omega) (by omega)
  have g : ¬ ((a : Int) = b) := by omega
  have g' : ¬ a = b := by omega
  refine FnSpec.walk dr_ok Try.func10 rfl (by kernel_rfl) rfl rfl rfl (by simp) ?_
  simp
  (first | refine callG_r ?_ | refine callD_r ?_); simp; (first | refine callN_flat (by with_reducible first | exact c_l02Is m _ hs) rfl ?_ | refine callN_new (by with_reducible first | exact c_l02Is m _ hs) ?_ | refine callM_flat (by with_reducible first | exact c_l02Is m _ hs) rfl ?_ | refine callM_new (by with_reducible first | exact c_l02Is m _ hs) ?_)
  simp [hv]
  (first | refine callG_r ?_ | refine callD_r ?_); simp; (first | refine callN_flat (by with_reducible first | exact c_l02Place m _ _ hl) rfl ?_ | refine callN_new (by with_reducible first | exact c_l02Place m _ _ hl) ?_ | refine callM_flat (by with_reducible first | exact c_l02Place m _ _ hl) rfl ?_ | refine callM_new (by with_reducible first | exact c_l02Place m _ _ hl) ?_)
  simp [inB_nat (show a < m.pl.length by omega)]
  (first | refine callG_r ?_ | refine callD_r ?_); simp; (first | refine callN_flat (by with_reducible first | exact c_l02Place m _ _ hl) rfl ?_ | refine callN_new (by with_reducible first | exact c_l02Place m _ _ hl) ?_ | refine callM_flat (by with_reducible first | exact c_l02Place m _ _ hl) rfl ?_ | refine callM_new (by with_reducible first | exact c_l02Place m _ _ hl) ?_)
  simp [inB_nat hb, g, g']
  (first | refine callG_r ?_ | refine callD_r ?_); simp; (first | refine callN_flat (by with_reducible first | exact c_l02At m _ hv a b) rfl ?_ | refine callN_new (by with_reducible first | exact c_l02At m _ hv a b) ?_ | refine callM_flat (by with_reducible first | exact c_l02At m _ hv a b) rfl ?_ | refine callM_new (by with_reducible first | exact c_l02At m _ hv a b) ?_)
  simp
  (refine endG_keepT [(some 1, 0)] ?_ ?_ ?_ ?_ ?_ ?_ ?_ ⟨rfl, rfl⟩ ?_ <;> simp)
theorem c_HingesOf (m : Msh) (hv : vldM m = true) : Fun Try.prog 8 [m.av] [] (.tup [.slc 0 0 (hinS m).length 1, .bool true]) [.blk true false 38 (cRs true (hinS m))] := by
  have hs := vld_small hv
  refine FnSpec.walk dr_ok Try.func8 rfl (by kernel_rfl) rfl rfl rfl (by simp) ?_
  simp
  (first | refine callG_r ?_ | refine callD_r ?_); simp; (first | refine callN_flat (by with_reducible first | exact c_ValidMesh m hs) rfl ?_ | refine callN_new (by with_reducible first | exact c_ValidMesh m hs) ?_ | refine callM_flat (by with_reducible first | exact c_ValidMesh m hs) rfl ?_ | refine callM_new (by with_reducible first | exact c_ValidMesh m hs) ?_)
  simp [hv]
  (first | refine callG_r ?_ | refine callD_r ?_); simp; (first | refine callN_flat (by with_reducible first | exact c_hingesOf m hs hv) rfl ?_ | refine callN_new (by with_reducible first | exact c_hingesOf m hs hv) ?_ | refine callM_flat (by with_reducible first | exact c_hingesOf m hs hv) rfl ?_ | refine callM_new (by with_reducible first | exact c_hingesOf m hs hv) ?_)
  simp
  (refine endG_keepT [(some 1, 0)] ?_ ?_ ?_ ?_ ?_ ?_ ?_ ⟨rfl, rfl⟩ ?_ <;> simp)
theorem c_specEdgesOf (m : Msh) (hv : vldM m = true) : Fun Try.prog 9 [m.av] [] (.tup [.slc 0 0 (edS m).length 1, .bool true]) [.blk true false 38 (cRs true ((edS m).map ekey))] := by
  have hs := vld_small hv
  refine FnSpec.walk dr_ok Try.func9 rfl (by kernel_rfl) rfl rfl rfl (by simp) ?_
  simp
  (first | refine callG_r ?_ | refine callD_r ?_); simp; (first | refine callN_flat (by with_reducible first | exact c_l02Is m _ hs) rfl ?_ | refine callN_new (by with_reducible first | exact c_l02Is m _ hs) ?_ | refine callM_flat (by with_reducible first | exact c_l02Is m _ hs) rfl ?_ | refine callM_new (by with_reducible first | exact c_l02Is m _ hs) ?_)
  simp [hv]
  (first | refine callG_r ?_ | refine callD_r ?_); simp; (first | refine callN_flat (by with_reducible first | exact c_l02Edges m _ hs hv) rfl ?_ | refine callN_new (by with_reducible first | exact c_l02Edges m _ hs hv) ?_ | refine callM_flat (by with_reducible first | exact c_l02Edges m _ hs hv) rfl ?_ | refine callM_new (by with_reducible first | exact c_l02Edges m _ hs hv) ?_)
  simp
  (refine endG_keepT [(some 1, 0)] ?_ ?_ ?_ ?_ ?_ ?_ ?_ ⟨rfl, rfl⟩ ?_ <;> simp)
end Go.Proofs.Ytnjpigkijdnpkaa
