/- Contracts: edges, their lengths, the border, triangles at places.
Conditions: none. -/
import Derived.Test.YtnjpigkijdnpkaaVJF
namespace Go.Proofs.Ytnjpigkijdnpkaa
set_option linter.all false
open Go Go.Awp
set_option maxRecDepth 100000
set_option maxHeartbeats 8000000
set_option pp.deepTerms true

theorem c_implEdgesOf (m : Msh) (hv : vldM m = true) : Fun Try.prog 14 [m.av] [] (.tup [.slc 0 0 (edS m).length 1, .bool true]) [.blk true false 38 (cRs true ((edS m).map ekey))] := by
  have hs := vld_small hv
  have hel := edS_len hv
  refine FnSpec.walk dr_ok Try.func14 rfl (by kernel_rfl) rfl rfl rfl (by simp) ?_
  simp
  (first | refine callG_r ?_ | refine callD_r ?_); simp; (first | refine callN_flat (by with_reducible first | exact c_ValidMesh m hs) rfl ?_ | refine callN_new (by with_reducible first | exact c_ValidMesh m hs) ?_ | refine callM_flat (by with_reducible first | exact c_ValidMesh m hs) rfl ?_ | refine callM_new (by with_reducible first | exact c_ValidMesh m hs) ?_)
  simp [hv]
  (first | refine callG_r ?_ | refine callD_r ?_); simp; (first | refine callN_flat (by with_reducible first | exact c_tbe m hs hv (edgesOk hv)) rfl ?_ | refine callN_new (by with_reducible first | exact c_tbe m hs hv (edgesOk hv)) ?_ | refine callM_flat (by with_reducible first | exact c_tbe m hs hv (edgesOk hv)) rfl ?_ | refine callM_new (by with_reducible first | exact c_tbe m hs hv (edgesOk hv)) ?_)
  simp
  (first | refine callG_r ?_ | refine callD_r ?_); simp; (first | refine callN_flat (by with_reducible first | exact c_listsOf (edS m) (by omega)) rfl ?_ | refine callN_new (by with_reducible first | exact c_listsOf (edS m) (by omega)) ?_ | refine callM_flat (by with_reducible first | exact c_listsOf (edS m) (by omega)) rfl ?_ | refine callM_new (by with_reducible first | exact c_listsOf (edS m) (by omega)) ?_)
  simp
  (refine endG_keepT [(some 2, 0)] ?_ ?_ ?_ ?_ ?_ ?_ ?_ ⟨rfl, rfl⟩ ?_ <;> simp)
/-- Edges of one triangle. -/
def isB1 (m : Msh) (e : Ed) : Bool := (atE m.tr e).length == 1
def borN (m : Msh) (k : Nat) : List Ed := ((edS m).take k).filter (isB1 m)
theorem borN_succ {m : Msh} {k : Nat} (h : k < (edS m).length) : borN m (k + 1) = borN m k ++ if isB1 m (edS m)[k] then [(edS m)[k]] else [] := by
  unfold borN
  rw [List.take_succ_eq_append_getElem h, List.filter_append]
  congr 1
  cases hq : isB1 m (edS m)[k] <;> simp [hq]
theorem borN_len (m : Msh) (k : Nat) : (borN m k).length ≤ k := by
  unfold borN
  have := List.length_filter_le (isB1 m) ((edS m).take k)
  simp at this
  omega
abbrev borS (m : Msh) : List Ed := borN m (edS m).length
theorem borN_prefix (m : Msh) {k : Nat} (h : k ≤ (edS m).length) : borN m k <+: borS m := by
  unfold borS borN
  rw [List.take_length]
  conv => rhs; rw [← List.take_append_drop k (edS m), List.filter_append]
  exact List.prefix_append _ _
theorem bor_next {m : Msh} {k : Nat} (h : k < (edS m).length) (hi : isB1 m (edS m)[k] = true) : ∃ hc : (borN m k).length < (borS m).length, (borS m)[(borN m k).length] = (edS m)[k] := by
  have h1 := borN_prefix m (k := k + 1) h
  rw [borN_succ h, if_pos hi] at h1
  obtain ⟨r, hr⟩ := h1
  have hl : (borN m k).length < (borS m).length := by rw [← hr]; simp
  refine ⟨hl, ?_⟩
  have : (borS m)[(borN m k).length]? = some (edS m)[k] := by rw [← hr]; simp
  rw [List.getElem?_eq_getElem hl] at this
  exact Option.some.inj this
theorem make1_E : makeL 1 [AV.int .i64 0, AV.int .i64 0] = cEs [(0, 0)] := rfl
theorem one_spliceE (x y : Int) : splice (cEs [(0, 0)]) 0 [.int .i64 x, .int .i64 y] = cEs [(x, y)] := rfl
theorem one_takeE (t : Ed) : (cEs [t]).take 2 = cEs [t] := rfl
theorem make0_E : makeL 0 [AV.int .i64 0, AV.int .i64 0] = [] := rfl
theorem c_borderOf (m : Msh) (hv : vldM m = true) : Fun Try.prog 45 [m.av] [] (.slc 0 0 (borS m).length 2) [.blk true false 82 (cEs (borS m))] := by
  have hs := vld_small hv
  have hel := edS_len hv
  have hpl := (vldM_len hv).1
  refine FnSpec.walk dr_ok Try.func45 rfl (by kernel_rfl) rfl rfl rfl (by simp) ?_
  simp [make0_E]
  (first | refine callG_r ?_ | refine callD_r ?_); simp; (first | refine callN_flat (by with_reducible first | exact c_tbe m hs hv (edgesOk hv)) rfl ?_ | refine callN_new (by with_reducible first | exact c_tbe m hs hv (edgesOk hv)) ?_ | refine callM_flat (by with_reducible first | exact c_tbe m hs hv (edgesOk hv)) rfl ?_ | refine callM_new (by with_reducible first | exact c_tbe m hs hv (edgesOk hv)) ?_)
  simp
  refine loopG_of (α := Nat) (fun k => k ≤ (edS m).length) (fun k => (edS m).length - k) (fun k => [(16, .int .i64 k), (15, .int .i64 (edS m).length), (14, .slc 1 0 (edS m).length 2), (4, .mview true 2 (keysR (tbe m)) (viewsR (tbe m))), (3, .slc 2 0 (borN m k).length 2), (1, .ptr 0 0)])
    (fun k => [.blk true true 27 m.cells, .blk true false 82 (cEs (edS m)), .blk true false 82 (cEs (borN m k))]) 0 (by simp) ?_ fun k hk => ?_
  · (refine weak_gc [(some 0, 0), (some 1, 0), (none, 82)] ?_ ?_ ?_ ?_ ?_ <;> simp [borN])
  have hw := nat_wrap (k := k) (by omega)
  by_cases b : k < (edS m).length
  · obtain ⟨p, q, he, hpq, hqn⟩ := ed_at hv b
    have hnl := borN_len m k
    have hsu := borN_succ b
    rw [he] at hsu
    have hmem : ((p : Int), (q : Int)) ∈ edS m := by rw [← he]; exact List.getElem_mem b
    obtain ⟨r1, r2⟩ := row_edge hv (e := ((p : Int), (q : Int))) (by simp; omega)
    have hrl : (atE m.tr ((p : Int), (q : Int))).length = (rowR (tbe m) (ekey ((p : Int), (q : Int)))).length := by
      have h1 := congrArg List.length (atE_thirds m.tr ((p : Int), (q : Int)))
      have h2 := congrArg List.length r1
      simp at h1 h2
      omega
    simp [b, hw, he]
    refine look_v Try.underlying76 key_edge (k := [(p : Int), (q : Int)]) rfl (fun x hx => ?_) zero_row (keys_ok hv) rfl rfl ?_
    · simp only [List.mem_cons, List.not_mem_nil, or_false] at hx
      rcases hx with rfl | rfl <;> omega
    have hg := getM_row (key_mem hv hmem)
    change getM _ _ [(p : Int), (q : Int)] _ = _ at hg
    rw [hg]
    generalize hR : rowR (tbe m) (ekey ((p : Int), (q : Int))) = R at *
    simp
    refine ⟨fun h2 => ?_, fun h2 => ?_⟩
    · have hH : isB1 m ((p : Int), (q : Int)) = true := by unfold isB1; rw [hrl]; simp; omega
      rw [hH, if_pos rfl] at hsu
      have hcl : (borN m (k + 1)).length = (borN m k).length + 1 := by rw [hsu]; simp
      simp [make1_E, one_spliceE, one_takeE, hw]
      refine ⟨by omega, by omega, loopK_next (k + 1) (by omega) (by omega) ?_⟩
      rw [hsu]
      (refine weak_gc [(some 0, 0), (some 1, 0), (some 5, 0)] ?_ ?_ ?_ ?_ ?_ <;> simp)
    · have hH : isB1 m ((p : Int), (q : Int)) = false := by unfold isB1; rw [hrl]; simp; omega
      rw [hH] at hsu
      simp only [Bool.false_eq_true, if_false, List.append_nil] at hsu
      refine loopK_next (k + 1) (by omega) (by omega) ?_
      rw [hsu]
      (refine weak_gc [(some 0, 0), (some 1, 0), (some 2, 0)] ?_ ?_ ?_ ?_ ?_ <;> simp [hw])
  · obtain rfl : k = (edS m).length := by omega
    simp
    (refine endG_keepT [(some 2, 0)] ?_ ?_ ?_ ?_ ?_ ?_ ?_ ⟨rfl, rfl⟩ ?_ <;> simp)
theorem c_BorderOf (m : Msh) (hv : vldM m = true) : Fun Try.prog 16 [m.av] [] (.tup [.slc 0 0 (borS m).length 1, .bool true]) [.blk true false 38 (cRs true ((borS m).map ekey))] := by
  have hs := vld_small hv
  have hel := edS_len hv
  have hbl : (borS m).length ≤ (edS m).length := borN_len m (edS m).length
  refine FnSpec.walk dr_ok Try.func16 rfl (by kernel_rfl) rfl rfl rfl (by simp) ?_
  simp
  (first | refine callG_r ?_ | refine callD_r ?_); simp; (first | refine callN_flat (by with_reducible first | exact c_ValidMesh m hs) rfl ?_ | refine callN_new (by with_reducible first | exact c_ValidMesh m hs) ?_ | refine callM_flat (by with_reducible first | exact c_ValidMesh m hs) rfl ?_ | refine callM_new (by with_reducible first | exact c_ValidMesh m hs) ?_)
  simp [hv]
  (first | refine callG_r ?_ | refine callD_r ?_); simp; (first | refine callN_flat (by with_reducible first | exact c_borderOf m hv) rfl ?_ | refine callN_new (by with_reducible first | exact c_borderOf m hv) ?_ | refine callM_flat (by with_reducible first | exact c_borderOf m hv) rfl ?_ | refine callM_new (by with_reducible first | exact c_borderOf m hv) ?_)
  simp
  (first | refine callG_r ?_ | refine callD_r ?_); simp; (first | refine callN_flat (by with_reducible first | exact c_listsOf (borS m) (by omega)) rfl ?_ | refine callN_new (by with_reducible first | exact c_listsOf (borS m) (by omega)) ?_ | refine callM_flat (by with_reducible first | exact c_listsOf (borS m) (by omega)) rfl ?_ | refine callM_new (by with_reducible first | exact c_listsOf (borS m) (by omega)) ?_)
  simp
  (refine endG_keepT [(some 2, 0)] ?_ ?_ ?_ ?_ ?_ ?_ ?_ ⟨rfl, rfl⟩ ?_ <;> simp)
def longF (m : Msh) (e : Ed) : Nat := vlong (vsub (m.pl.getD e.1.toNat (0, 0, 0)) (m.pl.getD e.2.toNat (0, 0, 0)))
theorem longF_at {m : Msh} {p q : Nat} (hp : p < m.pl.length) (hq : q < m.pl.length) : longF m ((p : Int), (q : Int)) = vlong (vsub m.pl[p] m.pl[q]) := by
  unfold longF
  simp only [Int.toNat_natCast]
  rw [List.getD_eq_getElem?_getD, List.getD_eq_getElem?_getD, List.getElem?_eq_getElem hp, List.getElem?_eq_getElem hq]; rfl
theorem c_longOfEdgeF (m : Msh) (p q : Nat) (hp : p < m.pl.length) (hq : q < m.pl.length) (hl : m.pl.length ≤ 64) : Fun Try.prog 44 [m.av, .agg [.int .i64 p, .int .i64 q]] [] (.flt .f32 (longF m ((p : Int), (q : Int)))) [] := by
  rw [longF_at hp hq]
  refine FnSpec.walkF dr_ok Try.func44 rfl (by kernel_rfl) rfl rfl rfl (by simp) ?_
  simp [hp, hq]
  (first | refine callG_r ?_ | refine callD_r ?_); simp; (first | refine callN_flat (by with_reducible first | exact c_less _ _ _ _ _ _) rfl ?_ | refine callN_new (by with_reducible first | exact c_less _ _ _ _ _ _) ?_ | refine callM_flat (by with_reducible first | exact c_less _ _ _ _ _ _) rfl ?_ | refine callM_new (by with_reducible first | exact c_less _ _ _ _ _ _) ?_)
  simp
  (first | refine callG_r ?_ | refine callD_r ?_); simp; (first | refine callN_flat (by with_reducible first | exact c_long _ _ _) rfl ?_ | refine callN_new (by with_reducible first | exact c_long _ _ _) ?_ | refine callM_flat (by with_reducible first | exact c_long _ _ _) rfl ?_ | refine callM_new (by with_reducible first | exact c_long _ _ _) ?_)
  simp
theorem c_LongsOfF (m : Msh) (hv : vldM m = true) : Fun Try.prog 15 [m.av] [] (.tup [.slc 0 0 (edS m).length 1, .bool true]) [.blk true false 29 (cFs ((edS m).map (longF m)))] := by
  have hs := vld_small hv
  have hel := edS_len hv
  have hpl := (vldM_len hv).1
  refine FnSpec.walk dr_ok Try.func15 rfl (by kernel_rfl) rfl rfl rfl (by simp) ?_
  simp
  (first | refine callG_r ?_ | refine callD_r ?_); simp; (first | refine callN_flat (by with_reducible first | exact c_ValidMesh m hs) rfl ?_ | refine callN_new (by with_reducible first | exact c_ValidMesh m hs) ?_ | refine callM_flat (by with_reducible first | exact c_ValidMesh m hs) rfl ?_ | refine callM_new (by with_reducible first | exact c_ValidMesh m hs) ?_)
  simp [hv]
  (first | refine callG_r ?_ | refine callD_r ?_); simp; (first | refine callN_flat (by with_reducible first | exact c_tbe m hs hv (edgesOk hv)) rfl ?_ | refine callN_new (by with_reducible first | exact c_tbe m hs hv (edgesOk hv)) ?_ | refine callM_flat (by with_reducible first | exact c_tbe m hs hv (edgesOk hv)) rfl ?_ | refine callM_new (by with_reducible first | exact c_tbe m hs hv (edgesOk hv)) ?_)
  simp
  refine loopG_of (α := Nat) (fun k => k ≤ (edS m).length) (fun k => (edS m).length - k) (fun k => [(20, .int .i64 k), (19, .int .i64 (edS m).length), (18, .slc 1 0 (edS m).length 2), (4, .slc 2 0 k 1), (1, .ptr 0 0)])
    (fun k => [.blk true true 27 m.cells, .blk true false 82 (cEs (edS m)), .blk true false 29 (cFs (((edS m).take k).map (longF m)))]) 0 (by simp) ?_ fun k hk => ?_
  · (refine weak_gc [(some 0, 0), (some 1, 0), (none, 29)] ?_ ?_ ?_ ?_ ?_ <;> simp)
  have hw := nat_wrap (k := k) (by omega)
  by_cases b : k < (edS m).length
  · obtain ⟨p, q, he, hpq, hqn⟩ := ed_at hv b
    simp [b, hw, he]
    (first | refine callG_r ?_ | refine callD_r ?_); simp; (first | refine callN_flat (by with_reducible first | exact c_longOfEdgeF m p q (by omega) hqn hpl) rfl ?_ | refine callN_new (by with_reducible first | exact c_longOfEdgeF m p q (by omega) hqn hpl) ?_ | refine callM_flat (by with_reducible first | exact c_longOfEdgeF m p q (by omega) hqn hpl) rfl ?_ | refine callM_new (by with_reducible first | exact c_longOfEdgeF m p q (by omega) hqn hpl) ?_)
    simp [b, hw]
    have hcl : ((edS m).take (k + 1)).map (longF m) = ((edS m).take k).map (longF m) ++ [longF m ((p : Int), (q : Int))] := by
      rw [List.take_succ_eq_append_getElem b, List.map_append, he]; rfl
    rw [List.take_take, Nat.min_self, ← List.map_take]
    refine ⟨by omega, by omega, by omega, loopK_next (k + 1) (by omega) (by omega) ?_⟩
    rw [hcl]
    (refine weak_gc [(some 0, 0), (some 1, 0), (some 5, 0)] ?_ ?_ ?_ ?_ ?_ <;> simp)
  · obtain rfl : k = (edS m).length := by omega
    simp
    (refine endG_keepT [(some 2, 0)] ?_ ?_ ?_ ?_ ?_ ?_ ?_ ⟨rfl, rfl⟩ ?_ <;> simp)
theorem with_two (T : List (List Int)) (a b : Int) : withN T [b, a] T.length = atE T (b, a) := by
  unfold withN atE atN
  congr 1
  funext i
  simp [allW, hasE]
theorem c_implTrianglesAt (m : Msh) (hv : vldM m = true) (p q : Nat) (hpq : p ≠ q) (hp : p < m.pl.length) (hq : q < m.pl.length) : Fun Try.prog 18 [m.av, .int .i64 p, .int .i64 q] [] (.tup [.slc 0 0 (atE m.tr ((p : Int), (q : Int))).length 1, .bool true]) [.blk true false 2 (cIs ((atE m.tr ((p : Int), (q : Int))).map Int.ofNat))] := by
  have g : ¬ ((p : Int) = q) := by omega
  have h2 : Fun Try.prog 48 [m.av, .view false (cIs [(p : Int), (q : Int)]) 2] [] (.slc 0 0 (atE m.tr ((p : Int), (q : Int))).length 1) [.blk true false 2 (cIs ((atE m.tr ((p : Int), (q : Int))).map Int.ofNat))] := by
    have h := c_trianglesWith m hv [(p : Int), (q : Int)] (by simp)
    rw [with_two] at h
    exact h
  refine FnSpec.walk dr_ok Try.func18 rfl (by kernel_rfl) rfl rfl rfl (by simp) ?_
  simp
  (first | refine callG_r ?_ | refine callD_r ?_); simp; (first | refine callN_flat (by with_reducible first | exact c_isPlaceOf m p hv hp) rfl ?_ | refine callN_new (by with_reducible first | exact c_isPlaceOf m p hv hp) ?_ | refine callM_flat (by with_reducible first | exact c_isPlaceOf m p hv hp) rfl ?_ | refine callM_new (by with_reducible first | exact c_isPlaceOf m p hv hp) ?_)
  simp
  (first | refine callG_r ?_ | refine callD_r ?_); simp; (first | refine callN_flat (by with_reducible first | exact c_isPlaceOf m q hv hq) rfl ?_ | refine callN_new (by with_reducible first | exact c_isPlaceOf m q hv hq) ?_ | refine callM_flat (by with_reducible first | exact c_isPlaceOf m q hv hq) rfl ?_ | refine callM_new (by with_reducible first | exact c_isPlaceOf m q hv hq) ?_)
  simp [g, hpq]
  (first | refine callG_r ?_ | refine callD_r ?_); simp; (first | refine callN_flat (by with_reducible first | exact h2) rfl ?_ | refine callN_new (by with_reducible first | exact h2) ?_ | refine callM_flat (by with_reducible first | exact h2) rfl ?_ | refine callM_new (by with_reducible first | exact h2) ?_)
  simp
  (refine endG_keepT [(some 2, 0)] ?_ ?_ ?_ ?_ ?_ ?_ ?_ ⟨rfl, rfl⟩ ?_ <;> simp)
theorem c_TrianglesOf (m : Msh) (hv : vldM m = true) (p : Nat) (hp : p < m.pl.length) : Fun Try.prog 23 [m.av, .int .i64 p] [] (.tup [.slc 0 0 (withN m.tr [(p : Int)] m.tr.length).length 1, .bool true]) [.blk true false 2 (cIs ((withN m.tr [(p : Int)] m.tr.length).map Int.ofNat))] := by
  have h2 : Fun Try.prog 48 [m.av, .view false (cIs [(p : Int)]) 1] [] (.slc 0 0 (withN m.tr [(p : Int)] m.tr.length).length 1) [.blk true false 2 (cIs ((withN m.tr [(p : Int)] m.tr.length).map Int.ofNat))] := c_trianglesWith m hv [(p : Int)] (by simp)
  refine FnSpec.walk dr_ok Try.func23 rfl (by kernel_rfl) rfl rfl rfl (by simp) ?_
  simp
  (first | refine callG_r ?_ | refine callD_r ?_); simp; (first | refine callN_flat (by with_reducible first | exact c_isPlaceOf m p hv hp) rfl ?_ | refine callN_new (by with_reducible first | exact c_isPlaceOf m p hv hp) ?_ | refine callM_flat (by with_reducible first | exact c_isPlaceOf m p hv hp) rfl ?_ | refine callM_new (by with_reducible first | exact c_isPlaceOf m p hv hp) ?_)
  simp
  (first | refine callG_r ?_ | refine callD_r ?_); simp; (first | refine callN_flat (by with_reducible first | exact h2) rfl ?_ | refine callN_new (by with_reducible first | exact h2) ?_ | refine callM_flat (by with_reducible first | exact h2) rfl ?_ | refine callM_new (by with_reducible first | exact h2) ?_)
  simp
  (refine endG_keepT [(some 2, 0)] ?_ ?_ ?_ ?_ ?_ ?_ ?_ ⟨rfl, rfl⟩ ?_ <;> simp)
theorem c_R8Mesh (l : List Nat) (n : Nat) (hn : n = l.length) (hl : l.length ≤ 1048576) (hb : ∀ b ∈ l, b < 256) :
    FnSpec Try.prog 13 [.view false (cBy l) n] [] fun av H => ∃ m : Msh, vldM m = true ∧ 4 ≤ m.pl.length ∧ H = [.blk true false 32 (cVs m.pl), .blk true false 38 (cRs true m.tr)] ∧ av = .agg [.slc 0 0 m.pl.length 3, .slc 1 0 m.tr.length 1] := by
  subst hn
  refine FnSpec.walk dr_ok Try.func13 rfl (by kernel_rfl) rfl rfl rfl (by simp) ?_
  simp
  refine callG_v ?_; simp; refine callNV_fun (by with_reducible exact c_l00From l) ?_
  simp
  have h1 : FnSpec Try.prog 41 [.ptr 0 0] [.blk false true 107 [.view false (cBy l) l.length, .int .i64 0, .int .u64 0]] (MshR l 0 1000) := c_DrawOk l 0 0 hl hb (by omega)
  refine callG_on false [1] ?_; simp; refine callN_all (by with_reducible exact h1) ?_; rintro _ _ ⟨k1, s1, m, hk1, hv, hn4, rfl, rfl⟩; refine ⟨fun e => (by cases e), ?_⟩; simp
  refine endG_keepT (r := .agg [.slc 0 0 m.pl.length 3, .slc 1 0 m.tr.length 1]) (Hout := [.blk true false 32 (cVs m.pl), .blk true false 38 (cRs true m.tr)]) [(some 2, 0), (some 3, 0)] ?_ ?_ ?_ ?_ ?_ ?_ ?_ ⟨m, hv, hn4, rfl, rfl⟩ ?_ <;> simp
end Go.Proofs.Ytnjpigkijdnpkaa
