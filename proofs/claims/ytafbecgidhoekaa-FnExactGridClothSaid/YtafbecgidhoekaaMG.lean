/- Contracts: meshes that are valid.
Conditions: none. -/
import Derived.Test.YtafbecgidhoekaaCT
namespace Go.Proofs.Ytafbecgidhoekaa
set_option linter.all false
open Go Go.Awp
set_option maxRecDepth 100000
set_option maxHeartbeats 4000000
set_option pp.deepTerms true

/-- Rows of rows. -/
def cLs (b : Bool) (l : List (List Int)) : List AV := l.map fun t => .view b (cIs t) t.length
@[simp] theorem cLs_nil (b : Bool) : cLs b [] = [] := rfl
@[simp] theorem cLs_length (b : Bool) (l : List (List Int)) : (cLs b l).length = l.length := by simp [cLs]
@[simp] theorem cLs_take (b : Bool) (l : List (List Int)) (k : Nat) : (cLs b l).take k = cLs b (l.take k) := by simp [cLs, List.map_take]
@[simp] theorem cLs_append (b : Bool) (l l' : List (List Int)) : cLs b l ++ cLs b l' = cLs b (l ++ l') := by simp [cLs]
@[simp] theorem cLs_drop {b : Bool} {l : List (List Int)} {k : Nat} (h : k < l.length) : (cLs b l).drop k = .view b (cIs l[k]) l[k].length :: cLs b (l.drop (k + 1)) := by
  unfold cLs; rw [List.drop_eq_getElem_cons (by simpa using h), List.getElem_map, List.map_drop]
@[simp] theorem cLs_get {b : Bool} {l : List (List Int)} {k : Nat} (h : k < l.length) : (cLs b l)[k]? = some (.view b (cIs l[k]) l[k].length) := by simp [cLs, h]
@[simp] theorem cLs_frz (b : Bool) (l : List (List Int)) : (cLs b l).map AV.frz = cLs false l := by
  unfold cLs
  rw [List.map_map]
  refine List.map_congr_left fun t _ => ?_
  simp [AV.frz]
@[simp] theorem cLs_pass (nv own : Bool) (σ : List Nat) (H : Heap) (b : Bool) (l : List (List Int)) : (cLs b l).map (pass0 nv own σ H) = cLs false l := by
  unfold cLs
  rw [List.map_map]
  refine List.map_congr_left fun t _ => ?_
  simp [pass0]
@[simp] theorem cLs_pures (b : Bool) (l : List (List Int)) : (∀ (x : AV), x ∈ cLs b l → x.isPure = true) = True := by
  refine eq_true fun x hx => ?_
  obtain ⟨t, _, rfl⟩ := List.mem_map.1 hx
  rfl
@[simp] theorem cLs_newB (l : List (List Int)) : (∀ (x : AV), x ∈ cLs true l → x.newB = true) = True := by
  refine eq_true fun x hx => ?_
  obtain ⟨t, _, rfl⟩ := List.mem_map.1 hx
  simp [AV.newB]
/-- A triangle of three of n places. -/
def TriOk (n : Nat) (t : List Int) : Prop := ∃ a b c : Nat, t = [(a : Int), (b : Int), (c : Int)] ∧ a ≠ b ∧ b ≠ c ∧ a ≠ c ∧ a < n ∧ b < n ∧ c < n
theorem inB_nat {a n : Nat} (h : a < n) : inB a 0 ((n : Int) - 1) = true := by
  unfold inB; simp; omega
theorem c_l02Triangle (t : List Int) (n m : Nat) (ht : TriOk n t) (hm : m = t.length) (hn : n ≤ 64) : Fun Try.prog 142 [.view false (cIs t) m, .int .i64 n] [] (.bool true) [] := by
  obtain ⟨a, b, c, rfl, h1, h2, h3, h4, h5, h6⟩ := ht
  subst hm
  have hw : IntKind.i64.wrap ((n : Int) - 1) = (n : Int) - 1 := wrap64 (by omega) (by omega)
  have g1 : ¬ ((a : Int) = b) := by omega
  have g2 : ¬ ((b : Int) = c) := by omega
  have g3 : ¬ ((a : Int) = c) := by omega
  refine FnSpec.walkF dr_ok Try.func142 rfl (by kernel_rfl) rfl rfl rfl (by simp) ?_
  simp [g1, g2, g3, hw]
  (first | refine callG_r ?_ | refine callD_r ?_); simp; (first | refine callN_flat (by with_reducible first | exact c_l00In _ _ _) rfl ?_ | refine callN_new (by with_reducible first | exact c_l00In _ _ _) ?_ | refine callM_flat (by with_reducible first | exact c_l00In _ _ _) rfl ?_ | refine callM_new (by with_reducible first | exact c_l00In _ _ _) ?_)
  simp [inB_nat h4, hw]
  (first | refine callG_r ?_ | refine callD_r ?_); simp; (first | refine callN_flat (by with_reducible first | exact c_l00In _ _ _) rfl ?_ | refine callN_new (by with_reducible first | exact c_l00In _ _ _) ?_ | refine callM_flat (by with_reducible first | exact c_l00In _ _ _) rfl ?_ | refine callM_new (by with_reducible first | exact c_l00In _ _ _) ?_)
  simp [inB_nat h5, hw]
  (first | refine callG_r ?_ | refine callD_r ?_); simp; (first | refine callN_flat (by with_reducible first | exact c_l00In _ _ _) rfl ?_ | refine callN_new (by with_reducible first | exact c_l00In _ _ _) ?_ | refine callM_flat (by with_reducible first | exact c_l00In _ _ _) rfl ?_ | refine callM_new (by with_reducible first | exact c_l00In _ _ _) ?_)
  simp [inB_nat h6]
theorem c_l02Is (P : List V) (T : List (List Int)) (n m : Nat) (hn : n = P.length) (hm : m = T.length) (h1 : P.length ≤ 64) (h2 : T.length ≤ 128) (ht : ∀ t ∈ T, TriOk P.length t) :
    Fun Try.prog 137 [.vptr false [.view false (cVs P) n, .view false (cLs false T) m]] [] (.bool true) [] := by
  subst hn; subst hm
  refine FnSpec.walkF dr_ok Try.func137 rfl (by kernel_rfl) rfl rfl rfl (by simp) ?_
  have a1 : ¬ (64 : Int) < P.length := by omega
  have a2 : ¬ (128 : Int) < T.length := by omega
  simp [a1, a2]
  refine loopG_of (α := Nat) (fun k => k ≤ T.length) (fun k => T.length - k) (fun k => [(3, .int .i64 k), (0, .vptr false [.view false (cVs P) P.length, .view false (cLs false T) T.length])]) (fun k => []) 0 (by simp) ?_ fun k hk => ?_
  · (refine weak_gc [] ?_ ?_ ?_ ?_ ?_ <;> simp)
  have hw := nat_wrap (k := k) (by omega)
  by_cases b : k < T.length
  · simp [b, hw]
    (first | refine callG_r ?_ | refine callD_r ?_); simp; (first | refine callN_flat (by with_reducible first | exact c_l02Triangle T[k] P.length _ (ht _ (List.getElem_mem b)) rfl h1) rfl ?_ | refine callN_new (by with_reducible first | exact c_l02Triangle T[k] P.length _ (ht _ (List.getElem_mem b)) rfl h1) ?_ | refine callM_flat (by with_reducible first | exact c_l02Triangle T[k] P.length _ (ht _ (List.getElem_mem b)) rfl h1) rfl ?_ | refine callM_new (by with_reducible first | exact c_l02Triangle T[k] P.length _ (ht _ (List.getElem_mem b)) rfl h1) ?_)
    simp [hw]
    refine loopK_next (k + 1) (by omega) (by omega) ?_
    (refine weak_gc [] ?_ ?_ ?_ ?_ ?_ <;> simp)
  · obtain rfl : k = T.length := by omega
    simp
theorem c_ValidMesh (P : List V) (T : List (List Int)) (n m : Nat) (hn : n = P.length) (hm : m = T.length) (h1 : P.length ≤ 64) (h2 : T.length ≤ 128) (ht : ∀ t ∈ T, TriOk P.length t) :
    Fun Try.prog 138 [.agg [.view false (cVs P) n, .view false (cLs false T) m]] [] (.bool true) [] := by
  subst hn; subst hm
  refine FnSpec.walkF dr_ok Try.func138 rfl (by kernel_rfl) rfl rfl rfl (by simp) ?_
  have a1 : ¬ (64 : Int) < P.length := by omega
  have a2 : ¬ (128 : Int) < T.length := by omega
  simp [a1, a2]
  have hwn : IntKind.i64.wrap ((P.length : Int) - 1) = (P.length : Int) - 1 := wrap64 (by omega) (by omega)
  refine loopG_of (α := Nat) (fun k => k ≤ T.length) (fun k => T.length - k) (fun k => [(22, .int .i64 k), (21, .int .i64 T.length), (20, .view false (cLs false T) T.length), (3, .int .i64 P.length)]) (fun k => []) 0 (by simp) ?_ fun k hk => ?_
  · (refine weak_gc [] ?_ ?_ ?_ ?_ ?_ <;> simp)
  have hw := nat_wrap (k := k) (by omega)
  by_cases b : k < T.length
  · obtain ⟨x, y, z, e, g1, g2, g3, g4, g5, g6⟩ := ht _ (List.getElem_mem b)
    have f1 : ¬ ((x : Int) = y) := by omega
    have f2 : ¬ ((y : Int) = z) := by omega
    have f3 : ¬ ((x : Int) = z) := by omega
    simp [b, hw, e, f1, f2, f3]
    refine loopG_of (α := Nat) (fun j => j ≤ 3) (fun j => 3 - j) (fun j => [(58, .int .i64 j), (57, .int .i64 3), (56, .view false (cIs [(x : Int), (y : Int), (z : Int)]) 3), (22, .int .i64 k), (21, .int .i64 T.length), (20, .view false (cLs false T) T.length), (3, .int .i64 P.length)]) (fun j => []) 0 (by simp) ?_ fun j hj => ?_
    · (refine weak_gc [] ?_ ?_ ?_ ?_ ?_ <;> simp)
    have hw2 := nat_wrap (k := j) (by omega)
    by_cases b2 : j < 3
    · have hin : ∀ (h : j < [(x : Int), (y : Int), (z : Int)].length), inB [(x : Int), (y : Int), (z : Int)][j] 0 ((P.length : Int) - 1) = true := by
        intro h
        match j, b2 with
        | 0, _ => exact inB_nat g4
        | 1, _ => exact inB_nat g5
        | 2, _ => exact inB_nat g6
      have b3 : j < [(x : Int), (y : Int), (z : Int)].length := b2
      have b4 : (j : Int) < 3 := by omega
      simp [b2, b3, b4, hw2, hwn]
      (first | refine callG_r ?_ | refine callD_r ?_); simp; (first | refine callN_flat (by with_reducible first | exact c_within _ _ _) rfl ?_ | refine callN_new (by with_reducible first | exact c_within _ _ _) ?_ | refine callM_flat (by with_reducible first | exact c_within _ _ _) rfl ?_ | refine callM_new (by with_reducible first | exact c_within _ _ _) ?_)
      rw [hin b3]
      simp [hw2]
      refine loopK_next (j + 1) (by omega) (by omega) ?_
      (refine weak_gc [] ?_ ?_ ?_ ?_ ?_ <;> simp)
    · obtain rfl : j = 3 := by omega
      simp [hw]
      refine loopK_next (k + 1) (by omega) (by omega) ?_
      (refine weak_gc [] ?_ ?_ ?_ ?_ ?_ <;> simp)
  · obtain rfl : k = T.length := by omega
    simp
theorem cut_two {x : Root} {n b : Bool} {e : TypeId} {c : List AV} : Cut [x, .blk n b e c] [x, .blk n b e []] := by
  refine ⟨rfl, fun r => ?_⟩
  match r with
  | 0 => exact ⟨fun nw bx e cells h => ⟨_, h, List.prefix_rfl⟩, fun nw bx e cells h => ⟨_, h⟩⟩
  | 1 =>
    refine ⟨fun new box e' cells h => ?_, fun new box e' c0 h => ?_⟩
    · simp at h; obtain ⟨rfl, rfl, rfl, rfl⟩ := h
      exact ⟨_, rfl, List.nil_prefix⟩
    · simp at h; obtain ⟨rfl, rfl, rfl, rfl⟩ := h
      exact ⟨_, rfl⟩
  | r + 2 => exact ⟨fun _ _ _ _ h => by simp at h, fun _ _ _ _ h => by simp at h⟩
theorem c_validMesh (P : List V) (T : List (List Int)) (n m : Nat) (hn : n = P.length) (hm : m = T.length) (h1 : P.length ≤ 64) (h2 : T.length ≤ 128) (ht : ∀ t ∈ T, TriOk P.length t) :
    Fun Try.prog 125 [.agg [.slc 0 0 n 3, .slc 1 0 m 1]] [.blk false false 56 (cVs P), .blk false false 24 (cLs false T)] (.tup [.agg [.slc 0 0 n 3, .slc 1 0 m 1], .bool true]) [.blk false false 56 (cVs P), .blk false false 24 []] := by
  subst hn; subst hm
  refine FnSpec.cut (R := fun av H => av = _ ∧ H = [.blk false false 56 (cVs P), .blk false false 24 (cLs false T)]) ?_ fun av H ⟨e1, e2⟩ => ⟨e1, by rw [e2]; exact cut_two⟩
  refine FnSpec.walk dr_ok Try.func125 rfl (by kernel_rfl) rfl rfl rfl (by simp) ?_
  simp
  (first | refine callG_r ?_ | refine callD_r ?_); simp; (first | refine callN_flat (by with_reducible first | exact c_ValidMesh P T _ _ rfl rfl h1 h2 ht) rfl ?_ | refine callN_new (by with_reducible first | exact c_ValidMesh P T _ _ rfl rfl h1 h2 ht) ?_ | refine callM_flat (by with_reducible first | exact c_ValidMesh P T _ _ rfl rfl h1 h2 ht) rfl ?_ | refine callM_new (by with_reducible first | exact c_ValidMesh P T _ _ rfl rfl h1 h2 ht) ?_)
  simp
  (refine endG_keepT [] ?_ ?_ ?_ ?_ ?_ ?_ ?_ ⟨rfl, rfl⟩ ?_ <;> simp)
theorem c_l02Give (P : List V) (T : List (List Int)) (n m : Nat) (hn : n = P.length) (hm : m = T.length) (h1 : P.length ≤ 64) (h2 : T.length ≤ 128) (ht : ∀ t ∈ T, TriOk P.length t) :
    Fun Try.prog 123 [.agg [.slc 0 0 n 3, .slc 1 0 m 1]] [.blk false false 56 (cVs P), .blk false false 24 (cLs false T)] (.tup [.agg [.slc 0 0 n 3, .slc 1 0 m 1], .bool true]) [.blk false false 56 (cVs P), .blk false false 24 []] := by
  subst hn; subst hm
  refine FnSpec.cut (R := fun av H => av = _ ∧ H = [.blk false false 56 (cVs P), .blk false false 24 (cLs false T)]) ?_ fun av H ⟨e1, e2⟩ => ⟨e1, by rw [e2]; exact cut_two⟩
  refine FnSpec.walk dr_ok Try.func123 rfl (by kernel_rfl) rfl rfl rfl (by simp) ?_
  simp
  (first | refine callG_r ?_ | refine callD_r ?_); simp; (first | refine callN_flat (by with_reducible first | exact c_l02Is P T _ _ rfl rfl h1 h2 ht) rfl ?_ | refine callN_new (by with_reducible first | exact c_l02Is P T _ _ rfl rfl h1 h2 ht) ?_ | refine callM_flat (by with_reducible first | exact c_l02Is P T _ _ rfl rfl h1 h2 ht) rfl ?_ | refine callM_new (by with_reducible first | exact c_l02Is P T _ _ rfl rfl h1 h2 ht) ?_)
  simp
  (refine endG_keepT [] ?_ ?_ ?_ ?_ ?_ ?_ ?_ ⟨rfl, rfl⟩ ?_ <;> simp)
end Go.Proofs.Ytafbecgidhoekaa
