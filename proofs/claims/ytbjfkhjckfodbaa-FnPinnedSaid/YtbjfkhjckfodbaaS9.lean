/- Contracts: meshes that are valid. Contracts: grids of places, of triangles, of threads. Contracts: grids of cloth.
Conditions: none. -/
import Derived.Test.YtbjfkhjckfodbaaS8
namespace Go.Proofs.Ytbjfkhjckfodbaa
set_option linter.all false
open Go Go.Awp
set_option maxRecDepth 100000
set_option maxHeartbeats 4000000
set_option pp.deepTerms true

/-- Rows of rows. -/
def cLs (b : Bool) (l : List (List Int)) : List AV := l.map fun t => .view b (cIs t) t.length
@[simp] theorem cLs_nil (b : Bool) : cLs b [] = [] := rfl
@[simp] theorem cLs_length (b : Bool) (l : List (List Int)) : (cLs b l).length = l.length := by simp [cLs]
@[simp] theorem cLs_take (b : Bool) (l : List (List Int)) (k : Nat) : (cLs b l).take k = cLs b (l.take k) := by simp [cLs, List.map_take]
@[simp] theorem cLs_append (b : Bool) (l l' : List (List Int)) : cLs b l ++ cLs b l' = cLs b (l ++ l') := by simp [cLs]
@[simp] theorem cLs_drop {b : Bool} {l : List (List Int)} {k : Nat} (h : k < l.length) : (cLs b l).drop k = .view b (cIs l[k]) l[k].length :: cLs b (l.drop (k + 1)) := by
  unfold cLs; rw [List.drop_eq_getElem_cons (by simpa using h), List.getElem_map, List.map_drop]
@[simp] theorem cLs_get {b : Bool} {l : List (List Int)} {k : Nat} (h : k < l.length) : (cLs b l)[k]? = some (.view b (cIs l[k]) l[k].length) := by simp [cLs, h]
@[simp] theorem cLs_frz (b : Bool) (l : List (List Int)) : (cLs b l).map AV.frz = cLs false l := by
  unfold cLs
  rw [List.map_map]
  refine List.map_congr_left fun t _ => ?_
  simp [AV.frz]
@[simp] theorem cLs_pass (nv own : Bool) (σ : List Nat) (H : Heap) (b : Bool) (l : List (List Int)) : (cLs b l).map (pass0 nv own σ H) = cLs false l := by
  unfold cLs
  rw [List.map_map]
  refine List.map_congr_left fun t _ => ?_
  simp [pass0]
@[simp] theorem cLs_pures (b : Bool) (l : List (List Int)) : (∀ (x : AV), x ∈ cLs b l → x.isPure = true) = True := by
  refine eq_true fun x hx => ?_
  obtain ⟨t, _, rfl⟩ := List.mem_map.1 hx
  rfl
@[simp] theorem cLs_newB (l : List (List Int)) : (∀ (x : AV), x ∈ cLs true l → x.newB = true) = True := by
  refine eq_true fun x hx => ?_
  obtain ⟨t, _, rfl⟩ := List.mem_map.1 hx
  simp [AV.newB]
/-- A triangle of three of n places. -/
def TriOk (n : Nat) (t : List Int) : Prop := ∃ a b c : Nat, t = [(a : Int), (b : Int), (c : Int)] ∧ a ≠ b ∧ b ≠ c ∧ a ≠ c ∧ a < n ∧ b < n ∧ c < n
theorem inB_nat {a n : Nat} (h : a < n) : inB a 0 ((n : Int) - 1) = true := by
  unfold inB; simp; omega
theorem c_l02Triangle (t : List Int) (n m : Nat) (ht : TriOk n t) (hm : m = t.length) (hn : n ≤ 64) : Fun Try.prog 130 [.view false (cIs t) m, .int .i64 n] [] (.bool true) [] := by
  obtain ⟨a, b, c, rfl, h1, h2, h3, h4, h5, h6⟩ := ht
  subst hm
  have hw : IntKind.i64.wrap ((n : Int) - 1) = (n : Int) - 1 := wrap64 (by omega) (by omega)
  have g1 : ¬ ((a : Int) = b) := by omega
  have g2 : ¬ ((b : Int) = c) := by omega
  have g3 : ¬ ((a : Int) = c) := by omega
  refine FnSpec.walkF dr_ok Try.func130 rfl (by kernel_rfl) rfl rfl rfl (by simp) ?_
  simp [g1, g2, g3, hw]
  (first | refine callG_r ?_ | refine callD_r ?_); simp; (first | refine callN_flat (by with_reducible first | exact c_l00In _ _ _) rfl ?_ | refine callN_new (by with_reducible first | exact c_l00In _ _ _) ?_ | refine callM_flat (by with_reducible first | exact c_l00In _ _ _) rfl ?_ | refine callM_new (by with_reducible first | exact c_l00In _ _ _) ?_)
  simp [inB_nat h4, hw]
  (first | refine callG_r ?_ | refine callD_r ?_); simp; (first | refine callN_flat (by with_reducible first | exact c_l00In _ _ _) rfl ?_ | refine callN_new (by with_reducible first | exact c_l00In _ _ _) ?_ | refine callM_flat (by with_reducible first | exact c_l00In _ _ _) rfl ?_ | refine callM_new (by with_reducible first | exact c_l00In _ _ _) ?_)
  simp [inB_nat h5, hw]
  (first | refine callG_r ?_ | refine callD_r ?_); simp; (first | refine callN_flat (by with_reducible first | exact c_l00In _ _ _) rfl ?_ | refine callN_new (by with_reducible first | exact c_l00In _ _ _) ?_ | refine callM_flat (by with_reducible first | exact c_l00In _ _ _) rfl ?_ | refine callM_new (by with_reducible first | exact c_l00In _ _ _) ?_)
  simp [inB_nat h6]
theorem c_l02Is (P : List V) (T : List (List Int)) (n m : Nat) (hn : n = P.length) (hm : m = T.length) (h1 : P.length ≤ 64) (h2 : T.length ≤ 128) (ht : ∀ t ∈ T, TriOk P.length t) :
    Fun Try.prog 117 [.vptr false [.view false (cVs P) n, .view false (cLs false T) m]] [] (.bool true) [] := by
  subst hn; subst hm
  refine FnSpec.walkF dr_ok Try.func117 rfl (by kernel_rfl) rfl rfl rfl (by simp) ?_
  have a1 : ¬ (64 : Int) < P.length := by omega
  have a2 : ¬ (128 : Int) < T.length := by omega
  simp [a1, a2]
  refine loopG_of (α := Nat) (fun k => k ≤ T.length) (fun k => T.length - k) (fun k => [(3, .int .i64 k), (0, .vptr false [.view false (cVs P) P.length, .view false (cLs false T) T.length])]) (fun k => []) 0 (by simp) ?_ fun k hk => ?_
  · (refine weak_gc [] ?_ ?_ ?_ ?_ ?_ <;> simp)
  have hw := nat_wrap (k := k) (by omega)
  by_cases b : k < T.length
  · simp [b, hw]
    (first | refine callG_r ?_ | refine callD_r ?_); simp; (first | refine callN_flat (by with_reducible first | exact c_l02Triangle T[k] P.length _ (ht _ (List.getElem_mem b)) rfl h1) rfl ?_ | refine callN_new (by with_reducible first | exact c_l02Triangle T[k] P.length _ (ht _ (List.getElem_mem b)) rfl h1) ?_ | refine callM_flat (by with_reducible first | exact c_l02Triangle T[k] P.length _ (ht _ (List.getElem_mem b)) rfl h1) rfl ?_ | refine callM_new (by with_reducible first | exact c_l02Triangle T[k] P.length _ (ht _ (List.getElem_mem b)) rfl h1) ?_)
    simp [hw]
    refine loopK_next (k + 1) (by omega) (by omega) ?_
    (refine weak_gc [] ?_ ?_ ?_ ?_ ?_ <;> simp)
  · obtain rfl : k = T.length := by omega
    simp
theorem c_ValidMesh (P : List V) (T : List (List Int)) (n m : Nat) (hn : n = P.length) (hm : m = T.length) (h1 : P.length ≤ 64) (h2 : T.length ≤ 128) (ht : ∀ t ∈ T, TriOk P.length t) :
    Fun Try.prog 73 [.agg [.view false (cVs P) n, .view false (cLs false T) m]] [] (.bool true) [] := by
  subst hn; subst hm
  refine FnSpec.walkF dr_ok Try.func73 rfl (by kernel_rfl) rfl rfl rfl (by simp) ?_
  have a1 : ¬ (64 : Int) < P.length := by omega
  have a2 : ¬ (128 : Int) < T.length := by omega
  simp [a1, a2]
  have hwn : IntKind.i64.wrap ((P.length : Int) - 1) = (P.length : Int) - 1 := wrap64 (by omega) (by omega)
  refine loopG_of (α := Nat) (fun k => k ≤ T.length) (fun k => T.length - k) (fun k => [(22, .int .i64 k), (21, .int .i64 T.length), (20, .view false (cLs false T) T.length), (3, .int .i64 P.length)]) (fun k => []) 0 (by simp) ?_ fun k hk => ?_
  · (refine weak_gc [] ?_ ?_ ?_ ?_ ?_ <;> simp)
  have hw := nat_wrap (k := k) (by omega)
  by_cases b : k < T.length
  · obtain ⟨x, y, z, e, g1, g2, g3, g4, g5, g6⟩ := ht _ (List.getElem_mem b)
    have f1 : ¬ ((x : Int) = y) := by omega
    have f2 : ¬ ((y : Int) = z) := by omega
    have f3 : ¬ ((x : Int) = z) := by omega
    simp [b, hw, e, f1, f2, f3]
    refine loopG_of (α := Nat) (fun j => j ≤ 3) (fun j => 3 - j) (fun j => [(58, .int .i64 j), (57, .int .i64 3), (56, .view false (cIs [(x : Int), (y : Int), (z : Int)]) 3), (22, .int .i64 k), (21, .int .i64 T.length), (20, .view false (cLs false T) T.length), (3, .int .i64 P.length)]) (fun j => []) 0 (by simp) ?_ fun j hj => ?_
    · (refine weak_gc [] ?_ ?_ ?_ ?_ ?_ <;> simp)
    have hw2 := nat_wrap (k := j) (by omega)
    by_cases b2 : j < 3
    · have hin : ∀ (h : j < [(x : Int), (y : Int), (z : Int)].length), inB [(x : Int), (y : Int), (z : Int)][j] 0 ((P.length : Int) - 1) = true := by
        intro h
        match j, b2 with
        | 0, _ => exact inB_nat g4
        | 1, _ => exact inB_nat g5
        | 2, _ => exact inB_nat g6
      have b3 : j < [(x : Int), (y : Int), (z : Int)].length := b2
      have b4 : (j : Int) < 3 := by omega
      simp [b2, b3, b4, hw2, hwn]
      (first | refine callG_r ?_ | refine callD_r ?_); simp; (first | refine callN_flat (by with_reducible first | exact c_within _ _ _) rfl ?_ | refine callN_new (by with_reducible first | exact c_within _ _ _) ?_ | refine callM_flat (by with_reducible first | exact c_within _ _ _) rfl ?_ | refine callM_new (by with_reducible first | exact c_within _ _ _) ?_)
      rw [hin b3]
      simp [hw2]
      refine loopK_next (j + 1) (by omega) (by omega) ?_
      (refine weak_gc [] ?_ ?_ ?_ ?_ ?_ <;> simp)
    · obtain rfl : j = 3 := by omega
      simp [hw]
      refine loopK_next (k + 1) (by omega) (by omega) ?_
      (refine weak_gc [] ?_ ?_ ?_ ?_ ?_ <;> simp)
  · obtain rfl : k = T.length := by omega
    simp
theorem cut_two {x : Root} {n : Bool} {e : TypeId} {c : List AV} : Cut [x, .blk n false e c] [x, .blk n false e []] := by
  refine ⟨rfl, fun r => ?_⟩
  match r with
  | 0 => exact ⟨fun nw bx e cells h => ⟨_, h, List.prefix_rfl, fun _ => rfl⟩, fun nw bx e cells h => ⟨_, h⟩⟩
  | 1 =>
    refine ⟨fun new box e' cells h => ?_, fun new box e' c0 h => ?_⟩
    · simp at h; obtain ⟨rfl, rfl, rfl, rfl⟩ := h
      exact ⟨_, rfl, List.nil_prefix, fun h => by cases h⟩
    · simp at h; obtain ⟨rfl, rfl, rfl, rfl⟩ := h
      exact ⟨_, rfl⟩
  | r + 2 => exact ⟨fun _ _ _ _ h => by simp at h, fun _ _ _ _ h => by simp at h⟩
theorem c_validMesh (P : List V) (T : List (List Int)) (n m : Nat) (hn : n = P.length) (hm : m = T.length) (h1 : P.length ≤ 64) (h2 : T.length ≤ 128) (ht : ∀ t ∈ T, TriOk P.length t) :
    Fun Try.prog 102 [.agg [.slc 0 0 n 3, .slc 1 0 m 1]] [.blk false false 38 (cVs P), .blk false false 26 (cLs false T)] (.tup [.agg [.slc 0 0 n 3, .slc 1 0 m 1], .bool true]) [.blk false false 38 (cVs P), .blk false false 26 []] := by
  subst hn; subst hm
  refine FnSpec.cut (R := fun av H => av = _ ∧ H = [.blk false false 38 (cVs P), .blk false false 26 (cLs false T)]) ?_ fun av H ⟨e1, e2⟩ => ⟨e1, by rw [e2]; exact cut_two⟩
  refine FnSpec.walk dr_ok Try.func102 rfl (by kernel_rfl) rfl rfl rfl (by simp) ?_
  simp
  (first | refine callG_r ?_ | refine callD_r ?_); simp; (first | refine callN_flat (by with_reducible first | exact c_ValidMesh P T _ _ rfl rfl h1 h2 ht) rfl ?_ | refine callN_new (by with_reducible first | exact c_ValidMesh P T _ _ rfl rfl h1 h2 ht) ?_ | refine callM_flat (by with_reducible first | exact c_ValidMesh P T _ _ rfl rfl h1 h2 ht) rfl ?_ | refine callM_new (by with_reducible first | exact c_ValidMesh P T _ _ rfl rfl h1 h2 ht) ?_)
  simp
  (refine endG_keepT [] ?_ ?_ ?_ ?_ ?_ ?_ ?_ ⟨rfl, rfl⟩ ?_ <;> simp)
theorem c_l02Give (P : List V) (T : List (List Int)) (n m : Nat) (hn : n = P.length) (hm : m = T.length) (h1 : P.length ≤ 64) (h2 : T.length ≤ 128) (ht : ∀ t ∈ T, TriOk P.length t) :
    Fun Try.prog 104 [.agg [.slc 0 0 n 3, .slc 1 0 m 1]] [.blk false false 38 (cVs P), .blk false false 26 (cLs false T)] (.tup [.agg [.slc 0 0 n 3, .slc 1 0 m 1], .bool true]) [.blk false false 38 (cVs P), .blk false false 26 []] := by
  subst hn; subst hm
  refine FnSpec.cut (R := fun av H => av = _ ∧ H = [.blk false false 38 (cVs P), .blk false false 26 (cLs false T)]) ?_ fun av H ⟨e1, e2⟩ => ⟨e1, by rw [e2]; exact cut_two⟩
  refine FnSpec.walk dr_ok Try.func104 rfl (by kernel_rfl) rfl rfl rfl (by simp) ?_
  simp
  (first | refine callG_r ?_ | refine callD_r ?_); simp; (first | refine callN_flat (by with_reducible first | exact c_l02Is P T _ _ rfl rfl h1 h2 ht) rfl ?_ | refine callN_new (by with_reducible first | exact c_l02Is P T _ _ rfl rfl h1 h2 ht) ?_ | refine callM_flat (by with_reducible first | exact c_l02Is P T _ _ rfl rfl h1 h2 ht) rfl ?_ | refine callM_new (by with_reducible first | exact c_l02Is P T _ _ rfl rfl h1 h2 ht) ?_)
  simp
  (refine endG_keepT [] ?_ ?_ ?_ ?_ ?_ ?_ ?_ ⟨rfl, rfl⟩ ?_ <;> simp)
end Go.Proofs.Ytbjfkhjckfodbaa
namespace Go.Proofs.Ytbjfkhjckfodbaa
set_option linter.all false
open Go Go.Awp
set_option maxRecDepth 100000
set_option maxHeartbeats 4000000
set_option pp.deepTerms true

/-- What a walk over a grid gathers, y rows and x of the next. -/
def gr {α : Type} (f : Nat → Nat → List α) (w y x : Nat) : List α := (List.range y).flatMap (fun j => (List.range w).flatMap (f j)) ++ (List.range x).flatMap (f y)
theorem gr_zero {α : Type} {f : Nat → Nat → List α} {w : Nat} : gr f w 0 0 = [] := by simp [gr]
theorem gr_step {α : Type} (f : Nat → Nat → List α) (w y x : Nat) : gr f w y (x + 1) = gr f w y x ++ f y x := by
  simp [gr, List.range_succ, List.flatMap_append]
theorem gr_row {α : Type} (f : Nat → Nat → List α) (w y : Nat) : gr f w (y + 1) 0 = gr f w y w := by
  simp [gr, List.range_succ, List.flatMap_append]
theorem fm_len {α β : Type} {f : α → List β} {c : Nat} : ∀ (l : List α), (∀ x ∈ l, (f x).length = c) → (l.flatMap f).length = l.length * c
  | [], _ => by simp
  | a :: l, h => by
    rw [List.flatMap_cons, List.length_append, fm_len l fun x hx => h x (List.mem_cons_of_mem _ hx), h a List.mem_cons_self, List.length_cons, Nat.add_mul, Nat.one_mul, Nat.add_comm]
theorem fm_le {α β : Type} {f : α → List β} {c : Nat} : ∀ (l : List α), (∀ x ∈ l, (f x).length ≤ c) → (l.flatMap f).length ≤ l.length * c
  | [], _ => by simp
  | a :: l, h => by
    have h1 := fm_le l fun x hx => h x (List.mem_cons_of_mem _ hx)
    have h2 := h a List.mem_cons_self
    rw [List.flatMap_cons, List.length_append, List.length_cons, Nat.add_mul, Nat.one_mul]; omega
theorem gr_len {α : Type} {f : Nat → Nat → List α} {c : Nat} (w y x : Nat) (h : ∀ j i, (f j i).length = c) : (gr f w y x).length = y * (w * c) + x * c := by
  unfold gr
  rw [List.length_append, fm_len (c := w * c) _ fun j _ => by rw [fm_len (c := c) _ fun i _ => h j i, List.length_range], fm_len (c := c) _ fun i _ => h y i, List.length_range, List.length_range]
theorem gr_le {α : Type} {f : Nat → Nat → List α} {c : Nat} (w y x : Nat) (h : ∀ j i, (f j i).length ≤ c) : (gr f w y x).length ≤ y * (w * c) + x * c := by
  unfold gr
  have h1 := fm_le (c := w * c) (List.range y) fun j _ => (by simpa using fm_le (c := c) (List.range w) fun i _ => h j i : ((List.range w).flatMap (f j)).length ≤ w * c)
  have h2 := fm_le (c := c) (List.range x) fun i _ => h y i
  rw [List.length_range] at h1 h2
  rw [List.length_append]; omega
theorem gr_mem {α : Type} {f : Nat → Nat → List α} {w y : Nat} {t : α} (h : t ∈ gr f w y 0) : ∃ j i, j < y ∧ i < w ∧ t ∈ f j i := by
  simp only [gr, List.range_zero, List.flatMap_nil, List.append_nil, List.mem_flatMap, List.mem_range] at h
  obtain ⟨j, hj, i, hi, ht⟩ := h
  exact ⟨j, i, hj, hi, ht⟩
/-- A place of a grid. -/
def plF (s y x : Nat) : List V := [(fop .mul .f32 (fint .f32 x) s, fop .mul .f32 (fint .f32 y) s, 0)]
def ixF (w y x : Nat) : Int := (x : Int) + ((w : Int) + 1) * (y : Int)
def trF (w y x : Nat) : List (List Int) := [[ixF w y x, ixF w y x + 1, ixF w y x + w + 1 + 1], [ixF w y x, ixF w y x + w + 1 + 1, ixF w y x + w + 1]]
abbrev gPl (w h s : Nat) : List V := gr (plF s) (w + 1) (h + 1) 0
abbrev gTr (w h : Nat) : List (List Int) := gr (trF w) w h 0
structure GOk (w h s : Nat) : Prop where
  w1 : 1 ≤ w
  w2 : w ≤ 64
  h1 : 1 ≤ h
  h2 : h ≤ 64
  m : (w + 1) * (h + 1) ≤ 64
  o : overB s = true
theorem gPl_length (w h s : Nat) : (gPl w h s).length = (h + 1) * (w + 1) := by
  rw [gPl, gr_len (c := 1) _ _ _ fun _ _ => rfl]; simp
theorem gPl_le {w h s : Nat} (g : GOk w h s) : (gPl w h s).length ≤ 64 := by
  rw [gPl_length, Nat.mul_comm]; exact g.m
theorem gTr_le {w h s : Nat} (g : GOk w h s) : (gTr w h).length ≤ 128 := by
  rw [gTr, gr_len (c := 2) _ _ _ fun _ _ => rfl]
  have := g.m
  have h1 : h * (w * 2) = 2 * (w * h) := by rw [Nat.mul_comm w 2, ← Nat.mul_assoc, Nat.mul_comm h 2, Nat.mul_assoc, Nat.mul_comm h w]
  have h2 : (w + 1) * (h + 1) = w * h + w + h + 1 := by rw [Nat.add_mul, Nat.mul_add, Nat.mul_one, Nat.one_mul]; omega
  omega
theorem ixF_nat (w y x : Nat) : ixF w y x = ((x + (w + 1) * y : Nat) : Int) := by unfold ixF; simp
theorem ix_lt {w h y x : Nat} (hy : y < h) (hx : x ≤ w) : x + (w + 1) * y + w + 1 < (h + 1) * (w + 1) := by
  have h1 : (w + 1) * (y + 2) ≤ (w + 1) * (h + 1) := Nat.mul_le_mul_left _ (by omega)
  rw [Nat.mul_comm (h + 1)]
  have h2 : (w + 1) * (y + 2) = (w + 1) * y + (w + 1) * 2 := Nat.mul_add _ _ _
  omega
theorem gTr_ok {w h s : Nat} : ∀ t ∈ gTr w h, TriOk (gPl w h s).length t := by
  intro t ht
  obtain ⟨j, i, hj, hi, hm⟩ := gr_mem ht
  rw [gPl_length]
  have h1 := ix_lt (w := w) hj (show i + 1 ≤ w by omega)
  simp only [trF, ixF_nat, List.mem_cons, List.not_mem_nil, or_false] at hm
  rcases hm with rfl | rfl
  · exact ⟨i + (w + 1) * j, i + (w + 1) * j + 1, i + (w + 1) * j + w + 1 + 1, by simp, by omega, by omega, by omega, by omega, by omega, by omega⟩
  · exact ⟨i + (w + 1) * j, i + (w + 1) * j + w + 1 + 1, i + (w + 1) * j + w + 1, by simp, by omega, by omega, by omega, by omega, by omega, by omega⟩
theorem mul_small {w y : Nat} (hw : w ≤ 64) (hy : y ≤ 64) : (w + 1) * y ≤ 4160 := Nat.le_trans (Nat.mul_le_mul (Nat.add_le_add_right hw 1) hy) (by decide)
theorem one_spliceV (x y z : Nat) : splice (cVs [(0, 0, 0)]) 0 [.flt .f32 x, .flt .f32 y, .flt .f32 z] = cVs [(x, y, z)] := rfl
theorem one_takeV (t : V) : (cVs [t]).take 3 = cVs [t] := rfl
abbrev gHeap (L : List V) : Heap := [.blk true true 60 [.nils, .nils], .blk true true 60 [.slc 2 0 L.length 3, .nils], .blk true false 38 (cVs L)]
attribute [simp] gHeap
abbrev tHeap (L : List V) (T : List (List Int)) : Heap := [.blk true true 60 [.nils, .nils], .blk true true 60 [.slc 2 0 L.length 3, .slc 3 0 T.length 1], .blk true false 38 (cVs L), .blk true false 26 (cLs true T)]
attribute [simp] tHeap
theorem make_nils : makeL 2 [AV.nils] = [.nils, .nils] := rfl
theorem make0_nils : makeL 0 [AV.nils] = [] := rfl
theorem splA (a b x : AV) : splice [a, b] 0 [x] = [x, b] := rfl
theorem splB (a b x : AV) : splice [a, b] 1 [x] = [a, x] := rfl
theorem c_GridMesh (w h s : Nat) (g : GOk w h s) : Fun Try.prog 81 [.int .i64 w, .int .i64 h, .flt .f32 s] [] (.tup [.agg [.slc 0 0 (gPl w h s).length 3, .slc 1 0 (gTr w h).length 1], .bool true]) [.blk true false 38 (cVs (gPl w h s)), .blk true false 26 []] := by
  have g0 := g
  obtain ⟨w1, w2, h1, h2, hm, ho⟩ := g
  have i1 : inB w 1 64 = true := by unfold inB; simp; omega
  have i2 : inB h 1 64 = true := by unfold inB; simp; omega
  have hww := nat_wrap (k := w) (by omega)
  have hwh := nat_wrap (k := h) (by omega)
  have hc : ((w : Int) + 1) * ((h : Int) + 1) = (((w + 1) * (h + 1) : Nat) : Int) := by simp
  have hwm : IntKind.i64.wrap (((w : Int) + 1) * ((h : Int) + 1)) = ((w : Int) + 1) * ((h : Int) + 1) := by rw [hc]; exact wrap64 (by omega) (by omega)
  have hm2 : ¬ (64 : Int) < ((w : Int) + 1) * ((h : Int) + 1) := by rw [hc]; omega
  refine FnSpec.walk dr_ok Try.func81 rfl (by kernel_rfl) rfl rfl rfl (by simp) ?_
  simp
  (first | refine callG_r ?_ | refine callD_r ?_); simp; (first | refine callN_flat (by with_reducible first | exact c_within _ _ _) rfl ?_ | refine callN_new (by with_reducible first | exact c_within _ _ _) ?_ | refine callM_flat (by with_reducible first | exact c_within _ _ _) rfl ?_ | refine callM_new (by with_reducible first | exact c_within _ _ _) ?_)
  simp [i1]
  (first | refine callG_r ?_ | refine callD_r ?_); simp; (first | refine callN_flat (by with_reducible first | exact c_within _ _ _) rfl ?_ | refine callN_new (by with_reducible first | exact c_within _ _ _) ?_ | refine callM_flat (by with_reducible first | exact c_within _ _ _) rfl ?_ | refine callM_new (by with_reducible first | exact c_within _ _ _) ?_)
  simp [i2, hww, hwh, hwm, hm2]
  (first | refine callG_r ?_ | refine callD_r ?_); simp; (first | refine callN_flat (by with_reducible first | exact c_isOver _) rfl ?_ | refine callN_new (by with_reducible first | exact c_isOver _) ?_ | refine callM_flat (by with_reducible first | exact c_isOver _) rfl ?_ | refine callM_new (by with_reducible first | exact c_isOver _) ?_)
  simp [ho, hwh]
  refine loopG_of (α := Nat) (fun y => y ≤ h + 1) (fun y => h + 1 - y) (fun y => [(40, .int .i64 y), (39, .int .i64 ((h : Int) + 1)), (8, .ptr 1 0), (6, .ptr 0 0), (0, .int .i64 w), (1, .int .i64 h), (2, .flt .f32 s)])
    (fun y => gHeap (gr (plF s) (w + 1) y 0)) 0 (by simp) ?_ fun y hy => ?_
  · (refine weak_gc [(some 0, 0), (some 1, 0), (none, 38)] ?_ ?_ ?_ ?_ ?_ <;> simp [gr_zero])
  have hwy := nat_wrap (k := y) (by omega)
  by_cases b : y < h + 1
  · have b' : (y : Int) < h + 1 := by omega
    simp [b', hwy, hww]
    refine loopG_of (α := Nat) (fun x => x ≤ w + 1) (fun x => w + 1 - x) (fun x => [(45, .int .i64 x), (44, .int .i64 ((w : Int) + 1)), (9, .int .i64 y), (40, .int .i64 y), (39, .int .i64 ((h : Int) + 1)), (8, .ptr 1 0), (6, .ptr 0 0), (0, .int .i64 w), (1, .int .i64 h), (2, .flt .f32 s)])
      (fun x => gHeap (gr (plF s) (w + 1) y x)) 0 (by simp) ?_ fun x hx => ?_
    · (refine weak_gc [(some 0, 0), (some 1, 0), (some 2, 0)] ?_ ?_ ?_ ?_ ?_ <;> simp)
    have hwx := nat_wrap (k := x) (by omega)
    by_cases b2 : x < w + 1
    · have b2' : (x : Int) < w + 1 := by omega
      have hl : (gr (plF s) (w + 1) y x).length = y * ((w + 1) * 1) + x * 1 := gr_len (c := 1) _ _ _ fun _ _ => rfl
      have hl2 : y * ((w + 1) * 1) ≤ 4225 := Nat.le_trans (Nat.mul_le_mul (show y ≤ 65 by omega) (show (w + 1) * 1 ≤ 65 by omega)) (by decide)
      have hst := gr_step (plF s) (w + 1) y x
      simp [b2', hwx, one_spliceV, one_takeV]
      refine ⟨by omega, by omega, loopK_next (x + 1) (by omega) (by omega) ?_⟩
      rw [hst, plF]
      (refine weak_gc [(some 0, 0), (some 1, 0), (some 4, 0)] ?_ ?_ ?_ ?_ ?_ <;> simp)
    · obtain rfl : x = w + 1 := by omega
      simp [hwy]
      refine loopK_next (y + 1) (by omega) (by omega) ?_
      rw [gr_row]
      (refine weak_gc [(some 0, 0), (some 1, 0), (some 2, 0)] ?_ ?_ ?_ ?_ ?_ <;> simp)
  · obtain rfl : y = h + 1 := by omega
    simp
    refine loopG_of (α := Nat) (fun y => y ≤ h) (fun y => h - y) (fun y => [(65, .int .i64 y), (64, .int .i64 h), (8, .ptr 1 0), (6, .ptr 0 0), (0, .int .i64 w), (1, .int .i64 h), (2, .flt .f32 s)])
      (fun y => tHeap (gPl w h s) (gr (trF w) w y 0)) 0 (by simp) ?_ fun y hy => ?_
    · (refine weak_gc [(some 0, 0), (some 1, 0), (some 2, 0), (none, 26)] ?_ ?_ ?_ ?_ ?_ <;> simp [gr_zero])
    have hwy := nat_wrap (k := y) (by omega)
    by_cases b : y < h
    · have b' : (y : Int) < h := by omega
      simp [b', b, hwy]
      refine loopG_of (α := Nat) (fun x => x ≤ w) (fun x => w - x) (fun x => [(69, .int .i64 x), (68, .int .i64 w), (11, .int .i64 y), (65, .int .i64 y), (64, .int .i64 h), (8, .ptr 1 0), (6, .ptr 0 0), (0, .int .i64 w), (1, .int .i64 h), (2, .flt .f32 s)])
        (fun x => tHeap (gPl w h s) (gr (trF w) w y x)) 0 (by simp) ?_ fun x hx => ?_
      · (refine weak_gc [(some 0, 0), (some 1, 0), (some 2, 0), (some 3, 0)] ?_ ?_ ?_ ?_ ?_ <;> simp)
      have hwx := nat_wrap (k := x) (by omega)
      by_cases b2 : x < w
      · have b2' : (x : Int) < w := by omega
        have hl : (gr (trF w) w y x).length = y * (w * 2) + x * 2 := gr_len (c := 2) _ _ _ fun _ _ => rfl
        have hl2 : y * (w * 2) ≤ 8192 := Nat.le_trans (Nat.mul_le_mul (show y ≤ 64 by omega) (show w * 2 ≤ 128 by omega)) (by decide)
        have hst := gr_step (trF w) w y x
        have hP := mul_small (w := w) (y := y) w2 (by omega)
        have hp : ((w : Int) + 1) * (y : Int) = (((w + 1) * y : Nat) : Int) := by simp
        have hA : IntKind.i64.wrap (((w : Int) + 1) * (y : Int)) = ((w : Int) + 1) * (y : Int) := by rw [hp]; exact wrap64 (by omega) (by omega)
        have hB : IntKind.i64.wrap ((x : Int) + ((w : Int) + 1) * (y : Int)) = ixF w y x := by unfold ixF; rw [hp]; exact wrap64 (by omega) (by omega)
        have hix : ixF w y x = ((x + (w + 1) * y : Nat) : Int) := ixF_nat _ _ _
        have hC : IntKind.i64.wrap (ixF w y x + w) = ixF w y x + w := by rw [hix]; exact wrap64 (by omega) (by omega)
        have hD : IntKind.i64.wrap (ixF w y x + w + 1) = ixF w y x + w + 1 := by rw [hix]; exact wrap64 (by omega) (by omega)
        have hE : IntKind.i64.wrap (ixF w y x + 1) = ixF w y x + 1 := by rw [hix]; exact wrap64 (by omega) (by omega)
        have hF : IntKind.i64.wrap (ixF w y x + w + 1 + 1) = ixF w y x + w + 1 + 1 := by rw [hix]; exact wrap64 (by omega) (by omega)
        simp [b2', b2, hwx, hww, hA, hB, hC, hD, hE, hF, make_nils, splA, splB]
        have hcl : cLs true (gr (trF w) w y (x + 1)) = cLs true (gr (trF w) w y x) ++ [.view true (cIs [ixF w y x, ixF w y x + 1, ixF w y x + w + 1 + 1]) 3, .view true (cIs [ixF w y x, ixF w y x + w + 1 + 1, ixF w y x + w + 1]) 3] := by rw [hst, ← cLs_append]; rfl
        have hll : (gr (trF w) w y (x + 1)).length = (gr (trF w) w y x).length + 2 := by rw [hst, List.length_append]; rfl
        refine ⟨by omega, by omega, loopK_next (x + 1) (by omega) (by omega) ?_⟩
        (refine weak_gc [(some 0, 0), (some 1, 0), (some 2, 0), (some 7, 0)] ?_ ?_ ?_ ?_ ?_ <;> simp [hcl, hll])
      · obtain rfl : x = w := by omega
        simp [hwy]
        refine loopK_next (y + 1) (by omega) (by omega) ?_
        rw [gr_row]
        (refine weak_gc [(some 0, 0), (some 1, 0), (some 2, 0), (some 3, 0)] ?_ ?_ ?_ ?_ ?_ <;> simp)
    · obtain rfl : y = h := by omega
      simp
      (first | refine callG_on false [2, 3] ?_ | refine callD_on false [2, 3] ?_); simp; (first | refine callN_fun (by with_reducible exact c_validMesh (gPl w y s) (gTr w y) _ _ rfl rfl (gPl_le g0) (gTr_le g0) gTr_ok) (by simp) ?_ | refine callMD_fun (by with_reducible exact c_validMesh (gPl w y s) (gTr w y) _ _ rfl rfl (gPl_le g0) (gTr_le g0) gTr_ok) (by simp) ?_)
      simp
      (refine endG_keepT [(some 2, 0), (some 3, 0)] ?_ ?_ ?_ ?_ ?_ ?_ ?_ ⟨rfl, rfl⟩ ?_ <;> simp)
theorem c_l02Grid (w h s : Nat) (g : GOk w h s) : Fun Try.prog 66 [.int .i64 w, .int .i64 h, .flt .f32 s] [] (.agg [.slc 0 0 (gPl w h s).length 3, .slc 1 0 (gTr w h).length 1]) [.blk true false 38 (cVs (gPl w h s)), .blk true false 26 (cLs true (gTr w h))] := by
  obtain ⟨w1, w2, h1, h2, hm, ho⟩ := g
  have hww := nat_wrap (k := w) (by omega)
  have hwh := nat_wrap (k := h) (by omega)
  refine FnSpec.walk dr_ok Try.func66 rfl (by kernel_rfl) rfl rfl rfl (by simp) ?_
  simp [make0_nils]
  refine loopG_of (α := Nat) (fun y => y ≤ h + 1) (fun y => h + 1 - y) (fun y => [(8, .int .i64 y), (7, .ptr 1 0), (6, .ptr 0 0), (0, .int .i64 w), (1, .int .i64 h), (2, .flt .f32 s)])
    (fun y => gHeap (gr (plF s) (w + 1) y 0)) 0 (by simp) ?_ fun y hy => ?_
  · (refine weak_gc [(some 0, 0), (some 1, 0), (none, 38)] ?_ ?_ ?_ ?_ ?_ <;> simp [gr_zero])
  have hwy := nat_wrap (k := y) (by omega)
  by_cases b : y < h + 1
  · have b' : (y : Int) ≤ h := by omega
    have b'' : y ≤ h := by omega
    simp [b', b'', hwy, hww]
    refine loopG_of (α := Nat) (fun x => x ≤ w + 1) (fun x => w + 1 - x) (fun x => [(9, .int .i64 x), (8, .int .i64 y), (7, .ptr 1 0), (6, .ptr 0 0), (0, .int .i64 w), (1, .int .i64 h), (2, .flt .f32 s)])
      (fun x => gHeap (gr (plF s) (w + 1) y x)) 0 (by simp) ?_ fun x hx => ?_
    · (refine weak_gc [(some 0, 0), (some 1, 0), (some 2, 0)] ?_ ?_ ?_ ?_ ?_ <;> simp)
    have hwx := nat_wrap (k := x) (by omega)
    by_cases b2 : x < w + 1
    · have b2' : (x : Int) ≤ w := by omega
      have b2'' : x ≤ w := by omega
      have hl : (gr (plF s) (w + 1) y x).length = y * ((w + 1) * 1) + x * 1 := gr_len (c := 1) _ _ _ fun _ _ => rfl
      have hl2 : y * ((w + 1) * 1) ≤ 4225 := Nat.le_trans (Nat.mul_le_mul (show y ≤ 65 by omega) (show (w + 1) * 1 ≤ 65 by omega)) (by decide)
      have hst := gr_step (plF s) (w + 1) y x
      simp [b2', b2'', hwx, one_spliceV, one_takeV]
      refine ⟨by omega, by omega, loopK_next (x + 1) (by omega) (by omega) ?_⟩
      rw [hst, plF]
      (refine weak_gc [(some 0, 0), (some 1, 0), (some 4, 0)] ?_ ?_ ?_ ?_ ?_ <;> simp)
    · obtain rfl : x = w + 1 := by omega
      have b2' : ¬ ((w : Int) + 1 ≤ w) := by omega
      simp [hwy, b2']
      refine loopK_next (y + 1) (by omega) (by omega) ?_
      rw [gr_row]
      (refine weak_gc [(some 0, 0), (some 1, 0), (some 2, 0)] ?_ ?_ ?_ ?_ ?_ <;> simp)
  · obtain rfl : y = h + 1 := by omega
    have b' : ¬ ((h : Int) + 1 ≤ h) := by omega
    simp [b']
    refine loopG_of (α := Nat) (fun y => y ≤ h) (fun y => h - y) (fun y => [(10, .int .i64 y), (7, .ptr 1 0), (6, .ptr 0 0), (0, .int .i64 w), (1, .int .i64 h), (2, .flt .f32 s)])
      (fun y => tHeap (gPl w h s) (gr (trF w) w y 0)) 0 (by simp) ?_ fun y hy => ?_
    · (refine weak_gc [(some 0, 0), (some 1, 0), (some 2, 0), (none, 26)] ?_ ?_ ?_ ?_ ?_ <;> simp [gr_zero])
    have hwy := nat_wrap (k := y) (by omega)
    by_cases b : y < h
    · have b' : (y : Int) < h := by omega
      simp [b', b, hwy]
      refine loopG_of (α := Nat) (fun x => x ≤ w) (fun x => w - x) (fun x => [(11, .int .i64 x), (10, .int .i64 y), (7, .ptr 1 0), (6, .ptr 0 0), (0, .int .i64 w), (1, .int .i64 h), (2, .flt .f32 s)])
        (fun x => tHeap (gPl w h s) (gr (trF w) w y x)) 0 (by simp) ?_ fun x hx => ?_
      · (refine weak_gc [(some 0, 0), (some 1, 0), (some 2, 0), (some 3, 0)] ?_ ?_ ?_ ?_ ?_ <;> simp)
      have hwx := nat_wrap (k := x) (by omega)
      by_cases b2 : x < w
      · have b2' : (x : Int) < w := by omega
        have hl : (gr (trF w) w y x).length = y * (w * 2) + x * 2 := gr_len (c := 2) _ _ _ fun _ _ => rfl
        have hl2 : y * (w * 2) ≤ 8192 := Nat.le_trans (Nat.mul_le_mul (show y ≤ 64 by omega) (show w * 2 ≤ 128 by omega)) (by decide)
        have hst := gr_step (trF w) w y x
        have hP := mul_small (w := w) (y := y) w2 (by omega)
        have hp : ((w : Int) + 1) * (y : Int) = (((w + 1) * y : Nat) : Int) := by simp
        have hA : IntKind.i64.wrap (((w : Int) + 1) * (y : Int)) = ((w : Int) + 1) * (y : Int) := by rw [hp]; exact wrap64 (by omega) (by omega)
        have hB : IntKind.i64.wrap ((x : Int) + ((w : Int) + 1) * (y : Int)) = ixF w y x := by unfold ixF; rw [hp]; exact wrap64 (by omega) (by omega)
        have hix : ixF w y x = ((x + (w + 1) * y : Nat) : Int) := ixF_nat _ _ _
        have hC : IntKind.i64.wrap (ixF w y x + w) = ixF w y x + w := by rw [hix]; exact wrap64 (by omega) (by omega)
        have hD : IntKind.i64.wrap (ixF w y x + w + 1) = ixF w y x + w + 1 := by rw [hix]; exact wrap64 (by omega) (by omega)
        have hE : IntKind.i64.wrap (ixF w y x + 1) = ixF w y x + 1 := by rw [hix]; exact wrap64 (by omega) (by omega)
        have hF : IntKind.i64.wrap (ixF w y x + w + 1 + 1) = ixF w y x + w + 1 + 1 := by rw [hix]; exact wrap64 (by omega) (by omega)
        simp [b2', b2, hwx, hww, hA, hB, hC, hD, hE, hF, make_nils, splA, splB]
        have hcl : cLs true (gr (trF w) w y (x + 1)) = cLs true (gr (trF w) w y x) ++ [.view true (cIs [ixF w y x, ixF w y x + 1, ixF w y x + w + 1 + 1]) 3, .view true (cIs [ixF w y x, ixF w y x + w + 1 + 1, ixF w y x + w + 1]) 3] := by rw [hst, ← cLs_append]; rfl
        have hll : (gr (trF w) w y (x + 1)).length = (gr (trF w) w y x).length + 2 := by rw [hst, List.length_append]; rfl
        refine ⟨by omega, by omega, loopK_next (x + 1) (by omega) (by omega) ?_⟩
        (refine weak_gc [(some 0, 0), (some 1, 0), (some 2, 0), (some 7, 0)] ?_ ?_ ?_ ?_ ?_ <;> simp [hcl, hll])
      · obtain rfl : x = w := by omega
        simp [hwy]
        refine loopK_next (y + 1) (by omega) (by omega) ?_
        rw [gr_row]
        (refine weak_gc [(some 0, 0), (some 1, 0), (some 2, 0), (some 3, 0)] ?_ ?_ ?_ ?_ ?_ <;> simp)
    · obtain rfl : y = h := by omega
      simp
      (refine endG_keepT [(some 2, 0), (some 3, 0)] ?_ ?_ ?_ ?_ ?_ ?_ ?_ ⟨rfl, rfl⟩ ?_ <;> simp)
theorem c_specGridMesh (w h s : Nat) (g : GOk w h s) : Fun Try.prog 82 [.int .i64 w, .int .i64 h, .flt .f32 s] [] (.tup [.agg [.slc 0 0 (gPl w h s).length 3, .slc 1 0 (gTr w h).length 1], .bool true]) [.blk true false 38 (cVs (gPl w h s)), .blk true false 26 []] := by
  have g0 := g
  obtain ⟨w1, w2, h1, h2, hm, ho⟩ := g
  have i1 : inB w 1 64 = true := by unfold inB; simp; omega
  have i2 : inB h 1 64 = true := by unfold inB; simp; omega
  have hww := nat_wrap (k := w) (by omega)
  have hwh := nat_wrap (k := h) (by omega)
  have hc : ((w : Int) + 1) * ((h : Int) + 1) = (((w + 1) * (h + 1) : Nat) : Int) := by simp
  have hwm : IntKind.i64.wrap (((w : Int) + 1) * ((h : Int) + 1)) = ((w : Int) + 1) * ((h : Int) + 1) := by rw [hc]; exact wrap64 (by omega) (by omega)
  have hm2 : ¬ (64 : Int) < ((w : Int) + 1) * ((h : Int) + 1) := by rw [hc]; omega
  refine FnSpec.walk dr_ok Try.func82 rfl (by kernel_rfl) rfl rfl rfl (by simp) ?_
  simp
  (first | refine callG_r ?_ | refine callD_r ?_); simp; (first | refine callN_flat (by with_reducible first | exact c_l00In _ _ _) rfl ?_ | refine callN_new (by with_reducible first | exact c_l00In _ _ _) ?_ | refine callM_flat (by with_reducible first | exact c_l00In _ _ _) rfl ?_ | refine callM_new (by with_reducible first | exact c_l00In _ _ _) ?_)
  simp [i1]
  (first | refine callG_r ?_ | refine callD_r ?_); simp; (first | refine callN_flat (by with_reducible first | exact c_l00In _ _ _) rfl ?_ | refine callN_new (by with_reducible first | exact c_l00In _ _ _) ?_ | refine callM_flat (by with_reducible first | exact c_l00In _ _ _) rfl ?_ | refine callM_new (by with_reducible first | exact c_l00In _ _ _) ?_)
  simp [i2]
  (first | refine callG_r ?_ | refine callD_r ?_); simp; (first | refine callN_flat (by with_reducible first | exact c_l02Size _) rfl ?_ | refine callN_new (by with_reducible first | exact c_l02Size _) ?_ | refine callM_flat (by with_reducible first | exact c_l02Size _) rfl ?_ | refine callM_new (by with_reducible first | exact c_l02Size _) ?_)
  simp [ho, hww, hwh, hwm, hm2]
  (first | refine callG_r ?_ | refine callD_r ?_); simp; (first | refine callN_flat (by with_reducible first | exact c_l02Grid w h s g0) rfl ?_ | refine callN_new (by with_reducible first | exact c_l02Grid w h s g0) ?_ | refine callM_flat (by with_reducible first | exact c_l02Grid w h s g0) rfl ?_ | refine callM_new (by with_reducible first | exact c_l02Grid w h s g0) ?_)
  simp
  (first | refine callG_on false [1, 2] ?_ | refine callD_on false [1, 2] ?_); simp; (first | refine callN_fun (by with_reducible exact c_l02Give (gPl w h s) (gTr w h) _ _ rfl rfl (gPl_le g0) (gTr_le g0) gTr_ok) (by simp) ?_ | refine callMD_fun (by with_reducible exact c_l02Give (gPl w h s) (gTr w h) _ _ rfl rfl (gPl_le g0) (gTr_le g0) gTr_ok) (by simp) ?_)
  simp
  (refine endG_keepT [(some 1, 0), (some 2, 0)] ?_ ?_ ?_ ?_ ?_ ?_ ?_ ⟨rfl, rfl⟩ ?_ <;> simp)
end Go.Proofs.Ytbjfkhjckfodbaa
namespace Go.Proofs.Ytbjfkhjckfodbaa
set_option linter.all false
open Go Go.Awp
set_option maxRecDepth 100000
set_option maxHeartbeats 4000000
set_option pp.deepTerms true

/-- What a grid is made of. -/
def gridB (w h : Int) (s : Nat) : Bool := inB w 1 64 && inB h 1 64 && overB s && decide ((w + 1) * (h + 1) ≤ 64)
theorem inB_iff {n a b : Int} : inB n a b = true ↔ a ≤ n ∧ n ≤ b := by unfold inB; simp
theorem gridB_ok {w h : Int} {s : Nat} (hb : gridB w h s = true) : ∃ w' h' : Nat, w = w' ∧ h = h' ∧ GOk w' h' s := by
  unfold gridB at hb
  simp only [Bool.and_eq_true, decide_eq_true_eq, inB_iff] at hb
  obtain ⟨⟨⟨⟨a1, a2⟩, a3, a4⟩, a5⟩, a6⟩ := hb
  obtain ⟨w', rfl⟩ := Int.eq_ofNat_of_zero_le (show 0 ≤ w by omega)
  obtain ⟨h', rfl⟩ := Int.eq_ofNat_of_zero_le (show 0 ≤ h by omega)
  have hc : ((w' : Int) + 1) * ((h' : Int) + 1) = (((w' + 1) * (h' + 1) : Nat) : Int) := by simp
  rw [hc] at a6
  exact ⟨w', h', rfl, rfl, by omega, by omega, by omega, by omega, by omega, a5⟩
theorem c_GridMesh0 (w h : Int) (s : Nat) (hb : gridB w h s = false) : Fun Try.prog 81 [.int .i64 w, .int .i64 h, .flt .f32 s] [] (.tup [.agg [.nils, .nils], .bool false]) [] := by
  refine FnSpec.walk dr_ok Try.func81 rfl (by kernel_rfl) rfl rfl rfl (by simp) ?_
  simp
  (first | refine callG_r ?_ | refine callD_r ?_); simp; (first | refine callN_flat (by with_reducible first | exact c_within _ _ _) rfl ?_ | refine callN_new (by with_reducible first | exact c_within _ _ _) ?_ | refine callM_flat (by with_reducible first | exact c_within _ _ _) rfl ?_ | refine callM_new (by with_reducible first | exact c_within _ _ _) ?_)
  cases i1 : inB w 1 64 with
  | false => simp; (refine endG_keepT [] ?_ ?_ ?_ ?_ ?_ ?_ ?_ ⟨rfl, rfl⟩ ?_ <;> simp)
  | true =>
    simp
    (first | refine callG_r ?_ | refine callD_r ?_); simp; (first | refine callN_flat (by with_reducible first | exact c_within _ _ _) rfl ?_ | refine callN_new (by with_reducible first | exact c_within _ _ _) ?_ | refine callM_flat (by with_reducible first | exact c_within _ _ _) rfl ?_ | refine callM_new (by with_reducible first | exact c_within _ _ _) ?_)
    cases i2 : inB h 1 64 with
    | false => simp; (refine endG_keepT [] ?_ ?_ ?_ ?_ ?_ ?_ ?_ ⟨rfl, rfl⟩ ?_ <;> simp)
    | true =>
      have j1 := inB_iff.1 i1
      have j2 := inB_iff.1 i2
      obtain ⟨w', rfl⟩ := Int.eq_ofNat_of_zero_le (show 0 ≤ w by omega)
      obtain ⟨h', rfl⟩ := Int.eq_ofNat_of_zero_le (show 0 ≤ h by omega)
      have hww := nat_wrap (k := w') (by omega)
      have hwh := nat_wrap (k := h') (by omega)
      have hc : ((w' : Int) + 1) * ((h' : Int) + 1) = (((w' + 1) * (h' + 1) : Nat) : Int) := by simp
      have hcb : (w' + 1) * (h' + 1) ≤ 4225 := Nat.le_trans (Nat.mul_le_mul (show w' + 1 ≤ 65 by omega) (show h' + 1 ≤ 65 by omega)) (by decide)
      have hwm : IntKind.i64.wrap (((w' : Int) + 1) * ((h' : Int) + 1)) = ((w' : Int) + 1) * ((h' : Int) + 1) := by rw [hc]; exact wrap64 (by omega) (by omega)
      simp [hww, hwh, hwm]
      refine ⟨fun e => ?_, fun e => ?_⟩
      · (first | refine callG_r ?_ | refine callD_r ?_); simp; (first | refine callN_flat (by with_reducible first | exact c_isOver _) rfl ?_ | refine callN_new (by with_reducible first | exact c_isOver _) ?_ | refine callM_flat (by with_reducible first | exact c_isOver _) rfl ?_ | refine callM_new (by with_reducible first | exact c_isOver _) ?_)
        have ho : overB s = false := by
          cases ho : overB s with
          | false => rfl
          | true => rw [gridB, i1, i2, ho, decide_eq_true (by omega)] at hb; cases hb
        simp [ho]
        (refine endG_keepT [] ?_ ?_ ?_ ?_ ?_ ?_ ?_ ⟨rfl, rfl⟩ ?_ <;> simp)
      · (refine endG_keepT [] ?_ ?_ ?_ ?_ ?_ ?_ ?_ ⟨rfl, rfl⟩ ?_ <;> simp)
theorem c_specGridMesh0 (w h : Int) (s : Nat) (hb : gridB w h s = false) : Fun Try.prog 82 [.int .i64 w, .int .i64 h, .flt .f32 s] [] (.tup [.agg [.nils, .nils], .bool false]) [] := by
  refine FnSpec.walk dr_ok Try.func82 rfl (by kernel_rfl) rfl rfl rfl (by simp) ?_
  simp
  (first | refine callG_r ?_ | refine callD_r ?_); simp; (first | refine callN_flat (by with_reducible first | exact c_l00In _ _ _) rfl ?_ | refine callN_new (by with_reducible first | exact c_l00In _ _ _) ?_ | refine callM_flat (by with_reducible first | exact c_l00In _ _ _) rfl ?_ | refine callM_new (by with_reducible first | exact c_l00In _ _ _) ?_)
  cases i1 : inB w 1 64 with
  | false => simp; (refine endG_keepT [] ?_ ?_ ?_ ?_ ?_ ?_ ?_ ⟨rfl, rfl⟩ ?_ <;> simp)
  | true =>
    simp
    (first | refine callG_r ?_ | refine callD_r ?_); simp; (first | refine callN_flat (by with_reducible first | exact c_l00In _ _ _) rfl ?_ | refine callN_new (by with_reducible first | exact c_l00In _ _ _) ?_ | refine callM_flat (by with_reducible first | exact c_l00In _ _ _) rfl ?_ | refine callM_new (by with_reducible first | exact c_l00In _ _ _) ?_)
    cases i2 : inB h 1 64 with
    | false => simp; (refine endG_keepT [] ?_ ?_ ?_ ?_ ?_ ?_ ?_ ⟨rfl, rfl⟩ ?_ <;> simp)
    | true =>
      simp
      (first | refine callG_r ?_ | refine callD_r ?_); simp; (first | refine callN_flat (by with_reducible first | exact c_l02Size _) rfl ?_ | refine callN_new (by with_reducible first | exact c_l02Size _) ?_ | refine callM_flat (by with_reducible first | exact c_l02Size _) rfl ?_ | refine callM_new (by with_reducible first | exact c_l02Size _) ?_)
      cases ho : overB s with
      | false => simp; (refine endG_keepT [] ?_ ?_ ?_ ?_ ?_ ?_ ?_ ⟨rfl, rfl⟩ ?_ <;> simp)
      | true =>
        have j1 := inB_iff.1 i1
        have j2 := inB_iff.1 i2
        obtain ⟨w', rfl⟩ := Int.eq_ofNat_of_zero_le (show 0 ≤ w by omega)
        obtain ⟨h', rfl⟩ := Int.eq_ofNat_of_zero_le (show 0 ≤ h by omega)
        have hww := nat_wrap (k := w') (by omega)
        have hwh := nat_wrap (k := h') (by omega)
        have hc : ((w' : Int) + 1) * ((h' : Int) + 1) = (((w' + 1) * (h' + 1) : Nat) : Int) := by simp
        have hcb : (w' + 1) * (h' + 1) ≤ 4225 := Nat.le_trans (Nat.mul_le_mul (show w' + 1 ≤ 65 by omega) (show h' + 1 ≤ 65 by omega)) (by decide)
        have hwm : IntKind.i64.wrap (((w' : Int) + 1) * ((h' : Int) + 1)) = ((w' : Int) + 1) * ((h' : Int) + 1) := by rw [hc]; exact wrap64 (by omega) (by omega)
        have hlt : (64 : Int) < ((w' : Int) + 1) * ((h' : Int) + 1) := by
          by_cases c : ((w' : Int) + 1) * ((h' : Int) + 1) ≤ 64
          · rw [gridB, i1, i2, ho, decide_eq_true c] at hb; cases hb
          · omega
        simp [hww, hwh, hwm, hlt]
        (refine endG_keepT [] ?_ ?_ ?_ ?_ ?_ ?_ ?_ ⟨rfl, rfl⟩ ?_ <;> simp)
/-- The threads of a grid. -/
def thF (w h s y x : Nat) : List Th := (if x < w then [(ixF w y x, ixF w y x + 1, s)] else []) ++ (if y < h then [(ixF w y x, ixF w y x + w + 1, s)] else [])
theorem thF_le (w h s y x : Nat) : (thF w h s y x).length ≤ 2 := by
  unfold thF
  split <;> split <;> simp
abbrev gTh (w h s : Nat) : List Th := gr (thF w h s) (w + 1) (h + 1) 0
def gridC (w h s : Nat) : Clo := ⟨gPl w h s, gPl w h s, gTh w h s, []⟩
theorem gTh_le {w h s : Nat} (g : GOk w h s) : (gTh w h s).length ≤ 128 := by
  have h1 := gr_le (w + 1) (h + 1) 0 (thF_le w h s)
  have h2 := g.m
  have h3 : (h + 1) * ((w + 1) * 2) = (w + 1) * (h + 1) * 2 := by rw [← Nat.mul_assoc, Nat.mul_comm (h + 1)]
  show (gr (thF w h s) (w + 1) (h + 1) 0).length ≤ 128
  omega
theorem gridC_small {w h s : Nat} (g : GOk w h s) : (gridC w h s).Small := by
  have h1 := gPl_le g
  have h2 := gTh_le g
  exact ⟨Nat.le_trans h1 (by decide), Nat.le_trans h1 (by decide), Nat.le_trans h2 (by decide), Nat.zero_le _⟩
theorem thr_ok {n a b : Nat} {s : Nat} (h1 : a < n) (h2 : b < n) (h3 : a ≠ b) (h4 : overB s = true) : thrB n ((a : Int), (b : Int), s) = true := by
  unfold thrB
  simp only [inB_nat h1, inB_nat h2, h4]
  simp; omega
theorem gridC_vld {w h s : Nat} (g : GOk w h s) : vldC (gridC w h s) = true := by
  have h1 := gPl_le g
  have h2 := gTh_le g
  unfold vldC gridC
  dsimp only
  rw [decide_eq_true h1, decide_eq_true rfl, decide_eq_true (by omega : (gTh w h s).length ≤ 256)]
  simp only [Bool.true_and, Bool.and_eq_true]
  refine ⟨List.all_eq_true.2 fun t ht => ?_, rfl⟩
  obtain ⟨j, i, hj, hi, hm⟩ := gr_mem ht
  rw [gPl_length]
  simp only [thF, ixF_nat, List.mem_append] at hm
  have key : ∀ y, y ≤ h → i + (w + 1) * y < (h + 1) * (w + 1) := fun y hy => by
    have h3 : (w + 1) * (y + 1) ≤ (w + 1) * (h + 1) := Nat.mul_le_mul_left _ (by omega)
    rw [Nat.mul_add] at h3
    rw [Nat.mul_comm (h + 1)]; omega
  rcases hm with hm | hm
  · split at hm
    · rename_i c
      obtain rfl := List.mem_singleton.1 hm
      have h4 : i + (w + 1) * j + 1 < (h + 1) * (w + 1) := by
        have h3 : (w + 1) * (j + 1) ≤ (w + 1) * (h + 1) := Nat.mul_le_mul_left _ (by omega)
        rw [Nat.mul_add] at h3
        rw [Nat.mul_comm (h + 1)]; omega
      exact thr_ok (b := i + (w + 1) * j + 1) (by omega) h4 (by omega) g.o
    · cases hm
  · split at hm
    · rename_i c
      obtain rfl := List.mem_singleton.1 hm
      have h4 := ix_lt (w := w) c (show i ≤ w by omega)
      exact thr_ok (b := i + (w + 1) * j + w + 1) (by omega) h4 (by omega) g.o
    · cases hm
theorem take_push {α : Type} (l : List α) (a : α) : (l ++ [a]).take (l.length + 1) = l ++ [a] := by simp [List.take_of_length_le]
abbrev cHeap (L : List V) (T : List Th) : Heap := [.blk true true 28 [.nils, .nils, .nils, .nils], .blk true false 38 (cVs L), .blk true false 38 (cVs L), .blk true false 33 (cTs T), .blk true false 2 [],
  .blk true true 28 [.slc 1 0 L.length 3, .slc 2 0 L.length 3, .slc 3 0 T.length 3, .slc 4 0 0 1]]
attribute [simp] cHeap
theorem c_GridCloth (w h s : Nat) (g : GOk w h s) : Fun Try.prog 43 [.int .i64 w, .int .i64 h, .flt .f32 s] [] (.tup [(gridC w h s).own 0, .bool true]) (gridC w h s).mem := by
  have g0 := g
  obtain ⟨w1, w2, h1, h2, hm, ho⟩ := g
  have hp := gPl_le g0
  have hww := nat_wrap (k := w) (by omega)
  have hwh := nat_wrap (k := h) (by omega)
  refine FnSpec.walk dr_ok Try.func43 rfl (by kernel_rfl) rfl rfl rfl (by simp) ?_
  simp
  (first | refine callG_r ?_ | refine callD_r ?_); simp; (first | refine callN_flat (by with_reducible first | exact c_GridMesh w h s g0) rfl ?_ | refine callN_new (by with_reducible first | exact c_GridMesh w h s g0) ?_ | refine callM_flat (by with_reducible first | exact c_GridMesh w h s g0) rfl ?_ | refine callM_new (by with_reducible first | exact c_GridMesh w h s g0) ?_)
  simp [hwh]
  refine ⟨by omega, by omega, ?_⟩
  refine loopG_of (α := Nat) (fun y => y ≤ h + 1) (fun y => h + 1 - y) (fun y => [(33, .int .i64 y), (32, .int .i64 ((h : Int) + 1)), (10, .ptr 5 0), (6, .ptr 0 0), (0, .int .i64 w), (1, .int .i64 h), (2, .flt .f32 s)])
    (fun y => cHeap (gPl w h s) (gr (thF w h s) (w + 1) y 0)) 0 (by simp) ?_ fun y hy => ?_
  · (refine weak_gc [(some 0, 0), (some 1, 0), (some 4, 0), (none, 33), (none, 2), (some 5, 0)] ?_ ?_ ?_ ?_ ?_ <;> simp [gr_zero])
  have hwy := nat_wrap (k := y) (by omega)
  by_cases b : y < h + 1
  · have b' : (y : Int) < h + 1 := by omega
    simp [b', hwy, hww]
    refine loopG_of (α := Nat) (fun x => x ≤ w + 1) (fun x => w + 1 - x) (fun x => [(38, .int .i64 x), (37, .int .i64 ((w : Int) + 1)), (11, .int .i64 y), (33, .int .i64 y), (32, .int .i64 ((h : Int) + 1)), (10, .ptr 5 0), (6, .ptr 0 0), (0, .int .i64 w), (1, .int .i64 h), (2, .flt .f32 s)])
      (fun x => cHeap (gPl w h s) (gr (thF w h s) (w + 1) y x)) 0 (by simp) ?_ fun x hx => ?_
    · (refine weak_gc [(some 0, 0), (some 1, 0), (some 2, 0), (some 3, 0), (some 4, 0), (some 5, 0)] ?_ ?_ ?_ ?_ ?_ <;> simp)
    have hwx := nat_wrap (k := x) (by omega)
    by_cases b2 : x < w + 1
    · have b2' : (x : Int) < w + 1 := by omega
      have hl : (gr (thF w h s) (w + 1) y x).length ≤ y * ((w + 1) * 2) + x * 2 := gr_le _ _ _ (thF_le w h s)
      have hl2 : y * ((w + 1) * 2) ≤ 8450 := Nat.le_trans (Nat.mul_le_mul (show y ≤ 65 by omega) (show (w + 1) * 2 ≤ 130 by omega)) (by decide)
      have hst := gr_step (thF w h s) (w + 1) y x
      have hP := mul_small (w := w) (y := y) w2 (by omega)
      have hp : ((w : Int) + 1) * (y : Int) = (((w + 1) * y : Nat) : Int) := by simp
      have hA : IntKind.i64.wrap (((w : Int) + 1) * (y : Int)) = ((w : Int) + 1) * (y : Int) := by rw [hp]; exact wrap64 (by omega) (by omega)
      have hB : IntKind.i64.wrap ((x : Int) + ((w : Int) + 1) * (y : Int)) = ixF w y x := by unfold ixF; rw [hp]; exact wrap64 (by omega) (by omega)
      have hix : ixF w y x = ((x + (w + 1) * y : Nat) : Int) := ixF_nat _ _ _
      have hC : IntKind.i64.wrap (ixF w y x + w) = ixF w y x + w := by rw [hix]; exact wrap64 (by omega) (by omega)
      have hD : IntKind.i64.wrap (ixF w y x + w + 1) = ixF w y x + w + 1 := by rw [hix]; exact wrap64 (by omega) (by omega)
      have hE : IntKind.i64.wrap (ixF w y x + 1) = ixF w y x + 1 := by rw [hix]; exact wrap64 (by omega) (by omega)
      by_cases c1 : x < w
      · have c1' : (x : Int) < w := by omega
        by_cases c2 : y < h
        · have c2' : (y : Int) < h := by omega
          rw [thF, if_pos c1, if_pos c2] at hst
          simp [b2', c1, c1', c2, c2', hwx, hww, hA, hB, hC, hD, hE, one_splice, one_take, take_push]
          refine ⟨by omega, by omega, by omega, by omega, by omega, loopK_next (x + 1) (by omega) (by omega) ?_⟩
          (refine weak_gc [(some 0, 0), (some 1, 0), (some 2, 0), (some 9, 0), (some 4, 0), (some 5, 0)] ?_ ?_ ?_ ?_ ?_ <;> simp [hst])
        · have c2' : ¬ (y : Int) < h := by omega
          rw [thF, if_pos c1, if_neg c2] at hst
          simp [b2', c1, c1', c2, c2', hwx, hww, hA, hB, hC, hD, hE, one_splice, one_take]
          refine ⟨by omega, by omega, loopK_next (x + 1) (by omega) (by omega) ?_⟩
          (refine weak_gc [(some 0, 0), (some 1, 0), (some 2, 0), (some 7, 0), (some 4, 0), (some 5, 0)] ?_ ?_ ?_ ?_ ?_ <;> simp [hst])
      · have c1' : ¬ (x : Int) < w := by omega
        by_cases c2 : y < h
        · have c2' : (y : Int) < h := by omega
          rw [thF, if_neg c1, if_pos c2] at hst
          simp [b2', c1, c1', c2, c2', hwx, hww, hA, hB, hC, hD, hE, one_splice, one_take]
          refine ⟨by omega, by omega, loopK_next (x + 1) (by omega) (by omega) ?_⟩
          (refine weak_gc [(some 0, 0), (some 1, 0), (some 2, 0), (some 7, 0), (some 4, 0), (some 5, 0)] ?_ ?_ ?_ ?_ ?_ <;> simp [hst])
        · have c2' : ¬ (y : Int) < h := by omega
          rw [thF, if_neg c1, if_neg c2] at hst
          simp [b2', c1, c1', c2, c2', hwx, hww, hA, hB, hC, hD, hE, one_splice, one_take]
          refine loopK_next (x + 1) (by omega) (by omega) ?_
          (refine weak_gc [(some 0, 0), (some 1, 0), (some 2, 0), (some 3, 0), (some 4, 0), (some 5, 0)] ?_ ?_ ?_ ?_ ?_ <;> simp [hst])
    · obtain rfl : x = w + 1 := by omega
      simp [hwy]
      refine loopK_next (y + 1) (by omega) (by omega) ?_
      rw [gr_row]
      (refine weak_gc [(some 0, 0), (some 1, 0), (some 2, 0), (some 3, 0), (some 4, 0), (some 5, 0)] ?_ ?_ ?_ ?_ ?_ <;> simp)
  · obtain rfl : y = h + 1 := by omega
    simp
    have kv := c_validCloth (gridC w h s) (gridC_small g0) (gridC_vld g0)
    simp only [gridC, Clo.own, Clo.rows, List.length_nil, cIs_nil] at kv
    (first | refine callG_on true [1, 2, 3, 4] ?_ | refine callD_on true [1, 2, 3, 4] ?_); simp; (first | refine callN_fun (by with_reducible exact kv) (by simp) ?_ | refine callMD_fun (by with_reducible exact kv) (by simp) ?_)
    simp
    (refine endG_keepT [(some 1, 0), (some 2, 0), (some 3, 0), (some 4, 0)] ?_ ?_ ?_ ?_ ?_ ?_ ?_ ⟨rfl, rfl⟩ ?_ <;> simp [gridC])
theorem c_specGridCloth (w h s : Nat) (g : GOk w h s) : Fun Try.prog 45 [.int .i64 w, .int .i64 h, .flt .f32 s] [] (.tup [(gridC w h s).own 0, .bool true]) (gridC w h s).mem := by
  have g0 := g
  obtain ⟨w1, w2, h1, h2, hm, ho⟩ := g
  have hp := gPl_le g0
  have hww := nat_wrap (k := w) (by omega)
  have hwh := nat_wrap (k := h) (by omega)
  refine FnSpec.walk dr_ok Try.func45 rfl (by kernel_rfl) rfl rfl rfl (by simp) ?_
  simp
  (first | refine callG_r ?_ | refine callD_r ?_); simp; (first | refine callN_flat (by with_reducible first | exact c_specGridMesh w h s g0) rfl ?_ | refine callN_new (by with_reducible first | exact c_specGridMesh w h s g0) ?_ | refine callM_flat (by with_reducible first | exact c_specGridMesh w h s g0) rfl ?_ | refine callM_new (by with_reducible first | exact c_specGridMesh w h s g0) ?_)
  simp [hwh]
  refine ⟨by omega, by omega, ?_⟩
  refine loopG_of (α := Nat) (fun y => y ≤ h + 1) (fun y => h + 1 - y) (fun y => [(11, .int .i64 y), (10, .ptr 5 0), (6, .ptr 0 0), (0, .int .i64 w), (1, .int .i64 h), (2, .flt .f32 s)])
    (fun y => cHeap (gPl w h s) (gr (thF w h s) (w + 1) y 0)) 0 (by simp) ?_ fun y hy => ?_
  · (refine weak_gc [(some 0, 0), (some 1, 0), (some 5, 0), (none, 33), (none, 2), (some 4, 0)] ?_ ?_ ?_ ?_ ?_ <;> simp [gr_zero])
  have hwy := nat_wrap (k := y) (by omega)
  by_cases b : y < h + 1
  · have b' : (y : Int) ≤ h := by omega
    have b'' : y ≤ h := by omega
    simp [b', b'', hwy, hww]
    refine loopG_of (α := Nat) (fun x => x ≤ w + 1) (fun x => w + 1 - x) (fun x => [(12, .int .i64 x), (11, .int .i64 y), (10, .ptr 5 0), (6, .ptr 0 0), (0, .int .i64 w), (1, .int .i64 h), (2, .flt .f32 s)])
      (fun x => cHeap (gPl w h s) (gr (thF w h s) (w + 1) y x)) 0 (by simp) ?_ fun x hx => ?_
    · (refine weak_gc [(some 0, 0), (some 1, 0), (some 2, 0), (some 3, 0), (some 4, 0), (some 5, 0)] ?_ ?_ ?_ ?_ ?_ <;> simp)
    have hwx := nat_wrap (k := x) (by omega)
    by_cases b2 : x < w + 1
    · have b2' : (x : Int) ≤ w := by omega
      have b2'' : x ≤ w := by omega
      have hl : (gr (thF w h s) (w + 1) y x).length ≤ y * ((w + 1) * 2) + x * 2 := gr_le _ _ _ (thF_le w h s)
      have hl2 : y * ((w + 1) * 2) ≤ 8450 := Nat.le_trans (Nat.mul_le_mul (show y ≤ 65 by omega) (show (w + 1) * 2 ≤ 130 by omega)) (by decide)
      have hst := gr_step (thF w h s) (w + 1) y x
      have hP := mul_small (w := w) (y := y) w2 (by omega)
      have hp : ((w : Int) + 1) * (y : Int) = (((w + 1) * y : Nat) : Int) := by simp
      have hA : IntKind.i64.wrap (((w : Int) + 1) * (y : Int)) = ((w : Int) + 1) * (y : Int) := by rw [hp]; exact wrap64 (by omega) (by omega)
      have hB : IntKind.i64.wrap ((x : Int) + ((w : Int) + 1) * (y : Int)) = ixF w y x := by unfold ixF; rw [hp]; exact wrap64 (by omega) (by omega)
      have hix : ixF w y x = ((x + (w + 1) * y : Nat) : Int) := ixF_nat _ _ _
      have hC : IntKind.i64.wrap (ixF w y x + w) = ixF w y x + w := by rw [hix]; exact wrap64 (by omega) (by omega)
      have hD : IntKind.i64.wrap (ixF w y x + w + 1) = ixF w y x + w + 1 := by rw [hix]; exact wrap64 (by omega) (by omega)
      have hE : IntKind.i64.wrap (ixF w y x + 1) = ixF w y x + 1 := by rw [hix]; exact wrap64 (by omega) (by omega)
      by_cases c1 : x < w
      · have c1' : (x : Int) < w := by omega
        by_cases c2 : y < h
        · have c2' : (y : Int) < h := by omega
          rw [thF, if_pos c1, if_pos c2] at hst
          simp [b2', b2'', c1, c1', c2, c2', hwx, hww, hA, hB, hC, hD, hE, one_splice, one_take, take_push]
          refine ⟨by omega, by omega, by omega, by omega, by omega, loopK_next (x + 1) (by omega) (by omega) ?_⟩
          (refine weak_gc [(some 0, 0), (some 1, 0), (some 2, 0), (some 9, 0), (some 4, 0), (some 5, 0)] ?_ ?_ ?_ ?_ ?_ <;> simp [hst])
        · have c2' : ¬ (y : Int) < h := by omega
          rw [thF, if_pos c1, if_neg c2] at hst
          simp [b2', b2'', c1, c1', c2, c2', hwx, hww, hA, hB, hC, hD, hE, one_splice, one_take]
          refine ⟨by omega, by omega, loopK_next (x + 1) (by omega) (by omega) ?_⟩
          (refine weak_gc [(some 0, 0), (some 1, 0), (some 2, 0), (some 7, 0), (some 4, 0), (some 5, 0)] ?_ ?_ ?_ ?_ ?_ <;> simp [hst])
      · have c1' : ¬ (x : Int) < w := by omega
        by_cases c2 : y < h
        · have c2' : (y : Int) < h := by omega
          rw [thF, if_neg c1, if_pos c2] at hst
          simp [b2', b2'', c1, c1', c2, c2', hwx, hww, hA, hB, hC, hD, hE, one_splice, one_take]
          refine ⟨by omega, by omega, loopK_next (x + 1) (by omega) (by omega) ?_⟩
          (refine weak_gc [(some 0, 0), (some 1, 0), (some 2, 0), (some 7, 0), (some 4, 0), (some 5, 0)] ?_ ?_ ?_ ?_ ?_ <;> simp [hst])
        · have c2' : ¬ (y : Int) < h := by omega
          rw [thF, if_neg c1, if_neg c2] at hst
          simp [b2', b2'', c1, c1', c2, c2', hwx, hww, hA, hB, hC, hD, hE, one_splice, one_take]
          refine loopK_next (x + 1) (by omega) (by omega) ?_
          (refine weak_gc [(some 0, 0), (some 1, 0), (some 2, 0), (some 3, 0), (some 4, 0), (some 5, 0)] ?_ ?_ ?_ ?_ ?_ <;> simp [hst])
    · obtain rfl : x = w + 1 := by omega
      have b2' : ¬ ((w : Int) + 1 ≤ w) := by omega
      simp [hwy, b2']
      refine loopK_next (y + 1) (by omega) (by omega) ?_
      rw [gr_row]
      (refine weak_gc [(some 0, 0), (some 1, 0), (some 2, 0), (some 3, 0), (some 4, 0), (some 5, 0)] ?_ ?_ ?_ ?_ ?_ <;> simp)
  · obtain rfl : y = h + 1 := by omega
    have b' : ¬ ((h : Int) + 1 ≤ h) := by omega
    simp [b']
    (refine endG_keepT [(some 1, 0), (some 2, 0), (some 3, 0), (some 4, 0)] ?_ ?_ ?_ ?_ ?_ ?_ ?_ ⟨rfl, rfl⟩ ?_ <;> simp [gridC])
theorem c_GridCloth0 (w h : Int) (s : Nat) (hb : gridB w h s = false) : Fun Try.prog 43 [.int .i64 w, .int .i64 h, .flt .f32 s] [] (.tup [noC, .bool false]) [] := by
  refine FnSpec.walk dr_ok Try.func43 rfl (by kernel_rfl) rfl rfl rfl (by simp) ?_
  simp
  (first | refine callG_r ?_ | refine callD_r ?_); simp; (first | refine callN_flat (by with_reducible first | exact c_GridMesh0 w h s hb) rfl ?_ | refine callN_new (by with_reducible first | exact c_GridMesh0 w h s hb) ?_ | refine callM_flat (by with_reducible first | exact c_GridMesh0 w h s hb) rfl ?_ | refine callM_new (by with_reducible first | exact c_GridMesh0 w h s hb) ?_)
  simp
  (refine endG_keepT [] ?_ ?_ ?_ ?_ ?_ ?_ ?_ ⟨rfl, rfl⟩ ?_ <;> simp [noC])
theorem c_specGridCloth0 (w h : Int) (s : Nat) (hb : gridB w h s = false) : Fun Try.prog 45 [.int .i64 w, .int .i64 h, .flt .f32 s] [] (.tup [noC, .bool false]) [] := by
  refine FnSpec.walk dr_ok Try.func45 rfl (by kernel_rfl) rfl rfl rfl (by simp) ?_
  simp
  (first | refine callG_r ?_ | refine callD_r ?_); simp; (first | refine callN_flat (by with_reducible first | exact c_specGridMesh0 w h s hb) rfl ?_ | refine callN_new (by with_reducible first | exact c_specGridMesh0 w h s hb) ?_ | refine callM_flat (by with_reducible first | exact c_specGridMesh0 w h s hb) rfl ?_ | refine callM_new (by with_reducible first | exact c_specGridMesh0 w h s hb) ?_)
  simp
  (refine endG_keepT [] ?_ ?_ ?_ ?_ ?_ ?_ ?_ ⟨rfl, rfl⟩ ?_ <;> simp [noC])
end Go.Proofs.Ytbjfkhjckfodbaa
