/- Rows of rows in memory of the call's own. Rows of rows that a law marks. Rows of rows that are handed on to be marked. The law of cloths of meshes.
Conditions: none. -/
import Derived.Test.YtnpflgeenecaeaaV1
import Derived.Test.YtnpflgeenecaeaaV3
import Derived.Test.YtnpflgeenecaeaaL3
import Derived.Test.YtnpflgeenecaeaaV0
import Derived.Test.YtnpflgeenecaeaaV4
import Derived.Test.YtnpflgeenecaeaaL4
namespace Go.Proofs.Ytnpflgeenecaeaa
set_option linter.all false
open Go Go.Awp
set_option maxRecDepth 100000
set_option maxHeartbeats 4000000
set_option pp.deepTerms true

theorem newB_num {l : List AV} (h : l.all AV.num = true) : ∀ x ∈ l, x.newB = true := by
  intro x hx
  have := List.all_eq_true.1 h x hx
  cases x <;> first | (cases this; done) | rfl
/-- Rows whose roots are numbered from b on. -/
def nestC : Nat → List (List Int) → List AV
  | _, [] => []
  | b, t :: T => .slc b 0 t.length 1 :: nestC (b + 1) T
def nestR (T : List (List Int)) : Heap := T.map fun t => .blk true false 2 (cIs t)
@[simp] theorem nestR_length (T : List (List Int)) : (nestR T).length = T.length := by simp [nestR]
@[simp] theorem nestC_length : ∀ (b : Nat) (T : List (List Int)), (nestC b T).length = T.length
  | _, [] => rfl
  | b, _ :: T => by simp [nestC, nestC_length (b + 1) T]
theorem nestC_append : ∀ (b : Nat) (T T' : List (List Int)), nestC b (T ++ T') = nestC b T ++ nestC (b + T.length) T'
  | b, [], T' => by simp [nestC]
  | b, t :: T, T' => by
    simp only [List.cons_append, nestC, nestC_append (b + 1) T T', List.length_cons]
    rw [show b + 1 + T.length = b + (T.length + 1) by omega]
theorem nestC_ren {f : Nat → Nat} : ∀ {T : List (List Int)} {b b' : Nat}, (∀ i, i < T.length → f (b + i) = b' + i) → (nestC b T).map (AV.ren f) = nestC b' T
  | [], _, _, _ => rfl
  | t :: T, b, b', h => by
    have h0 := h 0 (by simp)
    have := nestC_ren (f := f) (T := T) (b := b + 1) (b' := b' + 1) fun i hi => by
      have := h (i + 1) (by simpa using hi)
      rw [show b + (i + 1) = b + 1 + i by omega] at this
      omega
    simp only [nestC, List.map_cons, this, AV.ren]
    rw [show f b = b' by simpa using h0]
theorem nestC_get : ∀ {T : List (List Int)} {b i : Nat} (h : i < T.length), (nestC b T)[i]? = some (.slc (b + i) 0 T[i].length 1)
  | t :: T, b, 0, _ => by simp [nestC]
  | t :: T, b, i + 1, h => by
    have := nestC_get (T := T) (b := b + 1) (i := i) (by simpa using h)
    simp only [nestC, List.getElem?_cons_succ, this, List.getElem_cons_succ]
    rw [show b + 1 + i = b + (i + 1) by omega]
theorem nestR_ren (f : Nat → Nat) (T : List (List Int)) : (nestR T).map (Root.ren f) = nestR T := by
  unfold nestR
  rw [List.map_map]
  exact List.map_congr_left fun t _ => rfl
theorem nestC_new : ∀ (b : Nat) (T : List (List Int)), ∀ a ∈ nestC b T, a.newB = true
  | _, [], a, h => by simp [nestC] at h
  | b, t :: T, a, h => by
    rcases List.mem_cons.1 h with rfl | h
    · rfl
    · exact nestC_new (b + 1) T a h
theorem nestR_new (T : List (List Int)) : ∀ r ∈ nestR T, Root.newB r = true := by
  intro r hr
  obtain ⟨t, _, rfl⟩ := List.mem_map.1 hr
  simp only [newB_blk, Bool.true_and, List.all_eq_true]
  intro a ha
  obtain ⟨n, _, rfl⟩ := List.mem_map.1 ha
  rfl
theorem nestH_new (b : Nat) (T : List (List Int)) : ∀ r ∈ (Root.blk true true 24 (nestC b T) :: nestR T), Root.newB r = true := by
  intro r hr
  rcases List.mem_cons.1 hr with rfl | hr
  · simp only [newB_blk, Bool.true_and, List.all_eq_true]
    exact nestC_new b T
  · exact nestR_new T r hr
/-- An end at which the first d roots are forgotten. -/
theorem endG_drop {P : Program} {rs : List ResultVar} {R : AV → Heap → Prop} {s : List AV} {H pre H0 : Heap} {av : AV} (N : Nat) (hN : H0.length = N) (hH : H = pre ++ H0.map (Root.ren fun r => pre.length + min r N))
    (hr : resL P s H rs fun l => resOne l = av.ren fun r => pre.length + min r N) (h1 : av.newB = true) (h2 : ∀ r ∈ H0, Root.newB r = true) (h3 : R av H0) : endG P rs [] R s H := by
  subst hN
  unfold endG
  refine resL_mono rs (fun l hl => ?_) hr
  have hlen : H.length = pre.length + H0.length := by rw [hH]; simp
  have hf : oldN ([] : Heap).length H.length ((List.range H0.length).map fun i => some (pre.length + i)) = fun r => pre.length + min r H0.length := by
    funext r
    unfold oldN
    rw [if_neg (by simp), List.length_nil, Nat.sub_zero, List.getElem?_map]
    by_cases c : r < H0.length
    · rw [List.getElem?_range c]; simp; omega
    · rw [List.getElem?_eq_none (by simpa using c)]; simp; omega
  refine ⟨(List.range H0.length).map fun i => some (pre.length + i), av, H0, ⟨by simp, Nat.zero_le _, ?_, fun k r hk => ?_, ?_, fun r new box e cells hr0 => .inr ?_⟩, new_newB av h1, fun k new box e cells _ hx => ?_, fun r hr => by simp at hr, h3⟩
  · rw [List.filterMap_map]
    have : (List.range H0.length).filterMap (id ∘ fun i => some (pre.length + i)) = (List.range H0.length).map fun i => pre.length + i := by
      rw [← List.filterMap_eq_map]; rfl
    rw [this]
    unfold List.Nodup
    rw [List.pairwise_map]
    exact (List.nodup_range (n := H0.length)).imp fun h e => h (by omega)
  · rw [List.getElem?_map] at hk
    by_cases c : k < H0.length
    · rw [List.getElem?_range c] at hk
      simp at hk
      exact ⟨Nat.zero_le _, by omega⟩
    · rw [List.getElem?_eq_none (by simpa using c)] at hk; cases hk
  · rw [hf]; exact ⟨.inr (.inl hl), trivial⟩
  · have hlt := (List.getElem?_eq_some_iff.1 hr0).1
    rw [hf]
    have e1 : H[pre.length + min r H0.length]? = some (Root.ren (fun r => pre.length + min r H0.length) (.blk new box e cells)) := by
      rw [Nat.min_eq_left (by omega), hH, List.getElem?_append_right (by omega), Nat.add_sub_cancel_left, List.getElem?_map, hr0]; rfl
    cases box with
    | false => exact ⟨cells, e1, fun _ => rfl, fun h => by cases h⟩
    | true =>
      refine ⟨cells.map (AV.ren fun r => pre.length + min r H0.length), e1, (fun h => by cases h), fun _ => ?_⟩
      clear e1 hr0
      induction cells with
      | nil => trivial
      | cons a l ih => exact ⟨.inr (.inl rfl), ih⟩
  · have := h2 _ (List.mem_of_getElem? hx)
    simp only [newB_blk, Bool.and_eq_true, List.all_eq_true] at this
    exact ⟨this.1, fun a ha => new_newB a (this.2 a ha)⟩
theorem endG_drop3 {P : Program} {rs : List ResultVar} {R : AV → Heap → Prop} {s : List AV} {x y z : Root} {H1 H0 : Heap} {av : AV} (N : Nat) (hN : H0.length = N) (hH : H1 = H0.map (Root.ren fun r => 3 + min r N))
    (hr : resL P s (x :: y :: z :: H1) rs fun l => resOne l = av.ren fun r => 3 + min r N) (h1 : av.newB = true) (h2 : ∀ r ∈ H0, Root.newB r = true) (h3 : R av H0) : endG P rs [] R s (x :: y :: z :: H1) :=
  endG_drop (pre := [x, y, z]) N hN (by rw [hH]; rfl) hr h1 h2 h3
/-- Rows that are copied one by one. -/
def mixC (T : List (List Int)) (k : Nat) : List AV := nestC 1 (T.take k) ++ List.replicate (T.length - k) .nils
theorem mixC_length (T : List (List Int)) {k : Nat} (h : k ≤ T.length) : (mixC T k).length = T.length := by simp [mixC]; omega
theorem mixC_zero (T : List (List Int)) : mixC T 0 = List.replicate T.length .nils := by simp [mixC, nestC]
theorem mixC_all (T : List (List Int)) : mixC T T.length = nestC 1 T := by simp [mixC]
theorem mixC_set {T : List (List Int)} {k : Nat} (h : k < T.length) : (mixC T k).set k (.slc (k + 1) 0 T[k].length 1) = mixC T (k + 1) := by
  have e2 : (nestC 1 (T.take k)).length = k := by simp; omega
  unfold mixC
  rw [List.set_append, if_neg (by omega), e2, Nat.sub_self]
  obtain ⟨m, hm⟩ : ∃ m, T.length - k = m + 1 := ⟨T.length - k - 1, by omega⟩
  have e3 : (T.take k).length = k := by simp; omega
  rw [hm, List.replicate_succ, List.set_cons_zero, show T.length - (k + 1) = m by omega, List.take_succ_eq_append_getElem h, nestC_append, List.append_assoc, e3, Nat.add_comm 1 k]
  rfl
theorem c_toSSo (T : List (List Int)) (h : RsOk T) : Fun Try.prog 50 [.view false (cRs false T) T.length] [] (.slc 0 0 T.length 1) (.blk true true 24 (nestC 1 T) :: nestR T) := by
  have h1 := h.len
  refine FnSpec.walk dr_ok Try.func50 rfl (by kernel_rfl) rfl rfl rfl (by simp) ?_
  simp
  refine ⟨by omega, by omega, ?_⟩
  refine loopG_of (α := Nat) (fun k => k ≤ T.length) (fun k => T.length - k) (fun k => [(0, .view false (cRs false T) T.length), (3, .slc 0 0 T.length 1), (4, .int .i64 k)]) (fun k => .blk true true 24 (mixC T k) :: nestR (T.take k)) 0 (by simp) (weak_UH (by rw [mixC_zero]; rfl) (by simp)) fun k hk => ?_
  have hw := nat_wrap (k := k) (by omega)
  by_cases c : k < T.length
  · have hm := mixC_length T (k := k) (by omega)
    have hR : (nestR (T.take k)).length = k := by simp; omega
    have hnx : nestR (T.take (k + 1)) = nestR (T.take k) ++ [.blk true false 2 (cIs T[k])] := by
      unfold nestR
      rw [List.take_succ_eq_append_getElem c, List.map_append]; rfl
    have hset := mixC_set c
    generalize nestR (T.take k) = RR at *
    simp [c, hw, hm]
    (first | refine callG_r ?_ | refine callD_r ?_); simp; (first | refine callN_flat (by with_reducible first | exact c_toInt64S _ (h.all _ (List.getElem_mem c))) rfl ?_ | refine callN_new (by with_reducible first | exact c_toInt64S _ (h.all _ (List.getElem_mem c))) ?_ | refine callM_flat (by with_reducible first | exact c_toInt64S _ (h.all _ (List.getElem_mem c))) rfl ?_ | refine callM_new (by with_reducible first | exact c_toInt64S _ (h.all _ (List.getElem_mem c))) ?_)
    simp [c, hw, hm]
    refine ⟨by omega, ?_⟩
    rw [splice_one (by omega), hR, hset, ← hnx]
    exact loopK_next (k + 1) (by omega) (by omega) (weak_UH rfl (by simp [hw]))
  · obtain rfl : k = T.length := by omega
    simp [mixC_all]
    refine endG_drop (pre := []) (T.length + 1) (by simp) ?_ ?_ ?_ ?_ ⟨rfl, rfl⟩
    · show _ = Root.blk true true 24 ((nestC 1 T).map _) :: (nestR T).map _
      rw [nestR_ren, nestC_ren (b' := 1) fun i hi => by simp; omega]
    · simp [AV.ren]
    · rfl
    · exact nestH_new 1 T
/-- A mesh in memory of the call's own, its triangles too. -/
abbrev Msh.own2 (m : Msh) (r : Nat) : AV := .agg [.slc r 0 m.pl.length 3, .slc (r + 1) 0 m.tr.length 1]
abbrev Msh.mem2 (m : Msh) (r : Nat) : Heap := .blk true false 57 (cVs m.pl) :: .blk true true 24 (nestC (r + 2) m.tr) :: nestR m.tr
theorem c_toMesh2 (m : Msh) (h : m.Small) : Fun Try.prog 22 [m.av] [] (m.own2 0) (m.mem2 0) := by
  obtain ⟨h1, h2⟩ := h
  refine FnSpec.walk dr_ok Try.func22 rfl (by kernel_rfl) rfl rfl rfl (by simp) ?_
  simp
  (first | refine callG_r ?_ | refine callD_r ?_); simp; (first | refine callN_flat (by with_reducible first | exact c_toVectorS _ h1) rfl ?_ | refine callN_new (by with_reducible first | exact c_toVectorS _ h1) ?_ | refine callM_flat (by with_reducible first | exact c_toVectorS _ h1) rfl ?_ | refine callM_new (by with_reducible first | exact c_toVectorS _ h1) ?_)
  simp
  (first | refine callG_r ?_ | refine callD_r ?_); simp; (first | refine callN_flat (by with_reducible first | exact c_toSSo _ h2) rfl ?_ | refine callN_new (by with_reducible first | exact c_toSSo _ h2) ?_ | refine callM_flat (by with_reducible first | exact c_toSSo _ h2) rfl ?_ | refine callM_new (by with_reducible first | exact c_toSSo _ h2) ?_)
  simp
  refine endG_drop3 (m.tr.length + 2) (by simp) ?_ ?_ ?_ ?_ ⟨rfl, rfl⟩
  · show _ = Root.blk true false 57 (cVs m.pl) :: Root.blk true true 24 ((nestC 2 m.tr).map _) :: (nestR m.tr).map _
    rw [nestR_ren, nestR_ren, nestC_ren (b' := 5) fun i hi => by omega, nestC_ren (b' := 5) fun i hi => by omega]
  · simp [AV.ren]
  · rfl
  · intro r hr
    rcases List.mem_cons.1 hr with rfl | hr
    · simp only [newB_blk, Bool.true_and, List.all_eq_true]
      exact newB_num (cVs_num m.pl)
    · exact nestH_new _ m.tr r hr
end Go.Proofs.Ytnpflgeenecaeaa
namespace Go.Proofs.Ytnpflgeenecaeaa
set_option linter.all false
open Go Go.Awp
set_option maxRecDepth 100000
set_option maxHeartbeats 4000000
set_option pp.deepTerms true

def sumL : List (List Int) → Nat
  | [] => 0
  | t :: T => t.length + sumL T
theorem sumL_drop {T : List (List Int)} {i : Nat} (h : i < T.length) : sumL (T.drop i) = T[i].length + sumL (T.drop (i + 1)) := by
  rw [List.drop_eq_getElem_cons h]; rfl
theorem szRs_sum : ∀ {T : List (List Int)} {left : Int}, left ≤ 1048576 → 0 ≤ left → 0 ≤ szRs T left → (sumL T : Int) ≤ left
  | [], left, _, h0, _ => by simpa [sumL] using h0
  | t :: T, left, h, h0, hz => by
    unfold szRs at hz
    split at hz
    · omega
    · rename_i h1
      have h5 : szL t.length left = left - t.length := by unfold szL; rw [if_neg (by have := szL_ok h1; omega)]
      have := szRs_sum (T := T) (left := szL t.length left) (by omega) (by omega) hz
      simp only [sumL]
      omega
theorem szSS_sum {T : List (List Int)} {left : Int} (h : left ≤ 1048576) (h0 : 0 ≤ left) (hz : 0 ≤ szSS T left) : (sumL T : Int) ≤ left := by
  unfold szSS at hz
  split at hz
  · omega
  · have := szRs_sum (T := T) (left := left - T.length) (by omega) (by omega) hz
    omega
theorem c_markRow (l : List Int) (k : Nat) (z : Int) (hz : z = k) (h : l.length ≤ 1048576) (hk : k ≤ 1000000000) : Fun Try.prog 13 [.slc 0 0 l.length 1, .int .i64 z] [.blk false false 2 (cIs l)] (.int .i64 ((k : Int) + l.length)) [.blk false false 2 []] := by
  have h1 := c_markInt64S l l.length k z hz rfl h hk
  refine FnSpec.cut h1 fun av H' ⟨e1, e2⟩ => ⟨by rw [e1]; simp, ?_⟩
  rw [e2]
  exact cut_one (c := [])
/-- Rows that are handed on; rows of which nothing is known. -/
def nestF (T : List (List Int)) : Heap := T.map fun t => .blk false false 2 (cIs t)
def deadF (n : Nat) : Heap := List.replicate n (.blk false false 2 [])
/-- An end at which all roots are kept, none is new. -/
theorem endG_same {P : Program} {rs : List ResultVar} {R : AV → Heap → Prop} {s : List AV} {Hin H : Heap} {av : AV} (hl : H.length = Hin.length) (hb : ∀ r ∈ H, ∃ n b e c, r = Root.blk n b e c)
    (hH : ∀ r ∈ H, Root.ren (fun r => if r < H.length then r else H.length) r = r) (hr : resL P s H rs fun l => resOne l = av.ren fun r => if r < H.length then r else H.length) (h1 : av.newB = true) (h3 : R av H) : endG P rs Hin R s H := by
  unfold endG
  refine resL_mono rs (fun l hl' => ?_) hr
  have hf : oldN Hin.length H.length [] = fun r => if r < H.length then r else H.length := by
    funext r
    unfold oldN
    rw [hl]; simp
  refine ⟨[], av, H, ⟨by simp [hl], by omega, by simp, fun k r hk => by simp at hk, ?_, fun r new box e cells hr0 => .inr ?_⟩, new_newB av h1, fun k new box e cells hk hx => ?_, fun r hr0 => ?_, h3⟩
  · rw [hf]; exact ⟨.inr (.inl hl'), trivial⟩
  · have hlt := (List.getElem?_eq_some_iff.1 hr0).1
    have hm := hH _ (List.mem_of_getElem? hr0)
    rw [hf]
    refine ⟨cells, by show H[if r < H.length then r else H.length]? = _; rw [if_pos hlt]; exact hr0, fun _ => rfl, fun hbx => ?_⟩
    subst hbx
    have hm' : cells.map (AV.ren fun r => if r < H.length then r else H.length) = cells := by
      have := congrArg (fun r => match r with | Root.blk _ _ _ c => c | .gone => []) hm
      exact this
    have key : ∀ (f : Nat → Nat) (Z : Nat → Prop) (c : List AV), leL f Z (c.map (AV.ren f)) c := by
      intro f Z c
      induction c with
      | nil => trivial
      | cons a l ih => exact ⟨.inr (.inl rfl), ih⟩
    have := key (fun r => if r < H.length then r else H.length) (fun r => Hin.length ≤ r ∧ ([] : List (Option Nat))[r - Hin.length]? = some none) cells
    rw [hm'] at this
    exact this
  · have := (List.getElem?_eq_some_iff.1 hx).1
    omega
  · obtain ⟨n, b, e, c, h⟩ := hb _ (List.getElem_mem (show r < H.length by omega))
    exact ⟨n, b, e, c, by rw [List.getElem?_eq_getElem (show r < H.length by omega), h]⟩
theorem c_markSS (T : List (List Int)) (h : RsOk T) (k0 : Nat) (z : Int) (hz : z = k0) (hk : k0 + sumL T ≤ 1000000000) :
    Fun Try.prog 56 [.slc 0 0 T.length 1, .int .i64 z] (.blk false true 24 (nestC 1 T) :: nestF T) (.int .i64 ((k0 : Int) + sumL T)) (.blk false true 24 (nestC 1 T) :: deadF T.length) := by
  subst hz
  have h1 := h.len
  refine FnSpec.walk dr_ok Try.func56 rfl (by kernel_rfl) rfl rfl rfl (by simp) ?_
  simp
  refine loopG_of (α := Nat × Nat) (fun x => x.1 ≤ T.length ∧ x.2 + sumL (T.drop x.1) = k0 + sumL T) (fun x => T.length - x.1) (fun x => [(0, .slc 0 0 T.length 1), (1, .int .i64 x.2), (5, .int .i64 x.1)])
    (fun x => .blk false true 24 (nestC 1 T) :: (deadF x.1 ++ nestF (T.drop x.1))) (0, k0) ⟨by simp, by simp⟩ (weak_UH (by simp [deadF]) (by simp)) fun x ⟨hx, hs⟩ => ?_
  obtain ⟨i, k⟩ := x
  simp only at hx hs ⊢
  have hw := nat_wrap (k := i) (by omega)
  by_cases c : i < T.length
  · have hd := sumL_drop c
    have hal := h.all _ (List.getElem_mem c)
    have hg := nestC_get (b := 1) c
    have hRl : (deadF i ++ nestF (T.drop i)).length = T.length := by simp [deadF, nestF]; omega
    have hRg : (deadF i ++ nestF (T.drop i))[i]? = some (.blk false false 2 (cIs T[i])) := by
      rw [List.getElem?_append_right (by simp [deadF]), List.drop_eq_getElem_cons c, show i - (deadF i).length = 0 by simp [deadF]]; rfl
    have hnx : (deadF i ++ nestF (T.drop i)).set i (.blk false false 2 []) = deadF (i + 1) ++ nestF (T.drop (i + 1)) := by
      rw [List.set_append, if_neg (by simp [deadF]), List.drop_eq_getElem_cons c, show i - (deadF i).length = 0 by simp [deadF]]
      show deadF i ++ (.blk false false 2 [] :: nestF (T.drop (i + 1))) = _
      unfold deadF
      rw [List.replicate_succ', List.append_assoc]; rfl
    generalize deadF i ++ nestF (T.drop i) = RR at *
    have hx1 : (Root.blk false true 24 (nestC 1 T) :: RR)[1 + i]? = some (.blk false false 2 (cIs T[i])) := by
      rw [Nat.add_comm]; exact hRg
    have hg2 : (nestC 1 T)[i]'(by simpa using c) = .slc (1 + i) 0 T[i].length 1 := (List.getElem?_eq_some_iff.1 hg).2
    simp [c, hw, hg2]
    refine callG_on true [1 + i] ?_
    simp [hx1, liveB, restr, pasH]
    refine callN_fun (c_markRow _ k _ rfl hal (by omega)) (by simp) ?_
    simp [hx1, mergeH]
    have hst : (Root.blk false true 24 (nestC 1 T) :: RR).set (1 + i) (.blk false false 2 []) = .blk false true 24 (nestC 1 T) :: (deadF (i + 1) ++ nestF (T.drop (i + 1))) := by
      rw [← hnx, Nat.add_comm 1 i]; rfl
    rw [hst]
    exact loopK_next (i + 1, k + T[i].length) (by simp; omega) ⟨by simp; omega, by simp; omega⟩ (weak_UH rfl (by simp [hw]))
  · obtain rfl : i = T.length := by omega
    simp
    have e0 : nestF [] = [] := rfl
    have es : sumL [] = 0 := rfl
    rw [List.drop_length, es] at hs
    rw [e0, List.append_nil]
    refine endG_same (av := .int .i64 k) (by simp [deadF, nestF]) (fun r hr => ?_) (fun r hr => ?_) ?_ rfl ⟨by rw [show k = k0 + sumL T by omega]; simp, rfl⟩
    · rcases List.mem_cons.1 hr with rfl | hr
      · exact ⟨_, _, _, _, rfl⟩
      · exact ⟨_, _, _, _, List.eq_of_mem_replicate hr⟩
    · rcases List.mem_cons.1 hr with rfl | hr
      · show Root.blk false true 24 ((nestC 1 T).map _) = _
        rw [nestC_ren (b' := 1) fun i hi => by simp [deadF]; omega]
      · rw [List.eq_of_mem_replicate hr]; rfl
    · simp [AV.ren]
end Go.Proofs.Ytnpflgeenecaeaa
namespace Go.Proofs.Ytnpflgeenecaeaa
set_option linter.all false
open Go Go.Awp
set_option maxRecDepth 100000
set_option maxHeartbeats 4000000
set_option pp.deepTerms true

theorem posN_app : ∀ {ps : List Nat} {σ : List Nat} {i r : Nat}, r ∉ ps → posN (ps ++ σ) i r = posN σ (i + ps.length) r
  | [], σ, i, r, _ => by simp
  | p :: ps, σ, i, r, h => by
    have h1 : p ≠ r := fun e => h (by rw [e]; exact List.mem_cons_self ..)
    show (if p = r then some i else posN (ps ++ σ) (i + 1) r) = _
    rw [if_neg h1, posN_app (fun e => h (List.mem_cons_of_mem _ e)), List.length_cons, show i + 1 + ps.length = i + (ps.length + 1) by omega]
theorem posN_range : ∀ {m b i j : Nat}, i < m → posN (List.range' b m) j (b + i) = some (j + i)
  | m + 1, b, 0, j, _ => by
    rw [List.range'_succ]
    show (if b = b + 0 then some j else _) = _
    rw [if_pos (by omega)]; rfl
  | m + 1, b, i + 1, j, h => by
    rw [List.range'_succ]
    show (if b = b + (i + 1) then some j else posN (List.range' (b + 1) m) (j + 1) (b + (i + 1))) = _
    rw [if_neg (by omega), show b + (i + 1) = b + 1 + i by omega, posN_range (by omega), show j + 1 + i = j + (i + 1) by omega]
theorem nest_pass {σ : List Nat} {H : Heap} : ∀ {T : List (List Int)} {b b' : Nat}, (∀ i, i < T.length → posN σ 0 (b + i) = some (b' + i)) → (nestC b T).map (pass0 false false σ H) = nestC b' T
  | [], _, _, _ => rfl
  | t :: T, b, b', h => by
    have h0 : posN σ 0 b = some b' := by simpa using h 0 (by simp)
    have := nest_pass (σ := σ) (H := H) (T := T) (b := b + 1) (b' := b' + 1) fun i hi => by
      have := h (i + 1) (by simpa using hi)
      rw [show b + (i + 1) = b + 1 + i by omega, show b' + (i + 1) = b' + 1 + i by omega] at this
      exact this
    simp only [nestC, List.map_cons, this, pass0, h0, pasR]
theorem call_nest {P : Program} {f : FuncId} {args a' : List AV} {H : Heap} {K : AV → Heap → Prop} {ps : List Nat} {q b : Nat} {T : List (List Int)} {nw : Bool} {n : Int} {psr psr' : Heap}
    (hnd : (ps ++ q :: List.range' b T.length).Nodup) (hbox : H[q]? = some (.blk nw true 24 (nestC b T)))
    (hrow : ∀ (i : Nat) (h : i < T.length), ∃ w, H[b + i]? = some (.blk w false 2 (cIs T[i]))) (hlive : ∀ p ∈ ps, liveB H[p]? = true)
    (hps : ps.map (fun r => pasH (ps ++ q :: List.range' b T.length) H H[r]?) = psr) (hargs : args.map (passA true (ps ++ q :: List.range' b T.length) H) = a')
    (hc : Fun P f a' (psr ++ .blk false true 24 (nestC (ps.length + 1) T) :: nestF T) (.int .i64 n) (psr' ++ .blk false true 24 (nestC (ps.length + 1) T) :: deadF T.length))
    (hl : psr'.length = ps.length) (hv : psr'.all Root.noView = true)
    (hk : ∀ M : Heap, M.length = H.length → (∀ j, j ∉ ps ++ q :: List.range' b T.length → M[j]? = H[j]?) →
      (∀ (i r : Nat) x, (ps ++ q :: List.range' b T.length)[i]? = some r → (psr' ++ .blk false true 24 (nestC (ps.length + 1) T) :: deadF T.length)[i]? = some x → M[r]? = some (withNew (H.getD r .gone) (x.ren (backN (ps ++ q :: List.range' b T.length) H.length)))) → K (.int .i64 n) M) :
    @callS P f args H ⟨K⟩ trivial := by
  have hqr : ∀ i, i < T.length → b + i ∉ ps ∧ b + i ≠ q := fun i hi => by
    have hm : b + i ∈ List.range' b T.length := by rw [List.mem_range'_1]; omega
    obtain ⟨_, h2, h3⟩ := List.nodup_append.1 hnd
    exact ⟨fun e => h3 _ e _ (List.mem_cons_of_mem _ hm) rfl, fun e => (List.nodup_cons.1 h2).1 (e ▸ hm)⟩
  have hlv : (ps ++ q :: List.range' b T.length).all (fun r => liveB H[r]?) = true := by
    rw [List.all_eq_true]
    intro r hr
    rcases List.mem_append.1 hr with h | h
    · exact hlive r h
    · rcases List.mem_cons.1 h with rfl | h
      · rw [hbox]; rfl
      · rw [List.mem_range'_1] at h
        obtain ⟨w, hw⟩ := hrow (r - b) (by omega)
        rw [show b + (r - b) = r by omega] at hw
        rw [hw]; rfl
  have hpos : ∀ i, i < T.length → posN (ps ++ q :: List.range' b T.length) 0 (b + i) = some (ps.length + 1 + i) := fun i hi => by
    obtain ⟨h1, h2⟩ := hqr i hi
    rw [posN_app h1, Nat.zero_add]
    show (if q = b + i then _ else posN (List.range' b T.length) (ps.length + 1) (b + i)) = _
    rw [if_neg (fun e => h2 e.symm), posN_range hi]
  have hrs : restr (ps ++ q :: List.range' b T.length) H = psr ++ .blk false true 24 (nestC (ps.length + 1) T) :: nestF T := by
    unfold restr
    rw [List.map_append, hps, List.map_cons]
    congr 1
    congr 1
    · rw [hbox]
      show Root.blk false true 24 ((nestC b T).map _) = _
      rw [nest_pass hpos]
    · apply List.ext_getElem
      · simp [nestF]
      · intro i h1 h2
        have hi : i < T.length := by simpa using h1
        obtain ⟨w, hw⟩ := hrow i hi
        rw [List.getElem_map, List.getElem_range', Nat.one_mul, hw]
        simp only [nestF, List.getElem_map]
        show Root.blk false false 2 ((cIs T[i]).map _) = _
        rw [map_pass0_num (cIs_num _)]
  refine callG_of true (ps ++ q :: List.range' b T.length) hnd hlv ?_
  rw [hrs, hargs]
  have hlen : (psr' ++ .blk false true 24 (nestC (ps.length + 1) T) :: deadF T.length).length = (ps ++ q :: List.range' b T.length).length := by
    simp [hl, deadF]
  refine callN_fun hc (fun _ => ?_) ?_
  · rw [List.take_of_length_le (by omega), List.all_append, hv, Bool.true_and, List.all_cons, Bool.and_eq_true]
    refine ⟨?_, ?_⟩
    · show (nestC (ps.length + 1) T).all AV.noView = true
      have : ∀ (T : List (List Int)) (b : Nat), (nestC b T).all AV.noView = true := by
        intro T
        induction T with
        | nil => intro b; rfl
        | cons t T ih => intro b; simp only [nestC, List.all_cons, ih]; rfl
      exact this T _
    · rw [List.all_eq_true]
      intro r hr
      rw [List.eq_of_mem_replicate hr]; rfl
  · have e1 : mergeH (ps ++ q :: List.range' b T.length) H (psr' ++ .blk false true 24 (nestC (ps.length + 1) T) :: deadF T.length) = mergeSet (backN (ps ++ q :: List.range' b T.length) H.length) (ps ++ q :: List.range' b T.length) (psr' ++ .blk false true 24 (nestC (ps.length + 1) T) :: deadF T.length) H := by
      unfold mergeH
      rw [List.drop_of_length_le (by omega)]
      simp
    rw [e1]
    simp only [AV.ren]
    refine hk _ (mergeSet_length ..) (fun j hj => mergeSet_other _ _ _ _ _ hj) fun i r x h1 h2 => mergeSet_at _ _ _ _ _ _ _ hnd h1 h2 ?_
    have := List.all_eq_true.1 hlv r (List.mem_of_getElem? h1)
    cases hx : H[r]? with
    | none => rw [hx] at this; cases this
    | some y => exact (List.getElem?_eq_some_iff.1 hx).1
/-- An end at which new roots are forgotten. -/
theorem endG_take {P : Program} {rs : List ResultVar} {R : AV → Heap → Prop} {s : List AV} {Hin H H0 : Heap} {av : AV} (hl : H0.length = Hin.length) (hle : Hin.length ≤ H.length) (h0 : ∀ r, r < H0.length → H[r]? = H0[r]?) (hb : ∀ r ∈ H0, ∃ n b e c, r = Root.blk n b e c)
    (hH : ∀ r ∈ H0, Root.ren (fun r => if r < H0.length then r else H.length) r = r) (hr : resL P s H rs fun l => resOne l = av.ren fun r => if r < H0.length then r else H.length) (h1 : av.newB = true) (h3 : R av H0) : endG P rs Hin R s H := by
  unfold endG
  refine resL_mono rs (fun l hl' => ?_) hr
  have hf : oldN Hin.length H.length [] = fun r => if r < H0.length then r else H.length := by
    funext r
    unfold oldN
    rw [hl]; simp
  refine ⟨[], av, H0, ⟨by simp [hl], hle, by simp, fun k r hk => by simp at hk, ?_, fun r new box e cells hr0 => .inr ?_⟩, new_newB av h1, fun k new box e cells hk hx => ?_, fun r hr0 => ?_, h3⟩
  · rw [hf]; exact ⟨.inr (.inl hl'), trivial⟩
  · have hlt := (List.getElem?_eq_some_iff.1 hr0).1
    have hm := hH _ (List.mem_of_getElem? hr0)
    rw [hf]
    refine ⟨cells, by show H[if r < H0.length then r else H.length]? = _; rw [if_pos hlt, h0 r hlt]; exact hr0, fun _ => rfl, fun hbx => ?_⟩
    subst hbx
    have hm' : cells.map (AV.ren fun r => if r < H0.length then r else H.length) = cells := by
      have := congrArg (fun r => match r with | Root.blk _ _ _ c => c | .gone => []) hm
      exact this
    have key : ∀ (f : Nat → Nat) (Z : Nat → Prop) (c : List AV), leL f Z (c.map (AV.ren f)) c := by
      intro f Z c
      induction c with
      | nil => trivial
      | cons a l ih => exact ⟨.inr (.inl rfl), ih⟩
    have := key (fun r => if r < H0.length then r else H.length) (fun r => Hin.length ≤ r ∧ ([] : List (Option Nat))[r - Hin.length]? = some none) cells
    rw [hm'] at this
    exact this
  · have := (List.getElem?_eq_some_iff.1 hx).1
    omega
  · obtain ⟨n, b, e, c, h⟩ := hb _ (List.getElem_mem (show r < H0.length by omega))
    exact ⟨n, b, e, c, by rw [List.getElem?_eq_getElem (show r < H0.length by omega), h]⟩
theorem c_markMesh (m : Msh) (h : m.Small) (hs : sumL m.tr ≤ 1048576) : Fun Try.prog 25 [.agg [.slc 0 0 m.pl.length 3, .slc 1 0 m.tr.length 1], .int .i64 1] (.blk false false 57 (cVs m.pl) :: .blk false true 24 (nestC 2 m.tr) :: nestF m.tr)
    (.int .i64 ((1 + 3 * m.pl.length : Nat) + (sumL m.tr : Int))) (.blk false false 57 (cVs (markV 1 m.pl.length)) :: .blk false true 24 (nestC 2 m.tr) :: deadF m.tr.length) := by
  obtain ⟨h1, h2⟩ := h
  refine FnSpec.walk dr_ok Try.func25 rfl (by kernel_rfl) rfl rfl rfl (by simp) ?_
  have hRl : (nestF m.tr).length = m.tr.length := by simp [nestF]
  have hRg : ∀ (i : Nat) (h : i < m.tr.length), (nestF m.tr)[i]? = some (.blk false false 2 (cIs m.tr[i])) := fun i h => by simp [nestF, h]
  generalize nestF m.tr = RR at *
  simp
  (first | refine callG_on true [0] ?_ | refine callD_on true [0] ?_); simp; (first | refine callN_fun (by with_reducible exact c_markVectorS m.pl _ 1 _ (by simp) rfl h1 (by omega)) (by simp) ?_ | refine callMD_fun (by with_reducible exact c_markVectorS m.pl _ 1 _ (by simp) rfl h1 (by omega)) (by simp) ?_)
  simp
  have kS := c_markSS m.tr h2 (1 + 3 * m.pl.length) (1 + 3 * (m.pl.length : Int)) (by simp) (by omega)
  refine call_nest (ps := []) (q := 1) (b := 2) (T := m.tr) (nw := false) (psr := []) (psr' := []) ?_ rfl (fun i hi => ⟨false, ?_⟩) (by simp) rfl ?_ kS rfl rfl fun M hM1 hM2 hM3 => ?_
  · rw [List.nil_append, List.nodup_cons]
    exact ⟨by rw [List.mem_range'_1]; omega, List.nodup_range'⟩
  · rw [show 2 + i = i + 1 + 1 by omega, List.getElem?_cons_succ, List.getElem?_cons_succ, List.getElem?_append_left (by omega)]
    exact hRg i hi
  · simp [passA, pass0, pasR, posN]
  simp
  have hback : ∀ i, i < m.tr.length → backN ([] ++ 1 :: List.range' 2 m.tr.length) (RR.length + 3) (1 + i) = 2 + i := fun i hi => by
    unfold backN
    rw [if_pos (by simp; omega), List.nil_append, Nat.add_comm 1 i, List.getD_cons_succ, List.getD_eq_getElem?_getD, List.getElem?_range' hi]; simp
  have hlen : M.length = RR.length + 3 := by rw [hM1]; simp
  refine endG_take (av := .int .i64 (1 + 3 * m.pl.length + sumL m.tr)) (H0 := Root.blk false false 57 (cVs (markV 1 m.pl.length)) :: Root.blk false true 24 (nestC 2 m.tr) :: deadF m.tr.length) (by simp [deadF, hRl]) (by rw [hlen]; simp) (fun r hr => ?_) (fun r hr => ?_) (fun r hr => ?_) ?_ rfl ⟨rfl, rfl⟩
  · match r, hr with
    | 0, _ => rw [hM2 0 (by simp)]; rfl
    | 1, _ =>
      rw [hM3 0 1 _ rfl rfl]
      show some (Root.blk false true 24 ((nestC (0 + 1) m.tr).map _)) = _
      rw [nestC_ren (b' := 2) fun i hi => ?_]
      · rfl
      · have := hback i hi
        simp only [List.length_cons, List.length_append, List.length_nil] at this ⊢
        simpa using this
    | r + 2, hr =>
      have hr' : r < m.tr.length := by simpa [deadF] using hr
      have hd : (deadF m.tr.length)[r]? = some (.blk false false 2 []) := by simp [deadF, hr']
      rw [hM3 (r + 1) (r + 2) (.blk false false 2 []) (by rw [List.nil_append, List.getElem?_cons_succ, List.getElem?_range' hr']; simp; omega) (by rw [List.nil_append, List.getElem?_cons_succ]; exact hd)]
      rw [List.getElem?_cons_succ, List.getElem?_cons_succ, hd, List.getD_eq_getElem?_getD, List.getElem?_cons_succ, List.getElem?_cons_succ, List.getElem?_append_left (by omega), hRg r hr']
      rfl
  · rcases List.mem_cons.1 hr with rfl | hr
    · exact ⟨_, _, _, _, rfl⟩
    · rcases List.mem_cons.1 hr with rfl | hr
      · exact ⟨_, _, _, _, rfl⟩
      · exact ⟨_, _, _, _, List.eq_of_mem_replicate hr⟩
  · rcases List.mem_cons.1 hr with rfl | hr
    · rfl
    · rcases List.mem_cons.1 hr with rfl | hr
      · show Root.blk false true 24 ((nestC 2 m.tr).map _) = _
        rw [nestC_ren (b' := 2) fun i hi => by simp [deadF]; omega]
      · rw [List.eq_of_mem_replicate hr]; rfl
  · simp [AV.ren]
end Go.Proofs.Ytnpflgeenecaeaa
namespace Go.Proofs.Ytnpflgeenecaeaa
set_option linter.all false
open Go Go.Awp
set_option maxRecDepth 100000
set_option maxHeartbeats 4000000
set_option pp.deepTerms true

theorem szM_sum {m : Msh} (h : 0 ≤ szM m 1048576) : sumL m.tr ≤ 1048576 := by
  unfold szM thn at h
  split at h
  · omega
  · have h1 := szL_le (n := m.pl.length) (left := 1048576) (by omega)
    have := szSS_sum (T := m.tr) (left := szL m.pl.length 1048576) h1 (by omega) h
    omega
theorem nest_read {H : Heap} {T : List (List Int)} : ∀ {b : Nat}, (∀ (i : Nat) (h : i < T.length), ∃ w, H[b + i]? = some (.blk w false 2 (cIs T[i]))) → (nestC b T).map (cellB true [] H) = cRs false T := by
  induction T with
  | nil => intro b _; rfl
  | cons t T ih =>
    intro b h
    obtain ⟨w, h0⟩ := h 0 (by simp)
    have := ih (b := b + 1) fun i hi => by
      have := h (i + 1) (by simpa using hi)
      rw [show b + (i + 1) = b + 1 + i by omega] at this
      exact this
    have h0' : H[b]? = some (.blk w false 2 (cIs t)) := h0
    simp only [nestC, List.map_cons, this]
    show cellB true [] H (.slc b 0 t.length 1) :: _ = _
    simp [cellB, posN, h0', ownV]
    rfl
abbrev vE (m : Msh) : AV := .agg [.view false (cVs m.pl) m.pl.length, .view false (cVs m.pl) m.pl.length, .view false (cTs ((edS m).map (thE m))) (edS m).length, .view false [] 0]
attribute [simp] vE
theorem c_eqE (m : Msh) (hv : vldM m = true) : Fun Try.prog 11 [vE m, vE m] [] (.bool true) [] := by
  have h1 := (vldM_len hv).1
  have h2 := edS_len hv
  exact c_eqCloth m.pl m.pl ((edS m).map (thE m)) [] _ _ _ _ _ _ _ _ rfl rfl (by simp) rfl rfl rfl (by simp) rfl (by omega) (by omega) (by simp; omega) (by simp)
/-- What is marked of the cloth of a mesh, and how far. -/
def mE (m : Msh) : Clo := markC m.pl.length m.pl.length (edS m).length 0
def kE (m : Msh) : Nat := 1 + 3 * m.pl.length + 3 * m.pl.length + 3 * (edS m).length + 0
theorem c_markE (m : Msh) (hv : vldM m = true) : Fun Try.prog 12 [.agg [.slc 0 0 m.pl.length 3, .slc 1 0 m.pl.length 3, .slc 2 0 (edS m).length 3, .slc 3 0 0 1], .int .i64 1] (rowsE false m)
    (.int .i64 (kE m : Nat)) [.blk false false 57 (cVs (mE m).pl), .blk false false 57 (cVs (mE m).ol), .blk false false 77 (cTs (mE m).th), .blk false false 2 []] := by
  exact c_markCloth (cloE m) (cloE_small hv) m.pl.length m.pl.length (edS m).length 0 rfl rfl (by simp [cloE]) rfl
theorem c_heldE (m : Msh) (hv : vldM m = true) : Fun Try.prog 26 [.agg [.view false (cVs (mE m).pl) m.pl.length, .view false (cVs (mE m).ol) m.pl.length, .view false (cTs (mE m).th) (edS m).length, .view false [] 0], .int .i64 1] [] (.int .i64 (kE m : Nat)) [] := by
  have h1 := (vldM_len hv).1
  have h2 := edS_len hv
  exact c_heldCloth m.pl.length m.pl.length (edS m).length 0 (by omega) (by omega) (by omega) (by omega)
theorem law_ClothOf0 (m : Msh) (h : m.Len) (h0 : 0 ≤ szM m 1048576) (hs : m.Small) (kS : Fun Try.prog 21 [m.av] [] (.tup [noC, .bool false]) []) (kI : Fun Try.prog 23 [m.av] [] (.tup [noC, .bool false]) []) : FnSpec Try.prog 5 [m.av] [] fun av _ => av = .bool true := by
  have hsum := szM_sum h0
  refine FnSpec.walkF dr_ok Try.func5 rfl (by kernel_rfl) rfl rfl rfl (by simp) ?_
  simp
  (first | refine callG_r ?_ | refine callD_r ?_); simp; (first | refine callN_flat (by with_reducible first | exact c_szMesh m h 1048576 (by omega) (by omega)) rfl ?_ | refine callN_new (by with_reducible first | exact c_szMesh m h 1048576 (by omega) (by omega)) ?_ | refine callM_flat (by with_reducible first | exact c_szMesh m h 1048576 (by omega) (by omega)) rfl ?_ | refine callM_new (by with_reducible first | exact c_szMesh m h 1048576 (by omega) (by omega)) ?_)
  simp
  intro _
  (first | refine callG_r ?_ | refine callD_r ?_); simp; (first | refine callN_flat (by with_reducible first | exact c_toMesh m hs) rfl ?_ | refine callN_new (by with_reducible first | exact c_toMesh m hs) ?_ | refine callM_flat (by with_reducible first | exact c_toMesh m hs) rfl ?_ | refine callM_new (by with_reducible first | exact c_toMesh m hs) ?_)
  simp
  (first | refine callG_r ?_ | refine callD_r ?_); simp; (first | refine callN_flat (by with_reducible first | exact kS) rfl ?_ | refine callN_new (by with_reducible first | exact kS) ?_ | refine callM_flat (by with_reducible first | exact kS) rfl ?_ | refine callM_new (by with_reducible first | exact kS) ?_)
  simp [noC]
  (first | refine callG_r ?_ | refine callD_r ?_); simp; (first | refine callN_flat (by with_reducible first | exact c_toMesh2 m hs) rfl ?_ | refine callN_new (by with_reducible first | exact c_toMesh2 m hs) ?_ | refine callM_flat (by with_reducible first | exact c_toMesh2 m hs) rfl ?_ | refine callM_new (by with_reducible first | exact c_toMesh2 m hs) ?_)
  simp [nestR_ren]
  rw [nestC_ren (b' := 5) fun i hi => by omega]
  generalize hH : (_ :: _ :: _ :: _ :: _ :: (_ ++ _) : Heap) = H
  have hl : H.length = m.tr.length + 6 := by rw [← hH]; simp
  have f0 : ∀ t : Heap, (H ++ t)[0]? = some (.blk true true 42 m.cells) := fun t => by rw [List.getElem?_append_left (by omega), ← hH]; rfl
  have f2 : ∀ t : Heap, (H ++ t)[2]? = some (.blk true true 33 [.nils, .nils, .nils, .nils]) := fun t => by rw [List.getElem?_append_left (by omega), ← hH]; rfl
  have f3 : ∀ t : Heap, (H ++ t)[3]? = some (.blk true false 57 (cVs m.pl)) := fun t => by rw [List.getElem?_append_left (by omega), ← hH]; rfl
  have f4 : ∀ t : Heap, (H ++ t)[4]? = some (.blk true true 24 (nestC 5 m.tr)) := fun t => by rw [List.getElem?_append_left (by omega), ← hH]; rfl
  have fr : ∀ (t : Heap) (i : Nat) (h : i < m.tr.length), ∃ w, (H ++ t)[5 + i]? = some (.blk w false 2 (cIs m.tr[i])) := fun t i hi => ⟨true, by
    rw [List.getElem?_append_left (by omega), ← hH, Nat.add_comm 5 i]
    simp only [List.getElem?_cons_succ]
    rw [List.getElem?_append_left (by simp; omega)]
    simp [nestR, hi]⟩
  have hn : ∀ t : Heap, (nestC 5 m.tr).map (cellB true [] (H ++ t)) = cRs false m.tr := fun t => nest_read (fr t)
  have htk : (nestC 5 m.tr).take m.tr.length = nestC 5 m.tr := List.take_of_length_le (by simp)
  have fb : ∀ t : Heap, (H ++ t)[m.tr.length + 5]? = some (.blk true true 55 [.slc 3 0 m.pl.length 3, .slc 4 0 m.tr.length 1]) := fun t => by
    rw [List.getElem?_append_left (by omega), ← hH]
    simp only [List.getElem?_cons_succ]
    rw [List.getElem?_append_right (by simp)]
    simp
  have g0 := f0 []
  have g2 := f2 []
  have g3 := f3 []
  have g4 := f4 []
  have gb := fb []
  have gn := hn []
  rw [List.append_nil] at g0 g2 g3 g4 gb gn
  clear hH
  refine callG_r ?_
  simp [↓f0, ↓f2, ↓f3, ↓f4, ↓fb, ↓g0, ↓g2, ↓g3, ↓g4, ↓gb, hn, gn, htk]
  refine callN_new kI ?_
  simp [noC, ↓f0, ↓f2, ↓f3, ↓f4, ↓fb, ↓g0, ↓g2, ↓g3, ↓g4, ↓gb, hn, gn, htk]
  refine callG_r ?_
  simp [↓f0, ↓f2, ↓f3, ↓f4, ↓fb, ↓g0, ↓g2, ↓g3, ↓g4, ↓gb, hn, gn, htk]
  refine callN_flat c_eqCloth0 rfl ?_
  simp [↓f0, ↓f2, ↓f3, ↓f4, ↓fb, ↓g0, ↓g2, ↓g3, ↓g4, ↓gb, hn, gn, htk]
  (first | refine callG_r ?_ | refine callD_r ?_); simp; (first | refine callN_flat (by with_reducible first | exact c_toMesh m hs) rfl ?_ | refine callN_new (by with_reducible first | exact c_toMesh m hs) ?_ | refine callM_flat (by with_reducible first | exact c_toMesh m hs) rfl ?_ | refine callM_new (by with_reducible first | exact c_toMesh m hs) ?_)
  simp [↓f0, ↓f2, ↓f3, ↓f4, ↓fb, ↓g0, ↓g2, ↓g3, ↓g4, ↓gb, hn, gn, htk]
  refine callD_r ?_
  simp [↓f0, ↓f2, ↓f3, ↓f4, ↓fb, ↓g0, ↓g2, ↓g3, ↓g4, ↓gb, hn, gn, htk]
  refine callM_flat (c_eqMesh m hs) rfl ?_
  simp [↓f0, ↓f2, ↓f3, ↓f4, ↓fb, ↓g0, ↓g2, ↓g3, ↓g4, ↓gb, hn, gn, htk]
  refine call_nest (ps := [3]) (q := 4) (b := 5) (T := m.tr) (nw := true) (psr := [.blk false false 57 (cVs m.pl)]) (psr' := [.blk false false 57 (cVs (markV 1 m.pl.length))]) ?_ (f4 _) (fr _) (fun p hp => ?_) ?_ ?_ (c_markMesh m hs hsum) rfl (by simp) fun M hM1 hM2 hM3 => ?_
  · simp [List.mem_range'_1, List.nodup_range']
  · rw [List.mem_singleton.1 hp, f3]; rfl
  · simp [pasH, ↓f3]
  · simp [passA, pass0, pasR, posN]
  have hMl : M.length = H.length + 2 := by rw [hM1]; simp
  have hno : ∀ j, j < 3 ∨ m.tr.length + 5 ≤ j → j ∉ [3] ++ 4 :: List.range' 5 m.tr.length := fun j hj => by
    simp [List.mem_range'_1]; omega
  have q0 : ∀ t : Heap, (M ++ t)[0]? = some (.blk true true 42 m.cells) := fun t => by rw [List.getElem?_append_left (by omega), hM2 _ (hno _ (by omega))]; exact f0 _
  have q2 : ∀ t : Heap, (M ++ t)[2]? = some (.blk true true 33 [.nils, .nils, .nils, .nils]) := fun t => by rw [List.getElem?_append_left (by omega), hM2 _ (hno _ (by omega))]; exact f2 _
  have p0 : ∀ t : Heap, (M ++ t)[H.length]? = some (.blk true true 33 [.nils, .nils, .nils, .nils]) := fun t => by rw [List.getElem?_append_left (by omega), hM2 _ (hno _ (by omega))]; simp
  have rq0 := q0 []
  have rq2 := q2 []
  have rp0 := p0 []
  rw [List.append_nil] at rq0 rq2 rp0
  clear hM1 hM2 hM3 f0 f2 f3 f4 fb hn fr g0 g2 g3 g4 gb gn
  simp [↓q0, ↓q2, ↓p0, ↓rq0, ↓rq2, ↓rp0]
  refine ⟨fun _ => ?_, by omega⟩
  (first | refine callG_r ?_ | refine callD_r ?_); simp; (first | refine callN_flat (by with_reducible first | exact c_eqCloth0) rfl ?_ | refine callN_new (by with_reducible first | exact c_eqCloth0) ?_ | refine callM_flat (by with_reducible first | exact c_eqCloth0) rfl ?_ | refine callM_new (by with_reducible first | exact c_eqCloth0) ?_)
  simp [↓q0, ↓q2, ↓p0, ↓rq0, ↓rq2, ↓rp0]
  (first | refine callG_r ?_ | refine callD_r ?_); simp; (first | refine callN_flat (by with_reducible first | exact c_markCloth0) rfl ?_ | refine callN_new (by with_reducible first | exact c_markCloth0) ?_ | refine callM_flat (by with_reducible first | exact c_markCloth0) rfl ?_ | refine callM_new (by with_reducible first | exact c_markCloth0) ?_)
  simp [↓q0, ↓q2, ↓p0, ↓rq0, ↓rq2, ↓rp0]
  (first | refine callG_r ?_ | refine callD_r ?_); simp; (first | refine callN_flat (by with_reducible first | exact c_heldCloth0) rfl ?_ | refine callN_new (by with_reducible first | exact c_heldCloth0) ?_ | refine callM_flat (by with_reducible first | exact c_heldCloth0) rfl ?_ | refine callM_new (by with_reducible first | exact c_heldCloth0) ?_)
  simp [↓q0, ↓q2, ↓p0, ↓rq0, ↓rq2, ↓rp0]
  (first | refine callG_r ?_ | refine callD_r ?_); simp; (first | refine callN_flat (by with_reducible first | exact c_toMesh m hs) rfl ?_ | refine callN_new (by with_reducible first | exact c_toMesh m hs) ?_ | refine callM_flat (by with_reducible first | exact c_toMesh m hs) rfl ?_ | refine callM_new (by with_reducible first | exact c_toMesh m hs) ?_)
  simp [↓q0, ↓q2, ↓p0, ↓rq0, ↓rq2, ↓rp0]
  (first | refine callG_r ?_ | refine callD_r ?_); simp; (first | refine callN_flat (by with_reducible first | exact kI) rfl ?_ | refine callN_new (by with_reducible first | exact kI) ?_ | refine callM_flat (by with_reducible first | exact kI) rfl ?_ | refine callM_new (by with_reducible first | exact kI) ?_)
  simp [noC, ↓q0, ↓q2, ↓p0, ↓rq0, ↓rq2, ↓rp0]
  (first | refine callG_r ?_ | refine callD_r ?_); simp; (first | refine callN_flat (by with_reducible first | exact c_eqCloth0) rfl ?_ | refine callN_new (by with_reducible first | exact c_eqCloth0) ?_ | refine callM_flat (by with_reducible first | exact c_eqCloth0) rfl ?_ | refine callM_new (by with_reducible first | exact c_eqCloth0) ?_)
  simp [↓q0, ↓q2, ↓p0, ↓rq0, ↓rq2, ↓rp0]
  (first | refine callG_r ?_ | refine callD_r ?_); simp; (first | refine callN_flat (by with_reducible first | exact c_heldCloth0) rfl ?_ | refine callN_new (by with_reducible first | exact c_heldCloth0) ?_ | refine callM_flat (by with_reducible first | exact c_heldCloth0) rfl ?_ | refine callM_new (by with_reducible first | exact c_heldCloth0) ?_)
  simp [↓q0, ↓q2, ↓p0, ↓rq0, ↓rq2, ↓rp0]
theorem law_ClothOf1 (m : Msh) (h : m.Len) (h0 : 0 ≤ szM m 1048576) (hs : m.Small) (hv : vldM m = true) (hc : vldC (cloE m) = true) : FnSpec Try.prog 5 [m.av] [] fun av _ => av = .bool true := by
  have hsum := szM_sum h0
  refine FnSpec.walkF dr_ok Try.func5 rfl (by kernel_rfl) rfl rfl rfl (by simp) ?_
  simp
  (first | refine callG_r ?_ | refine callD_r ?_); simp; (first | refine callN_flat (by with_reducible first | exact c_szMesh m h 1048576 (by omega) (by omega)) rfl ?_ | refine callN_new (by with_reducible first | exact c_szMesh m h 1048576 (by omega) (by omega)) ?_ | refine callM_flat (by with_reducible first | exact c_szMesh m h 1048576 (by omega) (by omega)) rfl ?_ | refine callM_new (by with_reducible first | exact c_szMesh m h 1048576 (by omega) (by omega)) ?_)
  simp
  intro _
  (first | refine callG_r ?_ | refine callD_r ?_); simp; (first | refine callN_flat (by with_reducible first | exact c_toMesh m hs) rfl ?_ | refine callN_new (by with_reducible first | exact c_toMesh m hs) ?_ | refine callM_flat (by with_reducible first | exact c_toMesh m hs) rfl ?_ | refine callM_new (by with_reducible first | exact c_toMesh m hs) ?_)
  simp
  have hel := edS_len hv
  have hpl := (vldM_len hv).1
  (first | refine callG_r ?_ | refine callD_r ?_); simp; (first | refine callN_flat (by with_reducible first | exact c_specClothOf m hs hv hc) rfl ?_ | refine callN_new (by with_reducible first | exact c_specClothOf m hs hv hc) ?_ | refine callM_flat (by with_reducible first | exact c_specClothOf m hs hv hc) rfl ?_ | refine callM_new (by with_reducible first | exact c_specClothOf m hs hv hc) ?_)
  simp
  (first | refine callG_r ?_ | refine callD_r ?_); simp; (first | refine callN_flat (by with_reducible first | exact c_toMesh2 m hs) rfl ?_ | refine callN_new (by with_reducible first | exact c_toMesh2 m hs) ?_ | refine callM_flat (by with_reducible first | exact c_toMesh2 m hs) rfl ?_ | refine callM_new (by with_reducible first | exact c_toMesh2 m hs) ?_)
  simp [nestR_ren]
  rw [nestC_ren (b' := 9) fun i hi => by omega]
  generalize hH : (_ :: _ :: _ :: _ :: _ :: _ :: _ :: _ :: _ :: (_ ++ _) : Heap) = H
  have hl : H.length = m.tr.length + 10 := by rw [← hH]; simp
  have f0 : ∀ t : Heap, (H ++ t)[0]? = some (.blk true true 42 m.cells) := fun t => by rw [List.getElem?_append_left (by omega), ← hH]; rfl
  have f2 : ∀ t : Heap, (H ++ t)[2]? = some (.blk true false 57 (cVs m.pl)) := fun t => by rw [List.getElem?_append_left (by omega), ← hH]; rfl
  have f3 : ∀ t : Heap, (H ++ t)[3]? = some (.blk true false 57 (cVs m.pl)) := fun t => by rw [List.getElem?_append_left (by omega), ← hH]; rfl
  have f4 : ∀ t : Heap, (H ++ t)[4]? = some (.blk true false 77 (cTs ((edS m).map (thE m)))) := fun t => by rw [List.getElem?_append_left (by omega), ← hH]; rfl
  have f5 : ∀ t : Heap, (H ++ t)[5]? = some (.blk true false 2 []) := fun t => by rw [List.getElem?_append_left (by omega), ← hH]; rfl
  have f6 : ∀ t : Heap, (H ++ t)[6]? = some (.blk true true 33 [.slc 2 0 m.pl.length 3, .slc 3 0 m.pl.length 3, .slc 4 0 (edS m).length 3, .slc 5 0 0 1]) := fun t => by rw [List.getElem?_append_left (by omega), ← hH]; rfl
  have f7 : ∀ t : Heap, (H ++ t)[7]? = some (.blk true false 57 (cVs m.pl)) := fun t => by rw [List.getElem?_append_left (by omega), ← hH]; rfl
  have f8 : ∀ t : Heap, (H ++ t)[8]? = some (.blk true true 24 (nestC 9 m.tr)) := fun t => by rw [List.getElem?_append_left (by omega), ← hH]; rfl
  have fr : ∀ (t : Heap) (i : Nat) (h : i < m.tr.length), ∃ w, (H ++ t)[9 + i]? = some (.blk w false 2 (cIs m.tr[i])) := fun t i hi => ⟨true, by
    rw [List.getElem?_append_left (by omega), ← hH, Nat.add_comm 9 i]
    simp only [List.getElem?_cons_succ]
    rw [List.getElem?_append_left (by simp; omega)]
    simp [nestR, hi]⟩
  have hn : ∀ t : Heap, (nestC 9 m.tr).map (cellB true [] (H ++ t)) = cRs false m.tr := fun t => nest_read (fr t)
  have htk : (nestC 9 m.tr).take m.tr.length = nestC 9 m.tr := List.take_of_length_le (by simp)
  have fb : ∀ t : Heap, (H ++ t)[m.tr.length + 9]? = some (.blk true true 55 [.slc 7 0 m.pl.length 3, .slc 8 0 m.tr.length 1]) := fun t => by
    rw [List.getElem?_append_left (by omega), ← hH]
    simp only [List.getElem?_cons_succ]
    rw [List.getElem?_append_right (by simp)]
    simp
  have g0 := f0 []
  have g2 := f2 []
  have g3 := f3 []
  have g4 := f4 []
  have g5 := f5 []
  have g6 := f6 []
  have g7 := f7 []
  have g8 := f8 []
  have gb := fb []
  have gn := hn []
  rw [List.append_nil] at g0 g2 g3 g4 g5 g6 g7 g8 gb gn
  have ltk : ((edS m).map (thE m)).take (edS m).length = (edS m).map (thE m) := List.take_of_length_le (by simp)
  clear hH
  refine callG_r ?_
  simp [g7, g8, gn, htk]
  refine callN_new (c_ClothOf m hs hv hc) ?_
  simp [↓f0, ↓f2, ↓f3, ↓f4, ↓f5, ↓f6, ↓f7, ↓f8, ↓fb, hn, htk, ltk]
  refine callG_r ?_
  simp [↓f0, ↓f2, ↓f3, ↓f4, ↓f5, ↓f6, ↓f7, ↓f8, ↓fb, hn, htk, ltk]
  refine callN_flat (c_eqE m hv) rfl ?_
  simp [↓f0, ↓f2, ↓f3, ↓f4, ↓f5, ↓f6, ↓f7, ↓f8, ↓fb, hn, htk, ltk]
  (first | refine callG_r ?_ | refine callD_r ?_); simp; (first | refine callN_flat (by with_reducible first | exact c_toMesh m hs) rfl ?_ | refine callN_new (by with_reducible first | exact c_toMesh m hs) ?_ | refine callM_flat (by with_reducible first | exact c_toMesh m hs) rfl ?_ | refine callM_new (by with_reducible first | exact c_toMesh m hs) ?_)
  simp [↓f0, ↓f2, ↓f3, ↓f4, ↓f5, ↓f6, ↓f7, ↓f8, ↓fb, hn, htk, ltk]
  refine callD_r ?_
  simp [↓f0, ↓f2, ↓f3, ↓f4, ↓f5, ↓f6, ↓f7, ↓f8, ↓fb, hn, htk, ltk]
  refine callM_flat (c_eqMesh m hs) rfl ?_
  simp [↓f0, ↓f2, ↓f3, ↓f4, ↓f5, ↓f6, ↓f7, ↓f8, ↓fb, hn, htk, ltk]
  refine call_nest (ps := [7]) (q := 8) (b := 9) (T := m.tr) (nw := true) (psr := [.blk false false 57 (cVs m.pl)]) (psr' := [.blk false false 57 (cVs (markV 1 m.pl.length))]) ?_ (f8 _) (fr _) (fun p hp => ?_) ?_ ?_ (c_markMesh m hs hsum) rfl (by simp) fun M hM1 hM2 hM3 => ?_
  · simp [List.mem_range'_1, List.nodup_range']
  · rw [List.mem_singleton.1 hp, f7]; rfl
  · simp [pasH, ↓f7]
  · simp [passA, pass0, pasR, posN]
  have hMl : M.length = H.length + 6 := by rw [hM1]; simp
  have hno : ∀ j, j < 7 ∨ m.tr.length + 9 ≤ j → j ∉ [7] ++ 8 :: List.range' 9 m.tr.length := fun j hj => by
    simp [List.mem_range'_1]; omega
  have q0 : ∀ t : Heap, (M ++ t)[0]? = some (.blk true true 42 m.cells) := fun t => by rw [List.getElem?_append_left (by omega), hM2 _ (hno _ (by omega))]; exact f0 _
  have q2 : ∀ t : Heap, (M ++ t)[2]? = some (.blk true false 57 (cVs m.pl)) := fun t => by rw [List.getElem?_append_left (by omega), hM2 _ (hno _ (by omega))]; exact f2 _
  have q3 : ∀ t : Heap, (M ++ t)[3]? = some (.blk true false 57 (cVs m.pl)) := fun t => by rw [List.getElem?_append_left (by omega), hM2 _ (hno _ (by omega))]; exact f3 _
  have q4 : ∀ t : Heap, (M ++ t)[4]? = some (.blk true false 77 (cTs ((edS m).map (thE m)))) := fun t => by rw [List.getElem?_append_left (by omega), hM2 _ (hno _ (by omega))]; exact f4 _
  have q5 : ∀ t : Heap, (M ++ t)[5]? = some (.blk true false 2 []) := fun t => by rw [List.getElem?_append_left (by omega), hM2 _ (hno _ (by omega))]; exact f5 _
  have q6 : ∀ t : Heap, (M ++ t)[6]? = some (.blk true true 33 [.slc 2 0 m.pl.length 3, .slc 3 0 m.pl.length 3, .slc 4 0 (edS m).length 3, .slc 5 0 0 1]) := fun t => by rw [List.getElem?_append_left (by omega), hM2 _ (hno _ (by omega))]; exact f6 _
  have p0 : ∀ t : Heap, (M ++ t)[H.length]? = some (.blk true false 57 (cVs m.pl)) := fun t => by rw [List.getElem?_append_left (by omega), hM2 _ (hno _ (by omega))]; simp
  have p1 : ∀ t : Heap, (M ++ t)[H.length + 1]? = some (.blk true false 57 (cVs m.pl)) := fun t => by rw [List.getElem?_append_left (by omega), hM2 _ (hno _ (by omega))]; simp
  have p2 : ∀ t : Heap, (M ++ t)[H.length + 2]? = some (.blk true false 77 (cTs ((edS m).map (thE m)))) := fun t => by rw [List.getElem?_append_left (by omega), hM2 _ (hno _ (by omega))]; simp
  have p3 : ∀ t : Heap, (M ++ t)[H.length + 3]? = some (.blk true false 2 []) := fun t => by rw [List.getElem?_append_left (by omega), hM2 _ (hno _ (by omega))]; simp
  have p4 : ∀ t : Heap, (M ++ t)[H.length + 4]? = some (.blk true true 33 [.slc H.length 0 m.pl.length 3, .slc (H.length + 1) 0 m.pl.length 3, .slc (H.length + 2) 0 (edS m).length 3, .slc (H.length + 3) 0 0 1]) := fun t => by rw [List.getElem?_append_left (by omega), hM2 _ (hno _ (by omega))]; simp
  clear hM1 hM2 hM3 f0 f2 f3 f4 f5 f6 f7 f8 fb hn fr g0 g2 g3 g4 g5 g6 g7 g8 gb gn
  have rq0 := q0 []
  have rq2 := q2 []
  have rq3 := q3 []
  have rq4 := q4 []
  have rq5 := q5 []
  have rq6 := q6 []
  have rp0 := p0 []
  have rp1 := p1 []
  have rp2 := p2 []
  have rp3 := p3 []
  have rp4 := p4 []
  rw [List.append_nil] at rq0 rq2 rq3 rq4 rq5 rq6 rp0 rp1 rp2 rp3 rp4
  simp [↓q0, ↓q2, ↓q3, ↓q4, ↓q5, ↓q6, ↓p0, ↓p1, ↓p2, ↓p3, ↓p4, ↓rq0, ↓rq2, ↓rq3, ↓rq4, ↓rq5, ↓rq6, ↓rp0, ↓rp1, ↓rp2, ↓rp3, ↓rp4, ltk]
  refine ⟨fun _ => ?_, by omega⟩
  refine callG_r ?_
  simp [↓q0, ↓q2, ↓q3, ↓q4, ↓q5, ↓q6, ↓p0, ↓p1, ↓p2, ↓p3, ↓p4, ↓rq0, ↓rq2, ↓rq3, ↓rq4, ↓rq5, ↓rq6, ↓rp0, ↓rp1, ↓rp2, ↓rp3, ↓rp4, ltk]
  refine callN_flat (c_eqE m hv) rfl ?_
  simp [↓q0, ↓q2, ↓q3, ↓q4, ↓q5, ↓q6, ↓p0, ↓p1, ↓p2, ↓p3, ↓p4, ↓rq0, ↓rq2, ↓rq3, ↓rq4, ↓rq5, ↓rq6, ↓rp0, ↓rp1, ↓rp2, ↓rp3, ↓rp4, ltk]
  refine callG_on true [H.length, H.length + 1, H.length + 2, H.length + 3] ?_
  simp [↓q0, ↓q2, ↓q3, ↓q4, ↓q5, ↓q6, ↓p0, ↓p1, ↓p2, ↓p3, ↓p4, ↓rq0, ↓rq2, ↓rq3, ↓rq4, ↓rq5, ↓rq6, ↓rp0, ↓rp1, ↓rp2, ↓rp3, ↓rp4, ltk, liveB, restr, pasH]
  refine callN_fun (c_markE m hv) (by simp) ?_
  simp [↓q0, ↓q2, ↓q3, ↓q4, ↓q5, ↓q6, ↓p0, ↓p1, ↓p2, ↓p3, ↓p4, ↓rq0, ↓rq2, ↓rq3, ↓rq4, ↓rq5, ↓rq6, ↓rp0, ↓rp1, ↓rp2, ↓rp3, ↓rp4, ltk, mergeH]
  generalize hG : List.set (List.set (List.set (List.set M _ _) _ _) _ _) _ _ = G
  have hGl : G.length = H.length + 6 := by rw [← hG]; simp [hMl]
  have s0 : ∀ t : Heap, (G ++ t)[0]? = some (.blk true true 42 m.cells) := fun t => by
    rw [List.getElem?_append_left (by omega), ← hG, List.getElem?_set_ne (by omega), List.getElem?_set_ne (by omega), List.getElem?_set_ne (by omega), List.getElem?_set_ne (by omega)]; exact rq0
  have s2 : ∀ t : Heap, (G ++ t)[2]? = some (.blk true false 57 (cVs m.pl)) := fun t => by
    rw [List.getElem?_append_left (by omega), ← hG, List.getElem?_set_ne (by omega), List.getElem?_set_ne (by omega), List.getElem?_set_ne (by omega), List.getElem?_set_ne (by omega)]; exact rq2
  have s3 : ∀ t : Heap, (G ++ t)[3]? = some (.blk true false 57 (cVs m.pl)) := fun t => by
    rw [List.getElem?_append_left (by omega), ← hG, List.getElem?_set_ne (by omega), List.getElem?_set_ne (by omega), List.getElem?_set_ne (by omega), List.getElem?_set_ne (by omega)]; exact rq3
  have s4 : ∀ t : Heap, (G ++ t)[4]? = some (.blk true false 77 (cTs ((edS m).map (thE m)))) := fun t => by
    rw [List.getElem?_append_left (by omega), ← hG, List.getElem?_set_ne (by omega), List.getElem?_set_ne (by omega), List.getElem?_set_ne (by omega), List.getElem?_set_ne (by omega)]; exact rq4
  have s5 : ∀ t : Heap, (G ++ t)[5]? = some (.blk true false 2 []) := fun t => by
    rw [List.getElem?_append_left (by omega), ← hG, List.getElem?_set_ne (by omega), List.getElem?_set_ne (by omega), List.getElem?_set_ne (by omega), List.getElem?_set_ne (by omega)]; exact rq5
  have s6 : ∀ t : Heap, (G ++ t)[6]? = some (.blk true true 33 [.slc 2 0 m.pl.length 3, .slc 3 0 m.pl.length 3, .slc 4 0 (edS m).length 3, .slc 5 0 0 1]) := fun t => by
    rw [List.getElem?_append_left (by omega), ← hG, List.getElem?_set_ne (by omega), List.getElem?_set_ne (by omega), List.getElem?_set_ne (by omega), List.getElem?_set_ne (by omega)]; exact rq6
  have u0 : ∀ t : Heap, (G ++ t)[H.length]? = some (.blk true false 57 (cVs (mE m).pl)) := fun t => by
    rw [List.getElem?_append_left (by omega), ← hG, List.getElem?_set_ne (by omega), List.getElem?_set_ne (by omega), List.getElem?_set_ne (by omega), List.getElem?_set_self (by (try simp only [List.length_set]); omega)]
  have u1 : ∀ t : Heap, (G ++ t)[H.length + 1]? = some (.blk true false 57 (cVs (mE m).ol)) := fun t => by
    rw [List.getElem?_append_left (by omega), ← hG, List.getElem?_set_ne (by omega), List.getElem?_set_ne (by omega), List.getElem?_set_self (by (try simp only [List.length_set]); omega)]
  have u2 : ∀ t : Heap, (G ++ t)[H.length + 2]? = some (.blk true false 77 (cTs (mE m).th)) := fun t => by
    rw [List.getElem?_append_left (by omega), ← hG, List.getElem?_set_ne (by omega), List.getElem?_set_self (by (try simp only [List.length_set]); omega)]
  have u3 : ∀ t : Heap, (G ++ t)[H.length + 3]? = some (.blk true false 2 []) := fun t => by
    rw [List.getElem?_append_left (by omega), ← hG, List.getElem?_set_self (by (try simp only [List.length_set]); omega)]
  have u4 : ∀ t : Heap, (G ++ t)[H.length + 4]? = some (.blk true true 33 [.slc H.length 0 m.pl.length 3, .slc (H.length + 1) 0 m.pl.length 3, .slc (H.length + 2) 0 (edS m).length 3, .slc (H.length + 3) 0 0 1]) := fun t => by
    rw [List.getElem?_append_left (by omega), ← hG, List.getElem?_set_ne (by omega), List.getElem?_set_ne (by omega), List.getElem?_set_ne (by omega), List.getElem?_set_ne (by omega)]; exact rp4
  have rs0 := s0 []
  have rs2 := s2 []
  have rs3 := s3 []
  have rs4 := s4 []
  have rs5 := s5 []
  have rs6 := s6 []
  have ru0 := u0 []
  have ru1 := u1 []
  have ru2 := u2 []
  have ru3 := u3 []
  have ru4 := u4 []
  rw [List.append_nil] at rs0 rs2 rs3 rs4 rs5 rs6 ru0 ru1 ru2 ru3 ru4
  have tk1 : (mE m).pl.take m.pl.length = (mE m).pl := List.take_of_length_le (by simp [mE, markC])
  have tk2 : (mE m).ol.take m.pl.length = (mE m).ol := List.take_of_length_le (by simp [mE, markC])
  have tk3 : (mE m).th.take (edS m).length = (mE m).th := List.take_of_length_le (by simp [mE, markC])
  clear hG q0 q2 q3 q4 q5 q6 p0 p1 p2 p3 p4 rq0 rq2 rq3 rq4 rq5 rq6 rp0 rp1 rp2 rp3 rp4
  refine callG_r ?_
  simp [↓s0, ↓s2, ↓s3, ↓s4, ↓s5, ↓s6, ↓u0, ↓u1, ↓u2, ↓u3, ↓u4, ↓rs0, ↓rs2, ↓rs3, ↓rs4, ↓rs5, ↓rs6, ↓ru0, ↓ru1, ↓ru2, ↓ru3, ↓ru4, ltk, tk1, tk2, tk3]
  refine callN_flat (c_heldE m hv) rfl ?_
  simp [↓s0, ↓s2, ↓s3, ↓s4, ↓s5, ↓s6, ↓u0, ↓u1, ↓u2, ↓u3, ↓u4, ↓rs0, ↓rs2, ↓rs3, ↓rs4, ↓rs5, ↓rs6, ↓ru0, ↓ru1, ↓ru2, ↓ru3, ↓ru4, ltk, tk1, tk2, tk3]
  (first | refine callG_r ?_ | refine callD_r ?_); simp; (first | refine callN_flat (by with_reducible first | exact c_toMesh m hs) rfl ?_ | refine callN_new (by with_reducible first | exact c_toMesh m hs) ?_ | refine callM_flat (by with_reducible first | exact c_toMesh m hs) rfl ?_ | refine callM_new (by with_reducible first | exact c_toMesh m hs) ?_)
  simp [↓s0, ↓s2, ↓s3, ↓s4, ↓s5, ↓s6, ↓u0, ↓u1, ↓u2, ↓u3, ↓u4, ↓rs0, ↓rs2, ↓rs3, ↓rs4, ↓rs5, ↓rs6, ↓ru0, ↓ru1, ↓ru2, ↓ru3, ↓ru4, ltk, tk1, tk2, tk3]
  (first | refine callG_r ?_ | refine callD_r ?_); simp; (first | refine callN_flat (by with_reducible first | exact c_ClothOf m hs hv hc) rfl ?_ | refine callN_new (by with_reducible first | exact c_ClothOf m hs hv hc) ?_ | refine callM_flat (by with_reducible first | exact c_ClothOf m hs hv hc) rfl ?_ | refine callM_new (by with_reducible first | exact c_ClothOf m hs hv hc) ?_)
  simp [↓s0, ↓s2, ↓s3, ↓s4, ↓s5, ↓s6, ↓u0, ↓u1, ↓u2, ↓u3, ↓u4, ↓rs0, ↓rs2, ↓rs3, ↓rs4, ↓rs5, ↓rs6, ↓ru0, ↓ru1, ↓ru2, ↓ru3, ↓ru4, ltk, tk1, tk2, tk3, Nat.add_assoc]
  refine callG_r ?_
  simp [↓s0, ↓s2, ↓s3, ↓s4, ↓s5, ↓s6, ↓u0, ↓u1, ↓u2, ↓u3, ↓u4, ↓rs0, ↓rs2, ↓rs3, ↓rs4, ↓rs5, ↓rs6, ↓ru0, ↓ru1, ↓ru2, ↓ru3, ↓ru4, ltk, tk1, tk2, tk3, Nat.add_assoc]
  refine callN_flat (c_eqE m hv) rfl ?_
  simp [↓s0, ↓s2, ↓s3, ↓s4, ↓s5, ↓s6, ↓u0, ↓u1, ↓u2, ↓u3, ↓u4, ↓rs0, ↓rs2, ↓rs3, ↓rs4, ↓rs5, ↓rs6, ↓ru0, ↓ru1, ↓ru2, ↓ru3, ↓ru4, ltk, tk1, tk2, tk3, Nat.add_assoc]
  refine callG_r ?_
  simp [↓s0, ↓s2, ↓s3, ↓s4, ↓s5, ↓s6, ↓u0, ↓u1, ↓u2, ↓u3, ↓u4, ↓rs0, ↓rs2, ↓rs3, ↓rs4, ↓rs5, ↓rs6, ↓ru0, ↓ru1, ↓ru2, ↓ru3, ↓ru4, ltk, tk1, tk2, tk3, Nat.add_assoc]
  refine callN_flat (c_heldE m hv) rfl ?_
  simp [↓s0, ↓s2, ↓s3, ↓s4, ↓s5, ↓s6, ↓u0, ↓u1, ↓u2, ↓u3, ↓u4, ↓rs0, ↓rs2, ↓rs3, ↓rs4, ↓rs5, ↓rs6, ↓ru0, ↓ru1, ↓ru2, ↓ru3, ↓ru4, ltk, tk1, tk2, tk3, Nat.add_assoc]
theorem law_ClothOf (m : Msh) (h : m.Len) : FnSpec Try.prog 5 [m.av] [] fun av _ => av = .bool true := by
  by_cases h0 : 0 ≤ szM m 1048576
  · have hs : m.Small := (szOk_M m (by omega) (by omega)).ok h0
    cases hv : vldM m with
    | true =>
      cases hc : vldC (cloE m) with
      | true => exact law_ClothOf1 m h h0 hs hv hc
      | false => exact law_ClothOf0 m h h0 hs (c_specClothOf0 m hs hv hc) (c_ClothOf0 m hs hv hc)
    | false => exact law_ClothOf0 m h h0 hs (c_specClothOf1 m hs hv) (c_ClothOf1 m hs hv)
  · refine FnSpec.walkF dr_ok Try.func5 rfl (by kernel_rfl) rfl rfl rfl (by simp) ?_
    simp
    (first | refine callG_r ?_ | refine callD_r ?_); simp; (first | refine callN_flat (by with_reducible first | exact c_szMesh m h 1048576 (by omega) (by omega)) rfl ?_ | refine callN_new (by with_reducible first | exact c_szMesh m h 1048576 (by omega) (by omega)) ?_ | refine callM_flat (by with_reducible first | exact c_szMesh m h 1048576 (by omega) (by omega)) rfl ?_ | refine callM_new (by with_reducible first | exact c_szMesh m h 1048576 (by omega) (by omega)) ?_)
    simp
    intro; omega
end Go.Proofs.Ytnpflgeenecaeaa
