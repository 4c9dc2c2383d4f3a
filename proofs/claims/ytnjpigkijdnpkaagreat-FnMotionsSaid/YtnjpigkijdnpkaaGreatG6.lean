/- Triangles at two places; the law of hinges in plain words. What laws of drawn things are given; the law of hinges.
Conditions: none. -/
import Derived.Test.YtnjpigkijdnpkaaGreatG3
import Derived.Test.YtnjpigkijdnpkaaGreatG5
namespace Go.Proofs.YtnjpigkijdnpkaaGreat
set_option linter.all false
open Go Go.Awp
set_option maxRecDepth 100000
set_option maxHeartbeats 4000000
set_option pp.deepTerms true

/-- The first triangles that have both places of an edge. -/
def atN (T : List (List Int)) (e : Ed) (k : Nat) : List Nat := (List.range k).filter fun i => hasE (T.getD i []) e
theorem atN_succ {T : List (List Int)} {e : Ed} {k : Nat} (h : k < T.length) : atN T e (k + 1) = atN T e k ++ if hasE T[k] e then [k] else [] := by
  unfold atN
  rw [List.range_succ, List.filter_append, List.filter_cons, List.filter_nil, List.getD_eq_getElem?_getD, List.getElem?_eq_getElem h, Option.getD_some]
theorem atN_len (T : List (List Int)) (e : Ed) (k : Nat) : (atN T e k).length ≤ k := by
  unfold atN
  have := List.length_filter_le (fun i => hasE (T.getD i []) e) (List.range k)
  simpa using this
theorem atN_thirds (T : List (List Int)) (e : Ed) : ∀ k, k ≤ T.length → thirds (T.take k) e = (atN T e k).map fun i => thirdE (T.getD i []) e
  | 0, _ => rfl
  | k + 1, h => by
    have ih := atN_thirds T e k (by omega)
    rw [atN_succ (by omega), List.map_append, ← ih]
    unfold thirds
    rw [List.take_succ_eq_append_getElem (show k < T.length by omega), List.filter_append, List.map_append]
    congr 1
    cases hq : hasE T[k] e <;> simp [hq, List.getElem?_eq_getElem (show k < T.length by omega)]
abbrev atE (T : List (List Int)) (e : Ed) : List Nat := atN T e T.length
theorem atE_thirds (T : List (List Int)) (e : Ed) : thirds T e = (atE T e).map fun i => thirdE (T.getD i []) e := by
  have := atN_thirds T e T.length (Nat.le_refl _)
  rwa [List.take_length] at this
theorem atE_mem {T : List (List Int)} {e : Ed} {i : Nat} (h : i ∈ atE T e) : i < T.length ∧ hasE (T.getD i []) e = true := by
  unfold atE atN at h
  obtain ⟨h1, h2⟩ := List.mem_filter.1 h
  exact ⟨List.mem_range.1 h1, h2⟩
/-- The hinges before an edge are a beginning of all. -/
theorem hinN_prefix (m : Msh) {k : Nat} (h : k ≤ (edS m).length) : hinN m k <+: hinS m := by
  unfold hinS hinN
  rw [List.take_length]
  conv => rhs; rw [← List.take_append_drop k (edS m), List.filter_append, List.map_append]
  exact List.prefix_append _ _
theorem hin_next {m : Msh} {k : Nat} (h : k < (edS m).length) (hi : isH m.tr (edS m)[k] = true) : ∃ hc : (hinN m k).length < (hinS m).length, (hinS m)[(hinN m k).length] = hinE m.tr (edS m)[k] := by
  have h1 := hinN_prefix m (k := k + 1) h
  rw [hinN_succ h, if_pos hi] at h1
  obtain ⟨r, hr⟩ := h1
  have hl : (hinN m k).length < (hinS m).length := by rw [← hr]; simp
  refine ⟨hl, ?_⟩
  have : (hinS m)[(hinN m k).length]? = some (hinE m.tr (edS m)[k]) := by rw [← hr]; simp
  rw [List.getElem?_eq_getElem hl] at this
  exact Option.some.inj this
end Go.Proofs.YtnjpigkijdnpkaaGreat
namespace Go.Proofs.YtnjpigkijdnpkaaGreat
set_option linter.all false
open Go Go.Awp
set_option maxRecDepth 100000
set_option maxHeartbeats 8000000
set_option pp.deepTerms true

theorem wf_u8 {n : Int} (h : (Lit.int .u8 n).wf = true) : ∃ m : Nat, m < 256 ∧ n = m := by
  have h2 : Lit.wf (.int .u8 n) = decide (IntKind.u8.min ≤ n ∧ n ≤ IntKind.u8.max) := by simp [Lit.wf]
  rw [h2] at h
  have := of_decide_eq_true h
  have e1 : IntKind.u8.min = 0 := by decide
  have e2 : IntKind.u8.max = 255 := by decide
  rw [e1, e2] at this
  exact ⟨n.toNat, by omega, by omega⟩
theorem opens_By : Opens Tryz.prog 5 fun l => ∃ n : Nat, n < 256 ∧ l = [.int .u8 (n : Int)] := (opens_int Tryz.underlying5).mono (by
    rintro l ⟨x, hx, rfl⟩
    obtain ⟨m, hm, rfl⟩ := wf_u8 hx
    exact ⟨m, hm, rfl⟩)
theorem flat_bytes (l : List Nat) : l.flatMap (fun n : Nat => [AV.int .u8 (n : Int)]) = cBy l := by
  induction l with
  | nil => rfl
  | cons a l ih => simp only [List.flatMap_cons, ih]; rfl
theorem opens_Bys : Opens Tryz.prog 22 fun l => ∃ vs : List Nat, ((∀ v ∈ vs, v < 256) ∧ vs.length ≤ maxLen) ∧ l = [.view false (cBy vs) vs.length] :=
  (opens_slice (enc' := fun n : Nat => [AV.int .u8 (n : Int)]) Tryz.underlying22 (by kernel_rfl) (by decide : 0 < 1) (fun _ => rfl) opens_By).mono (by
    rintro l ⟨vs, h, rfl⟩
    exact ⟨vs, h, by rw [flat_bytes]⟩)
theorem arg_Bys : ArgOk Tryz.prog 22 fun a => ∃ vs : List Nat, ((∀ v ∈ vs, v < 256) ∧ vs.length ≤ maxLen) ∧ a = .view false (cBy vs) vs.length :=
  argOk_one (by rw [Tryz.underlying22]; intro fs h; cases h) (by rw [Tryz.underlying22]; intro n e h; cases h) (opens_Bys.mono (by
    rintro l ⟨x, hx, rfl⟩
    exact ⟨_, ⟨x, hx, rfl⟩, rfl⟩))
theorem c_b10Long (l m : List Nat) (h1 : l.length ≤ maxLen) (h2 : m.length ≤ maxLen) : Fun Tryz.prog 6 [.view false (cBy l) l.length, .view false (cBy m) m.length] [] (.bool (decide (1048576 < l.length) || decide (1048576 < m.length))) [] := by
  refine FnSpec.walkF dr_ok Tryz.func6 rfl (by kernel_rfl) rfl rfl rfl (by simp) ?_
  simp
  grind

end Go.Proofs.YtnjpigkijdnpkaaGreat
