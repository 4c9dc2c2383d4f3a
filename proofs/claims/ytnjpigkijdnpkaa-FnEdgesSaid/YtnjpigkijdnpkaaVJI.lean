/- Plain law: all triangles of edges are three for each triangle; neighbours are so in both directions.
Conditions: none. -/
import Derived.Test.YtnjpigkijdnpkaaVJG
namespace Go.Proofs.Ytnjpigkijdnpkaa
set_option linter.all false
open Go Go.Awp
set_option maxRecDepth 100000
set_option maxHeartbeats 8000000
set_option pp.deepTerms true

theorem edAt_has {t : List Int} (ht : Tri3 t) {x : Ed} (hx : x.1 < x.2) : hasE t x = true ↔ x = edAt t 0 ∨ x = edAt t 1 ∨ x = edAt t 2 := by
  obtain ⟨a, b, c, rfl, _, _, _, h1, h2, h3⟩ := ht.ok
  obtain ⟨p, q⟩ := x
  simp only at hx
  unfold edAt loI hiI hasE
  simp
  by_cases a1 : a = p <;> by_cases a2 : a = q <;> by_cases b1 : b = p <;> by_cases b2 : b = q <;> by_cases c1 : c = p <;> by_cases c2 : c = q <;> (try omega) <;> simp [a1, a2, b1, b2, c1, c2] <;> grind
theorem ed3_nodup {t : List Int} (ht : Tri3 t) : [edAt t 0, edAt t 1, edAt t 2].Nodup := by
  obtain ⟨a, b, c, rfl, _, _, _, h1, h2, h3⟩ := ht.ok
  unfold edAt loI hiI
  simp
  grind
theorem ed3_mem {m : Msh} (hv : vldM m = true) {i : Nat} (h : i < m.tr.length) (j : Nat) (hj : j < 3) : edAt m.tr[i] j ∈ edS m := by
  rw [mem_edS hv, mem_edL]
  refine ⟨i, h, j, hj, ?_⟩
  rw [List.getD_eq_getElem?_getD, List.getElem?_eq_getElem h]; rfl
theorem edS_nodup (m : Msh) : (edS m).Nodup := (edS_sorted m).imp fun h e => by subst e; exact ltE_irr _ h
theorem ed_count {m : Msh} (hv : vldM m = true) {i : Nat} (h : i < m.tr.length) : ((edS m).filter (hasE m.tr[i])).length = 3 := by
  have ht := tri3_of hv _ (List.getElem_mem h)
  have h1 : ((edS m).filter (hasE m.tr[i])).Nodup := (edS_nodup m).filter _
  have h2 := ed3_nodup ht
  have lt : ∀ x ∈ edS m, x.1 < x.2 := fun x hx => (ed_in hv ((mem_edS hv).1 hx)).2.1
  refine Nat.le_antisymm (nodup_le h1 (b := [edAt m.tr[i] 0, edAt m.tr[i] 1, edAt m.tr[i] 2]) fun x hx => ?_) (nodup_le h2 fun x hx => ?_)
  · obtain ⟨g1, g2⟩ := List.mem_filter.1 hx
    have := (edAt_has ht (lt x g1)).1 g2
    simpa using this
  · have hm : x ∈ edS m := by
      simp at hx
      rcases hx with rfl | rfl | rfl
      · exact ed3_mem hv h 0 (by omega)
      · exact ed3_mem hv h 1 (by omega)
      · exact ed3_mem hv h 2 (by omega)
    exact List.mem_filter.2 ⟨hm, (edAt_has ht (lt x hm)).2 (by simpa using hx)⟩
/-- How many triangles edges have in all. -/
def sumA (T : List (List Int)) (k : Nat) : List Ed → Nat
  | [] => 0
  | e :: E => (atN T e k).length + sumA T k E
theorem sumA_zero (T : List (List Int)) : ∀ E, sumA T 0 E = 0
  | [] => rfl
  | e :: E => by simp [sumA, sumA_zero T E, atN]
theorem sumA_succ {T : List (List Int)} {k : Nat} (h : k < T.length) : ∀ E, sumA T (k + 1) E = sumA T k E + (E.filter (hasE T[k])).length
  | [] => rfl
  | e :: E => by
    have ih := sumA_succ h E
    simp only [sumA, ih, atN_succ h, List.length_append]
    cases hq : hasE T[k] e <;> simp [hq] <;> omega
theorem sumA_append (T : List (List Int)) (k : Nat) : ∀ E F, sumA T k (E ++ F) = sumA T k E + sumA T k F
  | [], F => by simp [sumA]
  | e :: E, F => by simp [sumA, sumA_append T k E F]; omega
theorem sum_all {m : Msh} (hv : vldM m = true) : ∀ k, k ≤ m.tr.length → sumA m.tr k (edS m) = 3 * k
  | 0, _ => by rw [sumA_zero]
  | k + 1, h => by rw [sumA_succ (by omega), sum_all hv k (by omega), ed_count hv (by omega)]; omega
abbrev sumE (m : Msh) (k : Nat) : Nat := sumA m.tr m.tr.length ((edS m).take k)
theorem sumE_succ {m : Msh} {k : Nat} (h : k < (edS m).length) : sumE m (k + 1) = sumE m k + (atE m.tr (edS m)[k]).length := by
  unfold sumE
  rw [List.take_succ_eq_append_getElem h, sumA_append]; simp [sumA]
theorem sumE_all {m : Msh} (hv : vldM m = true) : sumE m (edS m).length = 3 * m.tr.length := by
  unfold sumE
  rw [List.take_length, sum_all hv _ (Nat.le_refl _)]
theorem sumE_le {m : Msh} : ∀ {k : Nat}, k ≤ (edS m).length → sumE m k ≤ k * m.tr.length
  | 0, _ => by simp [sumE, sumA]
  | k + 1, h => by
    have := sumE_le (m := m) (k := k) (by omega)
    have h2 := atN_len m.tr (edS m)[k] m.tr.length
    rw [sumE_succ (by omega), Nat.succ_mul]
    exact Nat.add_le_add this h2
theorem at_some {m : Msh} (hv : vldM m = true) {e : Ed} (he : e ∈ edS m) : 0 < (atE m.tr e).length := by
  obtain ⟨i, hi, j, hj, hx⟩ := mem_edL.1 ((mem_edS hv).1 he)
  have ht := tri3_of hv _ (List.getElem_mem hi)
  have hlt := (ed_in hv ((mem_edS hv).1 he)).2.1
  rw [List.getD_eq_getElem?_getD, List.getElem?_eq_getElem hi, Option.getD_some] at hx
  have hh : hasE m.tr[i] e = true := by
    rw [edAt_has ht hlt]
    match j, hj with
    | 0, _ => exact .inl hx
    | 1, _ => exact .inr (.inl hx)
    | 2, _ => exact .inr (.inr hx)
  refine List.length_pos_of_mem (a := i) ?_
  unfold atE atN
  refine List.mem_filter.2 ⟨List.mem_range.2 hi, ?_⟩
  rw [List.getD_eq_getElem?_getD, List.getElem?_eq_getElem hi]; exact hh
theorem atE_swap (T : List (List Int)) (a b : Int) : atE T (a, b) = atE T (b, a) := by
  unfold atE atN
  congr 1
  funext i
  simp [hasE, Bool.and_comm]
/-- Two edges, one behind the other. -/
theorem ed_order {m : Msh} {k : Nat} (h : k + 1 < (edS m).length) : ltE (edS m)[k] (edS m)[k + 1] := (List.pairwise_iff_getElem.1 (edS_sorted m)) k (k + 1) (by omega) h (by omega)
end Go.Proofs.Ytnjpigkijdnpkaa
