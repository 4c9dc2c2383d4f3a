/- Sums of lists: plain facts.
Conditions: none. -/
import Derived.Test.YtfngkhkghjgmkaaS3
import Derived.Test.YtfngkhkghjgmkaaS5
namespace Go.Proofs.Ytfngkhkghjgmkaa
set_option linter.all false
open Go Go.Awp Ieee
set_option maxRecDepth 100000
set_option maxHeartbeats 4000000

theorem sumF_nil : sumF [] = 0 := rfl
theorem dot_ones {l : List Nat} {n : Nat} (hc : ∀ x ∈ l, CanF .f32 x) (hn : n = l.length) : ∀ k, k ≤ l.length → dotF l (List.replicate n 1065353216) k = sumF (l.take k)
  | 0, _ => rfl
  | k + 1, h => by
    have hk : k < l.length := by omega
    rw [dotF_succ, dot_ones hc hn k (by omega), sumF_take hk]
    have e1 : l.getD k 0 = l[k] := by rw [List.getD_eq_getElem?_getD, List.getElem?_eq_getElem hk]; rfl
    have e2 : (List.replicate n 1065353216).getD k 0 = 1065353216 := by
      rw [List.getD_eq_getElem?_getD, List.getElem?_replicate, if_pos (by omega)]; rfl
    rw [e1, e2, mul_one32 (hc _ (List.getElem_mem hk))]
theorem pairF_fuel : ∀ (f g : Nat) (l : List Nat), l.length < f → l.length < g → pairF f l = pairF g l
  | 0, _, _, h, _ => by omega
  | _, 0, _, _, h => by omega
  | f + 1, g + 1, l, h1, h2 => by
    show (if l.length = 0 then _ else if l.length = 1 then _ else _) = (if l.length = 0 then _ else if l.length = 1 then _ else _)
    by_cases c0 : l.length = 0
    · rw [if_pos c0, if_pos c0]
    · by_cases c1 : l.length = 1
      · rw [if_neg c0, if_pos c1, if_neg c0, if_pos c1]
      · rw [if_neg c0, if_neg c1, if_neg c0, if_neg c1, pairF_fuel f g (l.take _) (by rw [List.length_take]; omega) (by rw [List.length_take]; omega), pairF_fuel f g (l.drop _) (by rw [List.length_drop]; omega) (by rw [List.length_drop]; omega)]
theorem pairF_halves {l : List Nat} (h1 : 1 < l.length) (h2 : l.length ≤ 256) : pairF 257 l = fop .add .f32 (pairF 257 (l.take ((l.length + 1) / 2))) (pairF 257 (l.drop ((l.length + 1) / 2))) := by
  show (if l.length = 0 then _ else if l.length = 1 then _ else _) = _
  rw [if_neg (by omega), if_neg (by omega), pairF_fuel 256 257 (l.take _) (by rw [List.length_take]; omega) (by rw [List.length_take]; omega), pairF_fuel 256 257 (l.drop _) (by rw [List.length_drop]; omega) (by rw [List.length_drop]; omega)]
theorem can_zero : CanF .f32 0 := canF_num (by omega) (num_of (by omega))
theorem can_sumF (l : List Nat) : CanF .f32 (sumF l) := by
  unfold sumF
  rcases List.eq_nil_or_concat l with rfl | ⟨l', x, rfl⟩
  · exact can_zero
  · rw [List.concat_eq_append, List.foldl_append]; exact canF_fop _ _ _
theorem can_pairF {l : List Nat} (hc : ∀ x ∈ l, CanF .f32 x) : ∀ f, CanF .f32 (pairF f l)
  | 0 => can_zero
  | f + 1 => by
    show CanF .f32 (if l.length = 0 then 0 else if l.length = 1 then l.getD 0 0 else _)
    split
    · exact can_zero
    · split
      · rename_i h
        have : 0 < l.length := by omega
        rw [List.getD_eq_getElem?_getD, List.getElem?_eq_getElem this]
        exact hc _ (List.getElem_mem this)
      · exact canF_fop _ _ _
/-- Sums of integers. -/
def Sm (B : Int) (xs : List Int) : Prop := ∀ x ∈ xs, -B ≤ x ∧ x ≤ B
theorem sum_bound {B : Int} (hB : 0 ≤ B) : ∀ {xs : List Int}, Sm B xs → -(B * xs.length) ≤ xs.sum ∧ xs.sum ≤ B * xs.length
  | [], _ => by simp
  | x :: xs, h => by
    have h1 := sum_bound hB (xs := xs) fun y hy => h y (List.mem_cons_of_mem _ hy)
    have h2 := h x List.mem_cons_self
    rw [List.sum_cons, List.length_cons]
    have : B * ((xs.length + 1 : Nat) : Int) = B * xs.length + B := by rw [Int.natCast_add, Int.mul_add]; simp
    omega
theorem sum_fint {xs : List Int} (h : Sm 100 xs) (hl : xs.length ≤ 256) : ∀ k, k ≤ xs.length → sumF ((xs.take k).map (fint .f32)) = fint .f32 (xs.take k).sum
  | 0, _ => by rw [List.take_zero]; decide +kernel
  | k + 1, hk => by
    have hk' : k < xs.length := by omega
    have b1 := sum_bound (by decide) (xs := xs.take k) fun x hx => h x (List.mem_of_mem_take hx)
    rw [List.length_take, Nat.min_eq_left (by omega)] at b1
    have b2 := h _ (List.getElem_mem hk')
    rw [← List.take_append_getElem hk', List.map_append, List.sum_append]
    have e : sumF ((xs.take k).map (fint .f32) ++ [xs[k]].map (fint .f32)) = fop .add .f32 (sumF ((xs.take k).map (fint .f32))) (fint .f32 xs[k]) := by
      unfold sumF; rw [List.foldl_append]; rfl
    rw [e, sum_fint h hl k (by omega), fadd32 (by omega) (by omega)]
    simp
theorem pair_fint : ∀ (f : Nat) {xs : List Int}, Sm 100 xs → xs.length < f → xs.length ≤ 256 → pairF f (xs.map (fint .f32)) = fint .f32 xs.sum
  | 0, _, _, h, _ => by omega
  | f + 1, xs, h, hf, hl => by
    show (if (xs.map (fint .f32)).length = 0 then 0 else if (xs.map (fint .f32)).length = 1 then (xs.map (fint .f32)).getD 0 0 else _) = _
    rw [List.length_map]
    by_cases c0 : xs.length = 0
    · rw [if_pos c0, List.length_eq_zero_iff.1 c0]; decide +kernel
    · by_cases c1 : xs.length = 1
      · obtain ⟨x, rfl⟩ := List.length_eq_one_iff.1 c1
        rw [if_neg c0, if_pos c1]; simp
      · rw [if_neg c0, if_neg c1, ← List.map_take, ← List.map_drop]
        have t1 : Sm 100 (xs.take ((xs.length + 1) / 2)) := fun x hx => h x (List.mem_of_mem_take hx)
        have t2 : Sm 100 (xs.drop ((xs.length + 1) / 2)) := fun x hx => h x (List.mem_of_mem_drop hx)
        rw [pair_fint f t1 (by rw [List.length_take]; omega) (by rw [List.length_take]; omega), pair_fint f t2 (by rw [List.length_drop]; omega) (by rw [List.length_drop]; omega)]
        have b1 := sum_bound (by decide) t1
        have b2 := sum_bound (by decide) t2
        rw [List.length_take] at b1
        rw [List.length_drop] at b2
        rw [fadd32 (by omega) (by omega), ← List.sum_append, List.take_append_drop]
def sqs (xs : List Int) (k : Nat) : Int := ((xs.take k).map fun x => x * x).sum
theorem sqs_succ {xs : List Int} {k : Nat} (h : k < xs.length) : sqs xs (k + 1) = sqs xs k + xs[k] * xs[k] := by
  unfold sqs
  rw [← List.take_append_getElem h, List.map_append, List.sum_append]; simp
theorem sq_bound {x : Int} (h : -100 ≤ x ∧ x ≤ 100) : 0 ≤ x * x ∧ x * x ≤ 10000 := by
  have e := Int.natAbs_mul_self (a := x)
  have hn : x.natAbs ≤ 100 := by omega
  have := Nat.mul_le_mul hn hn
  omega
theorem sqs_bound {xs : List Int} (h : Sm 100 xs) : ∀ k, k ≤ xs.length → 0 ≤ sqs xs k ∧ sqs xs k ≤ 10000 * k
  | 0, _ => by simp [sqs]
  | k + 1, hk => by
    have hk' : k < xs.length := by omega
    have h1 := sqs_bound h k (by omega)
    have h2 := sq_bound (h _ (List.getElem_mem hk'))
    rw [sqs_succ hk']; omega
theorem map_getD {xs : List Int} {k : Nat} (h : k < xs.length) : (xs.map (fint .f32)).getD k 0 = fint .f32 xs[k] := by
  rw [List.getD_eq_getElem?_getD, List.getElem?_map, List.getElem?_eq_getElem h]; rfl
theorem dot_fint {xs : List Int} (h : Sm 100 xs) (hl : xs.length ≤ 256) : ∀ k, k ≤ xs.length → dotF (xs.map (fint .f32)) (xs.map (fint .f32)) k = fint .f32 (sqs xs k)
  | 0, _ => by show (0 : Nat) = fint .f32 (sqs xs 0); simp only [sqs, List.take_zero]; decide +kernel
  | k + 1, hk => by
    have hk' : k < xs.length := by omega
    have b1 := sqs_bound h k (by omega)
    have b2 := h _ (List.getElem_mem hk')
    have b3 := sq_bound b2
    rw [dotF_succ, dot_fint h hl k (by omega), map_getD hk', fsq32 (by omega), fadd32 (by omega) (by omega), sqs_succ hk']
theorem wide_fint {xs : List Int} (h : Sm 100 xs) (hl : xs.length ≤ 256) : ∀ k, k ≤ xs.length → widF (xs.map (fint .f32)) (xs.map (fint .f32)) k = fint .f64 (sqs xs k)
  | 0, _ => by show (0 : Nat) = fint .f64 (sqs xs 0); simp only [sqs, List.take_zero]; decide +kernel
  | k + 1, hk => by
    have hk' : k < xs.length := by omega
    have b1 := sqs_bound h k (by omega)
    have b2 := h _ (List.getElem_mem hk')
    have b3 := sq_bound b2
    rw [widF_succ, wide_fint h hl k (by omega), map_getD hk', wid_fint (by omega), fsq64 (by omega), fadd64 (by omega) (by omega), sqs_succ hk']
end Go.Proofs.Ytfngkhkghjgmkaa
