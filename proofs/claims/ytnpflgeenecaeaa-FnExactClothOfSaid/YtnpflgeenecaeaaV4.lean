/- All edges, as the reference reckons them. Plain law: the edges that the program sorts are those that the reference reads off its table. The cloth of a mesh, as the program and the reference make it. The cloth of a mesh, as the reference makes it.
Conditions: none. -/
import Derived.Test.YtnpflgeenecaeaaV3
import Derived.Test.YtnpflgeenecaeaaV0
namespace Go.Proofs.Ytnpflgeenecaeaa
set_option linter.all false
open Go Go.Awp
set_option maxRecDepth 100000
set_option maxHeartbeats 4000000
set_option pp.deepTerms true

theorem c_l00MinL (a b : Int) : Fun Try.prog 32 [.int .i64 a, .int .i64 b] [] (.int .i64 (loI a b)) [] := by
  refine FnSpec.walkF dr_ok Try.func32 rfl (by kernel_rfl) rfl rfl rfl (by simp) ?_
  simp [loI]
  constructor <;> intros <;> omega
theorem c_l00MaxL (a b : Int) : Fun Try.prog 31 [.int .i64 a, .int .i64 b] [] (.int .i64 (hiI a b)) [] := by
  refine FnSpec.walkF dr_ok Try.func31 rfl (by kernel_rfl) rfl rfl rfl (by simp) ?_
  simp [hiI]
  constructor <;> intros <;> omega

/-- The edges of triangles, as they are met. -/
def edT (t : List Int) (k : Nat) : List Ed := (List.range k).map (edAt t)
def edL (T : List (List Int)) : List Ed := T.flatMap fun t => edT t 3
/-- A table of the edges that were met. -/
def tab (n : Nat) (E : List Ed) : List Bool := (List.range (n * n)).map fun (j : Nat) => E.any fun e => e.1 * n + e.2 == (j : Int)
@[simp] theorem tab_length (n : Nat) (E : List Ed) : (tab n E).length = n * n := by simp [tab]
theorem tab_nil (n : Nat) : tab n [] = List.replicate (n * n) false := by simp [tab, List.map_const']
theorem tab_get {n : Nat} {E : List Ed} {j : Nat} (h : j < n * n) : (tab n E)[j]'(by simpa using h) = E.any fun e => e.1 * n + e.2 == (j : Int) := by simp [tab]
theorem tab_set {n : Nat} {E : List Ed} {e : Ed} {j : Nat} (h : j < n * n) (he : e.1 * n + e.2 = (j : Int)) : (tab n E).set j true = tab n (E ++ [e]) := by
  apply List.ext_getElem
  · simp
  · intro i h1 h2
    have hi : i < n * n := by simpa using h2
    rw [List.getElem_set, tab_get hi, tab_get hi]
    split
    · rename_i e'; subst e'
      rw [List.any_append]; simp [he]
    · rename_i e'
      rw [List.any_append]
      have : ((e.1 * n + e.2 == (i : Int)) : Bool) = false := by
        rw [he]; simp; omega
      simp [this]
/-- Edges in ascending order: those of one place; those of the places below one. -/
def rowS (n : Nat) (B : List Bool) (a b : Nat) : List Ed := ((List.range b).filter fun y => decide (a < y) && B.getD (a * n + y) false).map fun (y : Nat) => ((a : Int), (y : Int))
def allS (n : Nat) (B : List Bool) (a : Nat) : List Ed := (List.range a).flatMap fun x => rowS n B x n
theorem rowS_start (n : Nat) (B : List Bool) (a : Nat) : rowS n B a (a + 1) = [] := by
  unfold rowS
  rw [List.map_eq_nil_iff, List.filter_eq_nil_iff]
  intro y hy
  have := List.mem_range.1 hy
  simp; intro; omega
theorem rowS_step (n : Nat) (B : List Bool) (a b : Nat) (h : a < b) : rowS n B a (b + 1) = rowS n B a b ++ if B.getD (a * n + b) false then [((a : Int), (b : Int))] else [] := by
  unfold rowS
  rw [List.range_succ, List.filter_append, List.map_append]
  congr 1
  generalize hq : B.getD (a * n + b) false = q
  have hq' : B[a * n + b]?.getD false = q := by simpa using hq
  cases q <;> simp [h, hq', List.filter_cons]
theorem allS_step (n : Nat) (B : List Bool) (a : Nat) : allS n B (a + 1) = allS n B a ++ rowS n B a n := by
  unfold allS
  rw [List.range_succ, List.flatMap_append]; simp
theorem rowS_len (n : Nat) (B : List Bool) (a b : Nat) : (rowS n B a b).length ≤ b := by
  unfold rowS
  rw [List.length_map]
  have := List.length_filter_le (fun y => decide (a < y) && B.getD (a * n + y) false) (List.range b)
  simpa using this
theorem allS_len (n : Nat) (B : List Bool) (a : Nat) : (allS n B a).length ≤ a * n := by
  induction a with
  | zero => simp [allS]
  | succ a ih =>
    rw [allS_step, List.length_append]
    have := rowS_len n B a n
    rw [Nat.succ_mul]; omega
/-- The edges of a mesh, in ascending order. -/
def edS (m : Msh) : List Ed := allS m.pl.length (tab m.pl.length (edL m.tr)) m.pl.length
theorem mulb {a b n : Nat} (ha : a < n) (hb : b < n) (hn : n ≤ 64) : a * n + b < n * n ∧ n * n ≤ 4096 := by
  have h1 : (a + 1) * n ≤ n * n := Nat.mul_le_mul_right _ ha
  have h2 : n * n ≤ 64 * 64 := Nat.mul_le_mul hn hn
  rw [Nat.succ_mul] at h1
  omega
theorem c_l02Edges (m : Msh) (rest : List AV) (hs : m.Small) (hv : vldM m = true) : Fun Try.prog 48 [m.vp rest] [] (.slc 0 0 (edS m).length 1) [.blk true false 24 (cRs true ((edS m).map ekey))] := by
  obtain ⟨hl1, hl2⟩ := vldM_len hv
  have hnn : m.pl.length * m.pl.length ≤ 4096 := by have := Nat.mul_le_mul hl1 hl1; omega
  obtain ⟨N, hN⟩ : ∃ N, m.pl.length * m.pl.length = N := ⟨_, rfl⟩
  have hNI : (m.pl.length : Int) * m.pl.length = (N : Int) := by rw [← hN]; simp
  rw [hN] at hnn
  have hwn : IntKind.i64.wrap (N : Int) = (N : Int) := wrap64 (by omega) (by omega)
  refine FnSpec.walk dr_ok Try.func48 rfl (by kernel_rfl) rfl rfl rfl (by simp) ?_
  simp [hNI, hwn]
  refine ⟨by omega, by omega, ?_⟩
  refine loopG_of (α := Nat) (fun i => i ≤ m.tr.length) (fun i => m.tr.length - i) (fun i => [(5, .int .i64 i), (3, .int .i64 m.pl.length), (0, m.vp rest), (4, .slc 0 0 N 1)])
    (fun i => [.blk true false 4 (cBs (tab m.pl.length (edL (m.tr.take i))))]) 0 (by simp) ?_ fun i hi => ?_
  · refine weak_UH ?_ (by simp)
    simp [edL, tab_nil, hN]
  have hw := nat_wrap (k := i) (by omega)
  by_cases b : i < m.tr.length
  · obtain ⟨a1, a2, a3, ht, ha1, ha2, ha3, hd1, hd2, hd3⟩ := tri_of hv b
    simp [b, hw]
    rw [ht]
    refine loopG_of (α := Nat) (fun k => k ≤ 3) (fun k => 3 - k) (fun k => [(7, .int .i64 k), (6, .view false (cIs [a1, a2, a3]) 3), (5, .int .i64 i), (3, .int .i64 m.pl.length), (0, m.vp rest), (4, .slc 0 0 N 1)])
      (fun k => [.blk true false 4 (cBs (tab m.pl.length (edL (m.tr.take i) ++ edT [a1, a2, a3] k)))]) 0 (by simp) ?_ fun k hk => ?_
    · refine weak_UH ?_ (by simp)
      simp [edT]
    have hw2 := nat_wrap (k := k) (by omega)
    by_cases b2 : k < 3
    · have b3 : k < [a1, a2, a3].length := b2
      have b4 : (k : Int) < 3 := by omega
      obtain ⟨j, hj⟩ : ∃ j, (k + 1) % 3 = j := ⟨_, rfl⟩
      have hj3 : j < 3 := by omega
      have c3 : j < [a1, a2, a3].length := hj3
      have ej : ((k : Int) + 1).tmod 3 = (j : Int) := by
        rw [Int.tmod_eq_emod_of_nonneg (by omega)]; omega
      have hjI : (j : Int) < 3 := by omega
      have eEd : edAt [a1, a2, a3] k = (loI [a1, a2, a3][k] [a1, a2, a3][j], hiI [a1, a2, a3][k] [a1, a2, a3][j]) := by
        unfold edAt
        rw [hj, List.getD_eq_getElem?_getD, List.getD_eq_getElem?_getD, List.getElem?_eq_getElem b3, List.getElem?_eq_getElem c3]; rfl
      have hA : ∀ x ∈ [a1, a2, a3], 0 ≤ x ∧ x < m.pl.length := by
        simp [inB] at ha1 ha2 ha3
        intro x hx
        simp at hx
        rcases hx with rfl | rfl | rfl <;> omega
      have hAk := hA _ (List.getElem_mem b3)
      have hAj := hA _ (List.getElem_mem c3)
      obtain ⟨p, hp, hpn⟩ : ∃ p : Nat, loI [a1, a2, a3][k] [a1, a2, a3][j] = p ∧ p < m.pl.length := by
        refine ⟨(loI [a1, a2, a3][k] [a1, a2, a3][j]).toNat, ?_, ?_⟩ <;> (unfold loI; split <;> omega)
      obtain ⟨q, hq, hqn⟩ : ∃ q : Nat, hiI [a1, a2, a3][k] [a1, a2, a3][j] = q ∧ q < m.pl.length := by
        refine ⟨(hiI [a1, a2, a3][k] [a1, a2, a3][j]).toNat, ?_, ?_⟩ <;> (unfold hiI; split <;> omega)
      obtain ⟨hpq, _⟩ := mulb hpn hqn hl1
      obtain ⟨M, hM⟩ : ∃ M, p * m.pl.length = M := ⟨_, rfl⟩
      have hMI : (p : Int) * m.pl.length = (M : Int) := by rw [← hM]; simp
      rw [hM, hN] at hpq
      have hMq : (M : Int) + q = ((M + q : Nat) : Int) := by simp
      have w1 : IntKind.i64.wrap ((M : Int) + q) = (M : Int) + q := wrap64 (by omega) (by omega)
      have tn : ((M : Int) + q).toNat = M + q := by omega
      simp [b2, b3, b4, hw2, ej, hj3, hjI, c3]
      (first | refine callG_r ?_ | refine callD_r ?_); simp; (first | refine callN_flat (by with_reducible first | exact c_l00MinL _ _) rfl ?_ | refine callN_new (by with_reducible first | exact c_l00MinL _ _) ?_ | refine callM_flat (by with_reducible first | exact c_l00MinL _ _) rfl ?_ | refine callM_new (by with_reducible first | exact c_l00MinL _ _) ?_)
      rw [hp]
      simp [hMI]
      (first | refine callG_r ?_ | refine callD_r ?_); simp; (first | refine callN_flat (by with_reducible first | exact c_l00MaxL _ _) rfl ?_ | refine callN_new (by with_reducible first | exact c_l00MaxL _ _) ?_ | refine callM_flat (by with_reducible first | exact c_l00MaxL _ _) rfl ?_ | refine callM_new (by with_reducible first | exact c_l00MaxL _ _) ?_)
      rw [hq]
      have wM : IntKind.i64.wrap (M : Int) = (M : Int) := wrap64 (by omega) (by omega)
      simp [wM, w1, tn, hw2, hN]
      refine ⟨by omega, by omega, by omega, ?_⟩
      rw [cBs_splice (by rw [tab_length, hN]; exact hpq), tab_set (e := edAt [a1, a2, a3] k) (by rw [hN]; exact hpq) (by rw [eEd, hp, hq]; simp only; rw [hMI]; simp)]
      refine loopK_next (k + 1) (by omega) (by omega) (weak_UH ?_ (by simp [hw2]))
      simp [edT, List.range_succ]
    · obtain rfl : k = 3 := by omega
      simp [hw]
      refine loopK_next (i + 1) (by omega) (by omega) (weak_UH ?_ (by simp [hw]))
      rw [List.take_succ_eq_append_getElem b, ht]
      simp [edL]
  · obtain rfl : i = m.tr.length := by omega
    simp
    have eB : tab m.pl.length (edL m.tr) = tab m.pl.length (edL m.tr) := rfl
    generalize hB : tab m.pl.length (edL m.tr) = B at eB
    have hBl : B.length = N := by rw [← hB, tab_length, hN]
    refine loopG_of (α := Nat) (fun a => a ≤ m.pl.length) (fun a => m.pl.length - a) (fun a => [(11, .int .i64 a), (3, .int .i64 m.pl.length), (4, .slc 0 0 N 1), (10, .slc 1 0 (allS m.pl.length B a).length 1)])
      (fun a => [.blk true false 4 (cBs B), .blk true false 24 (cRs true ((allS m.pl.length B a).map ekey))]) 0 (by simp) ?_ fun a ha => ?_
    · (refine weak_gc [(some 0, 0), (none, 24)] ?_ ?_ ?_ ?_ ?_ <;> simp [hB, allS])
    have hwa := nat_wrap (k := a) (by omega)
    by_cases ba : a < m.pl.length
    · simp [ba, hwa]
      refine loopG_of (α := Nat) (fun b => a < b ∧ b ≤ m.pl.length) (fun b => m.pl.length - b) (fun b => [(12, .int .i64 b), (11, .int .i64 a), (3, .int .i64 m.pl.length), (4, .slc 0 0 N 1), (10, .slc 1 0 (allS m.pl.length B a ++ rowS m.pl.length B a b).length 1)])
        (fun b => [.blk true false 4 (cBs B), .blk true false 24 (cRs true ((allS m.pl.length B a ++ rowS m.pl.length B a b).map ekey))]) (a + 1) ⟨by omega, by omega⟩ ?_ fun b' ⟨hb1, hb2⟩ => ?_
      · refine weak_UH ?_ (by simp [rowS_start, hwa])
        rw [rowS_start, List.append_nil]
      have hwb := nat_wrap (k := b') (by omega)
      by_cases bb : b' < m.pl.length
      · obtain ⟨hpq, _⟩ := mulb ba bb hl1
        obtain ⟨M, hM⟩ : ∃ M, a * m.pl.length = M := ⟨_, rfl⟩
        have hMI : (a : Int) * m.pl.length = (M : Int) := by rw [← hM]; simp
        rw [hM, hN] at hpq
        have w1 : IntKind.i64.wrap ((M : Int) + b') = (M : Int) + b' := wrap64 (by omega) (by omega)
        have tn : ((M : Int) + b').toNat = M + b' := by omega
        have wM : IntKind.i64.wrap (M : Int) = (M : Int) := wrap64 (by omega) (by omega)
        have hBq : M + b' < B.length := by omega
        simp [bb, hwb, hMI, wM, w1, tn, hBq]
        have eg : B.getD (a * m.pl.length + b') false = B[M + b'] := by rw [hM, List.getD_eq_getElem?_getD, List.getElem?_eq_getElem hBq]; rfl
        have hla := allS_len m.pl.length B a
        have hlb := rowS_len m.pl.length B a b'
        rw [hM] at hla
        refine ⟨by omega, by omega, fun h => ⟨by omega, by omega, ?_⟩, fun h => ?_⟩
        · have ec : cRs true (List.take ((allS m.pl.length B a).length + (rowS m.pl.length B a b').length) (List.map ekey (allS m.pl.length B a) ++ List.map ekey (rowS m.pl.length B a b'))) ++ [AV.view true (cIs [(a : Int), (b' : Int)]) 2] = cRs true (List.map ekey (allS m.pl.length B a ++ (rowS m.pl.length B a b' ++ [((a : Int), (b' : Int))]))) := by
            rw [List.take_of_length_le (by simp)]
            simp only [List.map_append, ← List.append_assoc, ← cRs_append]; rfl
          rw [ec]
          refine loopK_next (b' + 1) (by omega) ⟨by omega, by omega⟩ ?_
          rw [rowS_step _ _ _ _ hb1, eg, h, if_pos rfl]
          refine weak_gc [(some 0, 0), (some 4, 0)] ?_ ?_ ?_ ?_ ?_ <;> simp [hwb, Nat.add_assoc]
        · refine loopK_next (b' + 1) (by omega) ⟨by omega, by omega⟩ ?_
          rw [rowS_step _ _ _ _ hb1, eg, h]
          refine weak_UH ?_ ?_ <;> simp [hwb]
      · obtain rfl : b' = m.pl.length := by omega
        simp
        refine loopK_next (a + 1) (by omega) (by omega) ?_
        rw [allS_step]
        refine weak_UH ?_ ?_ <;> simp [hwa]
    · obtain rfl : a = m.pl.length := by omega
      simp
      have eS : edS m = allS m.pl.length B m.pl.length := by unfold edS; rw [hB]
      rw [eS]
      (refine endG_keepT [(some 1, 0)] ?_ ?_ ?_ ?_ ?_ ?_ ?_ ⟨rfl, rfl⟩ ?_ <;> simp)
end Go.Proofs.Ytnpflgeenecaeaa
namespace Go.Proofs.Ytnpflgeenecaeaa
set_option linter.all false
open Go Go.Awp
set_option maxRecDepth 100000
set_option maxHeartbeats 4000000

theorem nodup_le {α : Type} [BEq α] [LawfulBEq α] : ∀ {a b : List α}, a.Nodup → (∀ x ∈ a, x ∈ b) → a.length ≤ b.length
  | [], _, _, _ => Nat.zero_le _
  | x :: a, b, h, hm => by
    obtain ⟨h1, h2⟩ := List.nodup_cons.1 h
    have hx := hm x (List.mem_cons_self ..)
    have := nodup_le (b := b.erase x) h2 fun y hy => by
      have hne : y ≠ x := fun e => h1 (e ▸ hy)
      exact (List.mem_erase_of_ne hne).2 (hm y (List.mem_cons_of_mem _ hy))
    rw [List.length_erase_of_mem hx] at this
    have hp := List.length_pos_of_mem hx
    simp only [List.length_cons]; omega
theorem mem_keys_push {x k : List Int} {q : Int} {L : List KR} : x ∈ keysR (pushR k q L) ↔ x = k ∨ x ∈ keysR L := by
  rw [keys_pushR]
  split
  · rename_i h
    exact ⟨.inr, fun g => g.elim (fun e => e ▸ h) id⟩
  · simp [or_comm]
theorem mem_tbe3 {x : List Int} {L : List KR} {t : List Int} {i : Nat} : ∀ {k : Nat}, x ∈ keysR (tbe3 L t i k) ↔ x ∈ keysR L ∨ ∃ j, j < k ∧ x = ekey (edAt t j)
  | 0 => by simp [tbe3]
  | k + 1 => by
    have : tbe3 L t i (k + 1) = pushR (ekey (edAt t k)) i (tbe3 L t i k) := by
      unfold tbe3
      rw [List.range_succ, List.foldl_append]; rfl
    rw [this, mem_keys_push, mem_tbe3]
    constructor
    · rintro (h | h | ⟨j, h1, h2⟩)
      · exact .inr ⟨k, by omega, h⟩
      · exact .inl h
      · exact .inr ⟨j, by omega, h2⟩
    · rintro (h | ⟨j, h1, h2⟩)
      · exact .inr (.inl h)
      · by_cases e : j = k
        · exact .inl (e ▸ h2)
        · exact .inr (.inr ⟨j, by omega, h2⟩)
theorem mem_tbeN {x : List Int} {T : List (List Int)} : ∀ {n : Nat}, x ∈ keysR (tbeN T n) ↔ ∃ i, i < n ∧ ∃ j, j < 3 ∧ x = ekey (edAt (T.getD i []) j)
  | 0 => by simp [tbeN, keysR]
  | n + 1 => by
    have : tbeN T (n + 1) = tbe3 (tbeN T n) (T.getD n []) n 3 := by
      unfold tbeN
      rw [List.range_succ, List.foldl_append]; rfl
    rw [this, mem_tbe3, mem_tbeN]
    constructor
    · rintro (⟨i, h1, h2⟩ | h)
      · exact ⟨i, by omega, h2⟩
      · exact ⟨n, by omega, h⟩
    · rintro ⟨i, h1, h2⟩
      by_cases e : i = n
      · exact .inr (e ▸ h2)
      · exact .inl ⟨i, by omega, h2⟩
theorem mem_edL {x : Ed} {T : List (List Int)} : x ∈ edL T ↔ ∃ i, i < T.length ∧ ∃ j, j < 3 ∧ x = edAt (T.getD i []) j := by
  unfold edL edT
  rw [List.mem_flatMap]
  constructor
  · rintro ⟨t, ht, hx⟩
    obtain ⟨j, hj, rfl⟩ := List.mem_map.1 hx
    obtain ⟨i, hi, rfl⟩ := List.getElem_of_mem ht
    refine ⟨i, hi, j, List.mem_range.1 hj, ?_⟩
    rw [List.getD_eq_getElem?_getD, List.getElem?_eq_getElem hi]; rfl
  · rintro ⟨i, hi, j, hj, rfl⟩
    refine ⟨T[i], List.getElem_mem hi, List.mem_map.2 ⟨j, List.mem_range.2 hj, ?_⟩⟩
    rw [List.getD_eq_getElem?_getD, List.getElem?_eq_getElem hi]; rfl
theorem mem_keyE {x : Ed} {m : Msh} : x ∈ keyE (tbe m) ↔ x ∈ edL m.tr := by
  rw [keyE_map, List.mem_map, mem_edL]
  constructor
  · rintro ⟨k, hk, rfl⟩
    obtain ⟨i, hi, j, hj, rfl⟩ := mem_tbeN.1 hk
    exact ⟨i, hi, j, hj, rfl⟩
  · rintro ⟨i, hi, j, hj, rfl⟩
    exact ⟨_, mem_tbeN.2 ⟨i, hi, j, hj, rfl⟩, rfl⟩
/-- Where the edges of a valid mesh lie. -/
theorem ed_in {m : Msh} (hv : vldM m = true) {x : Ed} (h : x ∈ edL m.tr) : 0 ≤ x.1 ∧ x.1 < x.2 ∧ x.2 < m.pl.length := by
  obtain ⟨i, hi, j, hj, rfl⟩ := mem_edL.1 h
  rw [List.getD_eq_getElem?_getD, List.getElem?_eq_getElem hi, Option.getD_some]
  obtain ⟨a, b, c, ht, h1, h2, h3, g1, g2, g3⟩ := tri_of hv hi
  rw [ht]
  simp [inB] at h1 h2 h3
  unfold edAt loI hiI
  match j, hj with
  | 0, _ => simp; split <;> split <;> omega
  | 1, _ => simp; split <;> split <;> omega
  | 2, _ => simp; split <;> split <;> omega
theorem mul_inj {n p q a b : Nat} (h : p * n + q = a * n + b) (hq : q < n) (hb : b < n) : p = a ∧ q = b := by
  have : p = a := by
    rcases Nat.lt_trichotomy p a with g | g | g
    · have := Nat.mul_le_mul_right n (show p + 1 ≤ a from g)
      rw [Nat.succ_mul] at this; omega
    · exact g
    · have := Nat.mul_le_mul_right n (show a + 1 ≤ p from g)
      rw [Nat.succ_mul] at this; omega
  subst this
  exact ⟨rfl, by omega⟩
theorem tab_read {m : Msh} (hv : vldM m = true) {a b : Nat} (ha : a < m.pl.length) (hb : b < m.pl.length) : (tab m.pl.length (edL m.tr)).getD (a * m.pl.length + b) false = decide (((a : Int), (b : Int)) ∈ edL m.tr) := by
  obtain ⟨h1, _⟩ := mulb ha hb (vldM_len hv).1
  rw [List.getD_eq_getElem?_getD, List.getElem?_eq_getElem (by simpa using h1), Option.getD_some, tab_get h1, Bool.eq_iff_iff]
  simp only [List.any_eq_true, beq_iff_eq, decide_eq_true_eq]
  constructor
  · rintro ⟨⟨x, y⟩, he, e⟩
    have hr := ed_in hv he
    simp only at hr e
    obtain ⟨p, rfl⟩ : ∃ p : Nat, x = p := ⟨x.toNat, by omega⟩
    obtain ⟨q, rfl⟩ : ∃ q : Nat, y = q := ⟨y.toNat, by omega⟩
    have e2 : p * m.pl.length + q = a * m.pl.length + b := by exact_mod_cast e
    obtain ⟨rfl, rfl⟩ := mul_inj e2 (by omega) hb
    exact he
  · intro he
    exact ⟨_, he, by simp⟩
theorem mem_edS {m : Msh} (hv : vldM m = true) {x : Ed} : x ∈ edS m ↔ x ∈ edL m.tr := by
  unfold edS allS
  rw [List.mem_flatMap]
  constructor
  · rintro ⟨a, ha, hx⟩
    have ha := List.mem_range.1 ha
    unfold rowS at hx
    obtain ⟨b, hb, rfl⟩ := List.mem_map.1 hx
    obtain ⟨hb1, hb2⟩ := List.mem_filter.1 hb
    have hb1 := List.mem_range.1 hb1
    rw [tab_read hv ha hb1] at hb2
    simp at hb2
    exact hb2.2
  · intro hx
    have hr := ed_in hv hx
    obtain ⟨x1, x2⟩ := x
    simp only at hr
    obtain ⟨p, rfl⟩ : ∃ p : Nat, x1 = p := ⟨x1.toNat, by omega⟩
    obtain ⟨q, rfl⟩ : ∃ q : Nat, x2 = q := ⟨x2.toNat, by omega⟩
    refine ⟨p, List.mem_range.2 (by omega), ?_⟩
    unfold rowS
    refine List.mem_map.2 ⟨q, List.mem_filter.2 ⟨List.mem_range.2 (by omega), ?_⟩, rfl⟩
    rw [tab_read hv (by omega) (by omega)]
    simp [hx]; omega
theorem edS_sorted (m : Msh) : (edS m).Pairwise ltE := by
  unfold edS allS
  generalize m.pl.length = n
  generalize tab n (edL m.tr) = B
  have key : ∀ k, (List.flatMap (fun x => rowS n B x n) (List.range k)).Pairwise ltE ∧ ∀ x ∈ List.flatMap (fun x => rowS n B x n) (List.range k), x.1 < k := by
    intro k
    induction k with
    | zero => simp
    | succ k ih =>
      rw [List.range_succ, List.flatMap_append, List.flatMap_cons, List.flatMap_nil, List.append_nil]
      refine ⟨List.pairwise_append.2 ⟨ih.1, ?_, fun x hx y hy => ?_⟩, fun x hx => ?_⟩
      · unfold rowS
        rw [List.pairwise_map]
        have : (List.range n).Pairwise (· < ·) := List.pairwise_lt_range
        exact (this.filter _).imp fun h => .inr ⟨rfl, by simp; omega⟩
      · have h1 := ih.2 x hx
        unfold rowS at hy
        obtain ⟨b, _, rfl⟩ := List.mem_map.1 hy
        exact .inl (by simpa using h1)
      · rcases List.mem_append.1 hx with h | h
        · have := ih.2 x h; omega
        · unfold rowS at h
          obtain ⟨b, _, rfl⟩ := List.mem_map.1 h
          simp; omega
  exact (key n).1
theorem edges_ok {m : Msh} (hv : vldM m = true) (hn : (keyE (tbe m)).Nodup) : EdgesOk m (edS m) := by
  have hs := edS_sorted m
  have hnd : (edS m).Nodup := hs.imp fun h e => by subst e; exact ltE_irr _ h
  have hm : ∀ x, x ∈ edS m ↔ x ∈ keyE (tbe m) := fun x => by rw [mem_edS hv, mem_keyE]
  exact ⟨hs, hm, Nat.le_antisymm (nodup_le hnd fun x hx => (hm x).1 hx) (nodup_le hn fun x hx => (hm x).2 hx)⟩
theorem nodup_tbe3 {L : List KR} {t : List Int} {i : Nat} (h : (keysR L).Nodup) : ∀ {k : Nat}, (keysR (tbe3 L t i k)).Nodup
  | 0 => by simpa [tbe3] using h
  | k + 1 => by
    have : tbe3 L t i (k + 1) = pushR (ekey (edAt t k)) i (tbe3 L t i k) := by
      unfold tbe3
      rw [List.range_succ, List.foldl_append]; rfl
    rw [this]
    exact nodup_pushR (nodup_tbe3 h)
theorem nodup_tbeN {T : List (List Int)} : ∀ {n : Nat}, (keysR (tbeN T n)).Nodup
  | 0 => by simp [tbeN, keysR]
  | n + 1 => by
    have : tbeN T (n + 1) = tbe3 (tbeN T n) (T.getD n []) n 3 := by
      unfold tbeN
      rw [List.range_succ, List.foldl_append]; rfl
    rw [this]
    exact nodup_tbe3 nodup_tbeN
theorem keyE_tbe_nodup (m : Msh) : (keyE (tbe m)).Nodup := keyE_nodup nodup_tbeN fun k hk => by
  obtain ⟨i, hi, j, hj, rfl⟩ := mem_tbeN.1 hk
  rfl
theorem edgesOk {m : Msh} (hv : vldM m = true) : EdgesOk m (edS m) := edges_ok hv (keyE_tbe_nodup m)
theorem ed_at {m : Msh} (hv : vldM m = true) {k : Nat} (h : k < (edS m).length) : ∃ p q : Nat, (edS m)[k] = ((p : Int), (q : Int)) ∧ p < q ∧ q < m.pl.length := by
  have hm := (mem_edS hv).1 (List.getElem_mem h)
  have hr := ed_in hv hm
  generalize (edS m)[k] = e at *
  obtain ⟨x, y⟩ := e
  simp only at hr
  exact ⟨x.toNat, y.toNat, by rw [Int.toNat_of_nonneg hr.1, Int.toNat_of_nonneg (by omega)], by omega, by omega⟩
theorem edS_len {m : Msh} (hv : vldM m = true) : (edS m).length ≤ 384 := by
  rw [(edgesOk hv).len]
  have h1 := nodup_le (keyE_tbe_nodup m) (b := edL m.tr) fun x hx => mem_keyE.1 hx
  have h2 : ∀ T : List (List Int), (edL T).length = T.length * 3 := by
    intro T
    induction T with
    | nil => rfl
    | cons t T ih => unfold edL at ih ⊢; rw [List.flatMap_cons, List.length_append, ih]; simp [edT]; omega
  have h3 := (vldM_len hv).2
  have := h2 m.tr
  omega
end Go.Proofs.Ytnpflgeenecaeaa
namespace Go.Proofs.Ytnpflgeenecaeaa
set_option linter.all false
open Go Go.Awp
set_option maxRecDepth 100000
set_option maxHeartbeats 4000000
set_option pp.deepTerms true

@[simp] theorem cRs_at {b : Bool} {l : List (List Int)} {k : Nat} (h : k < (cRs b l).length) : (cRs b l)[k] = .view b (cIs (l[k]'(by simpa using h))) (l[k]'(by simpa using h)).length := by simp [cRs]
def longE (m : Msh) (e : Ed) : Nat := vlong (vsub (m.pl.getD e.1.toNat (0, 0, 0)) (m.pl.getD e.2.toNat (0, 0, 0)))
theorem longE_at {m : Msh} {p q : Nat} (hp : p < m.pl.length) (hq : q < m.pl.length) : longE m ((p : Int), (q : Int)) = vlong (vsub m.pl[p] m.pl[q]) := by
  unfold longE
  simp only [Int.toNat_natCast]
  rw [List.getD_eq_getElem?_getD, List.getD_eq_getElem?_getD, List.getElem?_eq_getElem hp, List.getElem?_eq_getElem hq]; rfl
def thE (m : Msh) (e : Ed) : Th := (e.1, e.2, longE m e)
def cloE (m : Msh) : Clo := ⟨m.pl, m.pl, (edS m).map (thE m), []⟩
theorem c_longOfEdge (m : Msh) (p q : Nat) (hp : p < m.pl.length) (hq : q < m.pl.length) (hl : m.pl.length ≤ 64) : Fun Try.prog 53 [m.av, .agg [.int .i64 p, .int .i64 q]] [] (.flt .f32 (longE m ((p : Int), (q : Int)))) [] := by
  rw [longE_at hp hq]
  refine FnSpec.walkF dr_ok Try.func53 rfl (by kernel_rfl) rfl rfl rfl (by simp) ?_
  simp [hp, hq]
  (first | refine callG_r ?_ | refine callD_r ?_); simp; (first | refine callN_flat (by with_reducible first | exact c_less _ _ _ _ _ _) rfl ?_ | refine callN_new (by with_reducible first | exact c_less _ _ _ _ _ _) ?_ | refine callM_flat (by with_reducible first | exact c_less _ _ _ _ _ _) rfl ?_ | refine callM_new (by with_reducible first | exact c_less _ _ _ _ _ _) ?_)
  simp
  (first | refine callG_r ?_ | refine callD_r ?_); simp; (first | refine callN_flat (by with_reducible first | exact c_long _ _ _) rfl ?_ | refine callN_new (by with_reducible first | exact c_long _ _ _) ?_ | refine callM_flat (by with_reducible first | exact c_long _ _ _) rfl ?_ | refine callM_new (by with_reducible first | exact c_long _ _ _) ?_)
  simp
/-- The first threads. -/
def thN (m : Msh) (k : Nat) : List Th := ((edS m).take k).map (thE m)
theorem thN_succ {m : Msh} {k : Nat} (h : k < (edS m).length) : thN m (k + 1) = thN m k ++ [thE m (edS m)[k]] := by
  unfold thN
  rw [List.take_succ_eq_append_getElem h, List.map_append]; rfl
theorem thN_len {m : Msh} {k : Nat} (h : k ≤ (edS m).length) : (thN m k).length = k := by simp [thN]; omega
theorem cloE_small {m : Msh} (hv : vldM m = true) : (cloE m).Small := by
  have h1 := (vldM_len hv).1
  have h2 := edS_len hv
  exact ⟨by simp [cloE]; omega, by simp [cloE]; omega, by simp [cloE]; omega, by simp [cloE]⟩
abbrev ownE (m : Msh) (r : Nat) : AV := .agg [.slc r 0 m.pl.length 3, .slc (r + 1) 0 m.pl.length 3, .slc (r + 2) 0 (edS m).length 3, .slc (r + 3) 0 0 1]
abbrev rowsE (n : Bool) (m : Msh) : Heap := [.blk n false 57 (cVs m.pl), .blk n false 57 (cVs m.pl), .blk n false 77 (cTs ((edS m).map (thE m))), .blk n false 2 []]
attribute [simp] ownE rowsE
theorem c_validClothE (m : Msh) (hv : vldM m = true) (hc : vldC (cloE m) = true) : Fun Try.prog 54 [ownE m 0] (rowsE false m) (.tup [ownE m 0, .bool true]) (rowsE false m) := by
  have := c_validCloth (cloE m) (cloE_small hv) hc
  simpa [cloE] using this
theorem c_validClothE0 (m : Msh) (hv : vldM m = true) (hc : vldC (cloE m) = false) : Fun Try.prog 54 [ownE m 0] (rowsE false m) (.tup [noC, .bool false]) (rowsE false m) := by
  have := c_validCloth0 (cloE m) (cloE_small hv) hc
  simpa [cloE] using this
theorem c_ClothOf (m : Msh) (hs : m.Small) (hv : vldM m = true) (hc : vldC (cloE m) = true) : Fun Try.prog 23 [m.av] [] (.tup [ownE m 0, .bool true]) (rowsE true m) := by
  obtain ⟨hl1, hl2⟩ := vldM_len hv
  have hel := edS_len hv
  refine FnSpec.walk dr_ok Try.func23 rfl (by kernel_rfl) rfl rfl rfl (by simp) ?_
  simp
  (first | refine callG_r ?_ | refine callD_r ?_); simp; (first | refine callN_flat (by with_reducible first | exact c_ValidMesh m hs) rfl ?_ | refine callN_new (by with_reducible first | exact c_ValidMesh m hs) ?_ | refine callM_flat (by with_reducible first | exact c_ValidMesh m hs) rfl ?_ | refine callM_new (by with_reducible first | exact c_ValidMesh m hs) ?_)
  simp [hv]
  refine ⟨by omega, by omega, by omega, by omega, ?_⟩
  (first | refine callG_r ?_ | refine callD_r ?_); simp; (first | refine callN_flat (by with_reducible first | exact c_tbe m hs hv (edgesOk hv)) rfl ?_ | refine callN_new (by with_reducible first | exact c_tbe m hs hv (edgesOk hv)) ?_ | refine callM_flat (by with_reducible first | exact c_tbe m hs hv (edgesOk hv)) rfl ?_ | refine callM_new (by with_reducible first | exact c_tbe m hs hv (edgesOk hv)) ?_)
  simp
  refine loopG_of (α := Nat) (fun k => k ≤ (edS m).length) (fun k => (edS m).length - k) (fun k => [(1, .ptr 0 0), (2, .ptr 1 0), (4, .ptr 4 0), (27, .slc 5 0 (edS m).length 2), (28, .int .i64 (edS m).length), (29, .int .i64 k)])
    (fun k => [.blk true true 55 m.cells, .blk true true 33 [.nils, .nils, .nils, .nils], .blk true false 57 (cVs m.pl), .blk true false 57 (cVs m.pl),
      .blk true true 33 [.slc 2 0 m.pl.length 3, .slc 3 0 m.pl.length 3, .slc 6 0 k 3, .slc 7 0 0 1], .blk true false 107 (cEs (edS m)), .blk true false 77 (cTs (thN m k)), .blk true false 2 []]) 0 (by simp) ?_ fun k hk => ?_
  · (refine weak_gc [(some 0, 0), (some 1, 0), (some 2, 0), (some 3, 0), (some 4, 0), (some 5, 0), (none, 77), (none, 2)] ?_ ?_ ?_ ?_ ?_ <;> simp [thN])
  have hw := nat_wrap (k := k) (by omega)
  have htl := thN_len hk
  by_cases b : k < (edS m).length
  · obtain ⟨p, q, he, hpq, hqn⟩ := ed_at hv b
    simp [b, hw, he]
    (first | refine callG_r ?_ | refine callD_r ?_); simp; (first | refine callN_flat (by with_reducible first | exact c_longOfEdge m p q (by omega) hqn hl1) rfl ?_ | refine callN_new (by with_reducible first | exact c_longOfEdge m p q (by omega) hqn hl1) ?_ | refine callM_flat (by with_reducible first | exact c_longOfEdge m p q (by omega) hqn hl1) rfl ?_ | refine callM_new (by with_reducible first | exact c_longOfEdge m p q (by omega) hqn hl1) ?_)
    have htk : (thN m k).take k = thN m k := List.take_of_length_le (by omega)
    simp [one_splice, one_take, htl, htk]
    refine ⟨by omega, by omega, ?_⟩
    have hnx : thN m (k + 1) = thN m k ++ [((p : Int), (q : Int), longE m ((p : Int), (q : Int)))] := by rw [thN_succ b, he]; rfl
    refine loopK_next (k + 1) (by omega) (by omega) ?_
    rw [hnx]
    (refine weak_gc [(some 0, 0), (some 1, 0), (some 2, 0), (some 3, 0), (some 4, 0), (some 5, 0), (some 10, 0), (some 7, 0)] ?_ ?_ ?_ ?_ ?_ <;> simp [hw])
  · obtain rfl : k = (edS m).length := by omega
    simp
    have hth : thN m (edS m).length = (edS m).map (thE m) := by unfold thN; rw [List.take_length]
    rw [hth]
    (first | refine callG_on true [2, 3, 6, 7] ?_ | refine callD_on true [2, 3, 6, 7] ?_); simp; (first | refine callN_fun (by with_reducible exact c_validClothE m hv hc) (by simp) ?_ | refine callMD_fun (by with_reducible exact c_validClothE m hv hc) (by simp) ?_)
    simp
    (refine endG_keepT [(some 2, 0), (some 3, 0), (some 6, 0), (some 7, 0)] ?_ ?_ ?_ ?_ ?_ ?_ ?_ ⟨rfl, rfl⟩ ?_ <;> simp)
theorem c_ClothOf0 (m : Msh) (hs : m.Small) (hv : vldM m = true) (hc : vldC (cloE m) = false) : Fun Try.prog 23 [m.av] [] (.tup [noC, .bool false]) [] := by
  obtain ⟨hl1, hl2⟩ := vldM_len hv
  have hel := edS_len hv
  refine FnSpec.walk dr_ok Try.func23 rfl (by kernel_rfl) rfl rfl rfl (by simp) ?_
  simp
  (first | refine callG_r ?_ | refine callD_r ?_); simp; (first | refine callN_flat (by with_reducible first | exact c_ValidMesh m hs) rfl ?_ | refine callN_new (by with_reducible first | exact c_ValidMesh m hs) ?_ | refine callM_flat (by with_reducible first | exact c_ValidMesh m hs) rfl ?_ | refine callM_new (by with_reducible first | exact c_ValidMesh m hs) ?_)
  simp [hv]
  refine ⟨by omega, by omega, by omega, by omega, ?_⟩
  (first | refine callG_r ?_ | refine callD_r ?_); simp; (first | refine callN_flat (by with_reducible first | exact c_tbe m hs hv (edgesOk hv)) rfl ?_ | refine callN_new (by with_reducible first | exact c_tbe m hs hv (edgesOk hv)) ?_ | refine callM_flat (by with_reducible first | exact c_tbe m hs hv (edgesOk hv)) rfl ?_ | refine callM_new (by with_reducible first | exact c_tbe m hs hv (edgesOk hv)) ?_)
  simp
  refine loopG_of (α := Nat) (fun k => k ≤ (edS m).length) (fun k => (edS m).length - k) (fun k => [(1, .ptr 0 0), (2, .ptr 1 0), (4, .ptr 4 0), (27, .slc 5 0 (edS m).length 2), (28, .int .i64 (edS m).length), (29, .int .i64 k)])
    (fun k => [.blk true true 55 m.cells, .blk true true 33 [.nils, .nils, .nils, .nils], .blk true false 57 (cVs m.pl), .blk true false 57 (cVs m.pl),
      .blk true true 33 [.slc 2 0 m.pl.length 3, .slc 3 0 m.pl.length 3, .slc 6 0 k 3, .slc 7 0 0 1], .blk true false 107 (cEs (edS m)), .blk true false 77 (cTs (thN m k)), .blk true false 2 []]) 0 (by simp) ?_ fun k hk => ?_
  · (refine weak_gc [(some 0, 0), (some 1, 0), (some 2, 0), (some 3, 0), (some 4, 0), (some 5, 0), (none, 77), (none, 2)] ?_ ?_ ?_ ?_ ?_ <;> simp [thN])
  have hw := nat_wrap (k := k) (by omega)
  have htl := thN_len hk
  by_cases b : k < (edS m).length
  · obtain ⟨p, q, he, hpq, hqn⟩ := ed_at hv b
    simp [b, hw, he]
    (first | refine callG_r ?_ | refine callD_r ?_); simp; (first | refine callN_flat (by with_reducible first | exact c_longOfEdge m p q (by omega) hqn hl1) rfl ?_ | refine callN_new (by with_reducible first | exact c_longOfEdge m p q (by omega) hqn hl1) ?_ | refine callM_flat (by with_reducible first | exact c_longOfEdge m p q (by omega) hqn hl1) rfl ?_ | refine callM_new (by with_reducible first | exact c_longOfEdge m p q (by omega) hqn hl1) ?_)
    have htk : (thN m k).take k = thN m k := List.take_of_length_le (by omega)
    simp [one_splice, one_take, htl, htk]
    refine ⟨by omega, by omega, ?_⟩
    have hnx : thN m (k + 1) = thN m k ++ [((p : Int), (q : Int), longE m ((p : Int), (q : Int)))] := by rw [thN_succ b, he]; rfl
    refine loopK_next (k + 1) (by omega) (by omega) ?_
    rw [hnx]
    (refine weak_gc [(some 0, 0), (some 1, 0), (some 2, 0), (some 3, 0), (some 4, 0), (some 5, 0), (some 10, 0), (some 7, 0)] ?_ ?_ ?_ ?_ ?_ <;> simp [hw])
  · obtain rfl : k = (edS m).length := by omega
    simp
    have hth : thN m (edS m).length = (edS m).map (thE m) := by unfold thN; rw [List.take_length]
    rw [hth]
    (first | refine callG_on true [2, 3, 6, 7] ?_ | refine callD_on true [2, 3, 6, 7] ?_); simp; (first | refine callN_fun (by with_reducible exact c_validClothE0 m hv hc) (by simp) ?_ | refine callMD_fun (by with_reducible exact c_validClothE0 m hv hc) (by simp) ?_)
    simp [noC]
    (refine endG_keepT [] ?_ ?_ ?_ ?_ ?_ ?_ ?_ ⟨rfl, rfl⟩ ?_ <;> simp [noC])
theorem c_ClothOf1 (m : Msh) (hs : m.Small) (hv : vldM m = false) : Fun Try.prog 23 [m.av] [] (.tup [noC, .bool false]) [] := by
  refine FnSpec.walk dr_ok Try.func23 rfl (by kernel_rfl) rfl rfl rfl (by simp) ?_
  simp
  (first | refine callG_r ?_ | refine callD_r ?_); simp; (first | refine callN_flat (by with_reducible first | exact c_ValidMesh m hs) rfl ?_ | refine callN_new (by with_reducible first | exact c_ValidMesh m hs) ?_ | refine callM_flat (by with_reducible first | exact c_ValidMesh m hs) rfl ?_ | refine callM_new (by with_reducible first | exact c_ValidMesh m hs) ?_)
  simp [hv]
  (refine endG_keepT [] ?_ ?_ ?_ ?_ ?_ ?_ ?_ ⟨rfl, rfl⟩ ?_ <;> simp [noC])
theorem thr_ok {m : Msh} (hv : vldM m = true) {e : Ed} (he : e ∈ edS m) : thrB m.pl.length (thE m e) = overB (longE m e) := by
  have hr := ed_in hv ((mem_edS hv).1 he)
  unfold thrB thE inB
  rw [decide_eq_true (p := (0 : Int) ≤ e.1) (by omega), decide_eq_true (p := e.1 ≤ (m.pl.length : Int) - 1) (by omega), decide_eq_true (p := (0 : Int) ≤ e.2) (by omega), decide_eq_true (p := e.2 ≤ (m.pl.length : Int) - 1) (by omega), decide_eq_false (p := e.1 = e.2) (by omega)]
  simp
theorem vldC_cloE {m : Msh} (hv : vldM m = true) : vldC (cloE m) = (decide ((edS m).length ≤ 256) && (edS m).all fun e => overB (longE m e)) := by
  have h1 := (vldM_len hv).1
  have h2 : ((edS m).map (thE m)).all (thrB m.pl.length) = (edS m).all fun e => overB (longE m e) := by
    rw [List.all_map, Bool.eq_iff_iff, List.all_eq_true, List.all_eq_true]
    exact ⟨fun h e he => by rw [← thr_ok hv he]; exact h e he, fun h e he => by show thrB _ (thE m e) = true; rw [thr_ok hv he]; exact h e he⟩
  unfold vldC cloE
  simp only [List.length_map, h2]
  rw [decide_eq_true (p := m.pl.length ≤ 64) h1]
  simp [pinsF]

end Go.Proofs.Ytnpflgeenecaeaa
namespace Go.Proofs.Ytnpflgeenecaeaa
set_option linter.all false
open Go Go.Awp
set_option maxRecDepth 100000
set_option maxHeartbeats 4000000
set_option pp.deepTerms true

-- the reference
theorem c_LongsOf0 (m : Msh) (hs : m.Small) (hv : vldM m = false) : Fun Try.prog 47 [m.av] [] (.tup [.nils, .bool false]) [] := by
  refine FnSpec.walk dr_ok Try.func47 rfl (by kernel_rfl) rfl rfl rfl (by simp) ?_
  simp
  (first | refine callG_r ?_ | refine callD_r ?_); simp; (first | refine callN_flat (by with_reducible first | exact c_l02Is m [] hs) rfl ?_ | refine callN_new (by with_reducible first | exact c_l02Is m [] hs) ?_ | refine callM_flat (by with_reducible first | exact c_l02Is m [] hs) rfl ?_ | refine callM_new (by with_reducible first | exact c_l02Is m [] hs) ?_)
  simp [hv]
  (refine endG_keepT [] ?_ ?_ ?_ ?_ ?_ ?_ ?_ ⟨rfl, rfl⟩ ?_ <;> simp)
def lnN (m : Msh) (k : Nat) : List Nat := ((edS m).take k).map (longE m)
theorem lnN_succ {m : Msh} {k : Nat} (h : k < (edS m).length) : lnN m (k + 1) = lnN m k ++ [longE m (edS m)[k]] := by
  unfold lnN
  rw [List.take_succ_eq_append_getElem h, List.map_append]; rfl
theorem lnN_len {m : Msh} {k : Nat} (h : k ≤ (edS m).length) : (lnN m k).length = k := by simp [lnN]; omega
theorem ekey_at {m : Msh} {k : Nat} {p q : Nat} (h : k < (edS m).length) (he : (edS m)[k] = ((p : Int), (q : Int))) : ((edS m).map ekey)[k]'(by simpa using h) = [(p : Int), (q : Int)] := by
  rw [List.getElem_map, he]; rfl
theorem c_LongsOf (m : Msh) (hs : m.Small) (hv : vldM m = true) : Fun Try.prog 47 [m.av] [] (.tup [.slc 0 0 (edS m).length 1, .bool true]) [.blk true false 44 (cFs ((edS m).map (longE m)))] := by
  obtain ⟨hl1, hl2⟩ := vldM_len hv
  have hel := edS_len hv
  refine FnSpec.walk dr_ok Try.func47 rfl (by kernel_rfl) rfl rfl rfl (by simp) ?_
  simp
  (first | refine callG_r ?_ | refine callD_r ?_); simp; (first | refine callN_flat (by with_reducible first | exact c_l02Is m [] hs) rfl ?_ | refine callN_new (by with_reducible first | exact c_l02Is m [] hs) ?_ | refine callM_flat (by with_reducible first | exact c_l02Is m [] hs) rfl ?_ | refine callM_new (by with_reducible first | exact c_l02Is m [] hs) ?_)
  simp [hv]
  (first | refine callG_r ?_ | refine callD_r ?_); simp; (first | refine callN_flat (by with_reducible first | exact c_l02Edges m [] hs hv) rfl ?_ | refine callN_new (by with_reducible first | exact c_l02Edges m [] hs hv) ?_ | refine callM_flat (by with_reducible first | exact c_l02Edges m [] hs hv) rfl ?_ | refine callM_new (by with_reducible first | exact c_l02Edges m [] hs hv) ?_)
  simp
  refine loopG_of (α := Nat) (fun k => k ≤ (edS m).length) (fun k => (edS m).length - k) (fun k => [(1, .ptr 0 0), (4, .slc 1 0 (edS m).length 1), (5, .slc 2 0 k 1), (6, .int .i64 k)])
    (fun k => [.blk true true 55 m.cells, .blk true false 24 (cRs true ((edS m).map ekey)), .blk true false 44 (cFs (lnN m k))]) 0 (by simp) ?_ fun k hk => ?_
  · (refine weak_gc [(some 0, 0), (some 1, 0), (none, 44)] ?_ ?_ ?_ ?_ ?_ <;> simp [lnN])
  have hw := nat_wrap (k := k) (by omega)
  have htl := lnN_len hk
  by_cases b : k < (edS m).length
  · obtain ⟨p, q, he, hpq, hqn⟩ := ed_at hv b
    have hpn : p < m.pl.length := by omega
    have hkk := ekey_at b he
    have hkl : k < ((edS m).map ekey).length := by simpa using b
    simp [b, hw, he, hkl, hkk, hpn, hqn, -List.getElem_map]
    (first | refine callG_r ?_ | refine callD_r ?_); simp; (first | refine callN_flat (by with_reducible first | exact c_l01Less _ _ _ _ _ _) rfl ?_ | refine callN_new (by with_reducible first | exact c_l01Less _ _ _ _ _ _) ?_ | refine callM_flat (by with_reducible first | exact c_l01Less _ _ _ _ _ _) rfl ?_ | refine callM_new (by with_reducible first | exact c_l01Less _ _ _ _ _ _) ?_)
    simp
    (first | refine callG_r ?_ | refine callD_r ?_); simp; (first | refine callN_flat (by with_reducible first | exact c_l01Long _ _ _) rfl ?_ | refine callN_new (by with_reducible first | exact c_l01Long _ _ _) ?_ | refine callM_flat (by with_reducible first | exact c_l01Long _ _ _) rfl ?_ | refine callM_new (by with_reducible first | exact c_l01Long _ _ _) ?_)
    simp [htl]
    have htk : (lnN m k).take k = lnN m k := List.take_of_length_le (by omega)
    simp [htk]
    refine ⟨by omega, by omega, ?_⟩
    have hnx : lnN m (k + 1) = lnN m k ++ [vlong (vsub m.pl[p] m.pl[q])] := by rw [lnN_succ b, he, longE_at hpn hqn]
    refine loopK_next (k + 1) (by omega) (by omega) ?_
    rw [hnx]
    (refine weak_gc [(some 0, 0), (some 1, 0), (some 4, 0)] ?_ ?_ ?_ ?_ ?_ <;> simp [hw])
  · obtain rfl : k = (edS m).length := by omega
    simp
    have hln : lnN m (edS m).length = (edS m).map (longE m) := by unfold lnN; rw [List.take_length]
    rw [hln]
    (refine endG_keepT [(some 2, 0)] ?_ ?_ ?_ ?_ ?_ ?_ ?_ ⟨rfl, rfl⟩ ?_ <;> simp)
theorem c_specClothOf1 (m : Msh) (hs : m.Small) (hv : vldM m = false) : Fun Try.prog 21 [m.av] [] (.tup [noC, .bool false]) [] := by
  refine FnSpec.walk dr_ok Try.func21 rfl (by kernel_rfl) rfl rfl rfl (by simp) ?_
  simp
  (first | refine callG_r ?_ | refine callD_r ?_); simp; (first | refine callN_flat (by with_reducible first | exact c_LongsOf0 m hs hv) rfl ?_ | refine callN_new (by with_reducible first | exact c_LongsOf0 m hs hv) ?_ | refine callM_flat (by with_reducible first | exact c_LongsOf0 m hs hv) rfl ?_ | refine callM_new (by with_reducible first | exact c_LongsOf0 m hs hv) ?_)
  simp
  (refine endG_keepT [] ?_ ?_ ?_ ?_ ?_ ?_ ?_ ⟨rfl, rfl⟩ ?_ <;> simp [noC])
theorem c_specClothOf (m : Msh) (hs : m.Small) (hv : vldM m = true) (hc : vldC (cloE m) = true) : Fun Try.prog 21 [m.av] [] (.tup [ownE m 0, .bool true]) (rowsE true m) := by
  obtain ⟨hl1, hl2⟩ := vldM_len hv
  have hel := edS_len hv
  rw [vldC_cloE hv, Bool.and_eq_true, decide_eq_true_eq, List.all_eq_true] at hc
  obtain ⟨hc1, hc2⟩ := hc
  refine FnSpec.walk dr_ok Try.func21 rfl (by kernel_rfl) rfl rfl rfl (by simp) ?_
  simp
  (first | refine callG_r ?_ | refine callD_r ?_); simp; (first | refine callN_flat (by with_reducible first | exact c_LongsOf m hs hv) rfl ?_ | refine callN_new (by with_reducible first | exact c_LongsOf m hs hv) ?_ | refine callM_flat (by with_reducible first | exact c_LongsOf m hs hv) rfl ?_ | refine callM_new (by with_reducible first | exact c_LongsOf m hs hv) ?_)
  simp [hc1]
  refine ⟨fun h => by omega, fun _ => ?_⟩
  (first | refine callG_r ?_ | refine callD_r ?_); simp; (first | refine callN_flat (by with_reducible first | exact c_l02Edges m [] hs hv) rfl ?_ | refine callN_new (by with_reducible first | exact c_l02Edges m [] hs hv) ?_ | refine callM_flat (by with_reducible first | exact c_l02Edges m [] hs hv) rfl ?_ | refine callM_new (by with_reducible first | exact c_l02Edges m [] hs hv) ?_)
  simp
  refine ⟨by omega, by omega, by omega, by omega, ?_⟩
  refine loopG_of (α := Nat) (fun k => k ≤ (edS m).length) (fun k => (edS m).length - k) (fun k => [(2, .ptr 1 0), (4, .slc 2 0 (edS m).length 1), (6, .slc 3 0 (edS m).length 1), (7, .ptr 5 0), (8, .int .i64 k)])
    (fun k => [.blk true true 55 m.cells, .blk true true 33 [.nils, .nils, .nils, .nils], .blk true false 44 (cFs ((edS m).map (longE m))), .blk true false 24 (cRs true ((edS m).map ekey)), .blk true false 57 (cVs m.pl),
      .blk true true 33 [.slc 4 0 m.pl.length 3, .slc 6 0 m.pl.length 3, .slc 7 0 k 3, .slc 8 0 0 1], .blk true false 57 (cVs m.pl), .blk true false 77 (cTs (thN m k)), .blk true false 2 []]) 0 (by simp) ?_ fun k hk => ?_
  · (refine weak_gc [(some 0, 0), (some 1, 0), (some 2, 0), (some 3, 0), (some 4, 0), (some 5, 0), (some 6, 0), (none, 77), (none, 2)] ?_ ?_ ?_ ?_ ?_ <;> simp [thN])
  have hw := nat_wrap (k := k) (by omega)
  have htl := thN_len hk
  by_cases b : k < (edS m).length
  · obtain ⟨p, q, he, hpq, hqn⟩ := ed_at hv b
    have hpn : p < m.pl.length := by omega
    have hkk := ekey_at b he
    have hkl : k < ((edS m).map ekey).length := by simpa using b
    have hkf : k < ((edS m).map (longE m)).length := by simpa using b
    have hke : ((edS m).map (longE m))[k] = longE m ((p : Int), (q : Int)) := by rw [List.getElem_map, he]
    simp [b, hw, hkf, hke, -List.getElem_map]
    (first | refine callG_r ?_ | refine callD_r ?_); simp; (first | refine callN_flat (by with_reducible first | exact c_l02Size _) rfl ?_ | refine callN_new (by with_reducible first | exact c_l02Size _) ?_ | refine callM_flat (by with_reducible first | exact c_l02Size _) rfl ?_ | refine callM_new (by with_reducible first | exact c_l02Size _) ?_)
    have hov : overB (longE m ((p : Int), (q : Int))) = true := hc2 _ (by rw [← he]; exact List.getElem_mem b)
    rw [hov]
    simp [b, hw, hkl, hkk, hkf, hke, -List.getElem_map]
    have htk : (thN m k).take k = thN m k := List.take_of_length_le (by omega)
    simp [one_splice, one_take, htl, htk]
    refine ⟨by omega, by omega, ?_⟩
    have hnx : thN m (k + 1) = thN m k ++ [((p : Int), (q : Int), longE m ((p : Int), (q : Int)))] := by rw [thN_succ b, he]; rfl
    refine loopK_next (k + 1) (by omega) (by omega) ?_
    rw [hnx]
    (refine weak_gc [(some 0, 0), (some 1, 0), (some 2, 0), (some 3, 0), (some 4, 0), (some 5, 0), (some 6, 0), (some 10, 0), (some 8, 0)] ?_ ?_ ?_ ?_ ?_ <;> simp [hw])
  · obtain rfl : k = (edS m).length := by omega
    simp
    have hth : thN m (edS m).length = (edS m).map (thE m) := by unfold thN; rw [List.take_length]
    rw [hth]
    (refine endG_keepT [(some 4, 0), (some 6, 0), (some 7, 0), (some 8, 0)] ?_ ?_ ?_ ?_ ?_ ?_ ?_ ⟨rfl, rfl⟩ ?_ <;> simp)
theorem c_specClothOf3 (m : Msh) (hs : m.Small) (hv : vldM m = true) (hc1 : (edS m).length ≤ 256) (hc2 : ((edS m).all fun e => overB (longE m e)) = false) : Fun Try.prog 21 [m.av] [] (.tup [noC, .bool false]) [] := by
  obtain ⟨hl1, hl2⟩ := vldM_len hv
  have hel := edS_len hv
  refine FnSpec.walk dr_ok Try.func21 rfl (by kernel_rfl) rfl rfl rfl (by simp) ?_
  simp
  (first | refine callG_r ?_ | refine callD_r ?_); simp; (first | refine callN_flat (by with_reducible first | exact c_LongsOf m hs hv) rfl ?_ | refine callN_new (by with_reducible first | exact c_LongsOf m hs hv) ?_ | refine callM_flat (by with_reducible first | exact c_LongsOf m hs hv) rfl ?_ | refine callM_new (by with_reducible first | exact c_LongsOf m hs hv) ?_)
  simp [hc1]
  refine ⟨fun h => by omega, fun _ => ?_⟩
  (first | refine callG_r ?_ | refine callD_r ?_); simp; (first | refine callN_flat (by with_reducible first | exact c_l02Edges m [] hs hv) rfl ?_ | refine callN_new (by with_reducible first | exact c_l02Edges m [] hs hv) ?_ | refine callM_flat (by with_reducible first | exact c_l02Edges m [] hs hv) rfl ?_ | refine callM_new (by with_reducible first | exact c_l02Edges m [] hs hv) ?_)
  simp
  refine ⟨by omega, by omega, by omega, by omega, ?_⟩
  refine loopG_of (α := Nat) (fun k => k ≤ (edS m).length ∧ (((edS m).drop k).all fun e => overB (longE m e)) = false) (fun k => (edS m).length - k) (fun k => [(2, .ptr 1 0), (4, .slc 2 0 (edS m).length 1), (6, .slc 3 0 (edS m).length 1), (7, .ptr 5 0), (8, .int .i64 k)])
    (fun k => [.blk true true 55 m.cells, .blk true true 33 [.nils, .nils, .nils, .nils], .blk true false 44 (cFs ((edS m).map (longE m))), .blk true false 24 (cRs true ((edS m).map ekey)), .blk true false 57 (cVs m.pl),
      .blk true true 33 [.slc 4 0 m.pl.length 3, .slc 6 0 m.pl.length 3, .slc 7 0 k 3, .slc 8 0 0 1], .blk true false 57 (cVs m.pl), .blk true false 77 (cTs (thN m k)), .blk true false 2 []]) 0 ⟨by simp, by simpa using hc2⟩ ?_ fun k ⟨hk, hi⟩ => ?_
  · (refine weak_gc [(some 0, 0), (some 1, 0), (some 2, 0), (some 3, 0), (some 4, 0), (some 5, 0), (some 6, 0), (none, 77), (none, 2)] ?_ ?_ ?_ ?_ ?_ <;> simp [thN])
  have hw := nat_wrap (k := k) (by omega)
  have htl := thN_len hk
  by_cases b : k < (edS m).length
  · obtain ⟨p, q, he, hpq, hqn⟩ := ed_at hv b
    have hpn : p < m.pl.length := by omega
    have hkk := ekey_at b he
    have hkl : k < ((edS m).map ekey).length := by simpa using b
    have hkf : k < ((edS m).map (longE m)).length := by simpa using b
    have hke : ((edS m).map (longE m))[k] = longE m ((p : Int), (q : Int)) := by rw [List.getElem_map, he]
    simp [b, hw, hkf, hke, -List.getElem_map]
    (first | refine callG_r ?_ | refine callD_r ?_); simp; (first | refine callN_flat (by with_reducible first | exact c_l02Size _) rfl ?_ | refine callN_new (by with_reducible first | exact c_l02Size _) ?_ | refine callM_flat (by with_reducible first | exact c_l02Size _) rfl ?_ | refine callM_new (by with_reducible first | exact c_l02Size _) ?_)
    rw [List.drop_eq_getElem_cons b, List.all_cons, he] at hi
    generalize hov : overB (longE m ((p : Int), (q : Int))) = ov at *
    cases ov with
    | false =>
      simp
      (refine endG_keepT [] ?_ ?_ ?_ ?_ ?_ ?_ ?_ ⟨rfl, rfl⟩ ?_ <;> simp [noC])
    | true =>
    simp at hi
    simp [b, hw, hkl, hkk, hkf, hke, -List.getElem_map]
    have htk : (thN m k).take k = thN m k := List.take_of_length_le (by omega)
    simp [one_splice, one_take, htl, htk]
    refine ⟨by omega, by omega, ?_⟩
    have hnx : thN m (k + 1) = thN m k ++ [((p : Int), (q : Int), longE m ((p : Int), (q : Int)))] := by rw [thN_succ b, he]; rfl
    refine loopK_next (k + 1) (by omega) ⟨by omega, by simpa using hi⟩ ?_
    rw [hnx]
    (refine weak_gc [(some 0, 0), (some 1, 0), (some 2, 0), (some 3, 0), (some 4, 0), (some 5, 0), (some 6, 0), (some 10, 0), (some 8, 0)] ?_ ?_ ?_ ?_ ?_ <;> simp [hw])
  · obtain rfl : k = (edS m).length := by omega
    simp at hi
theorem c_specClothOf2 (m : Msh) (hs : m.Small) (hv : vldM m = true) (hc1 : ¬ (edS m).length ≤ 256) : Fun Try.prog 21 [m.av] [] (.tup [noC, .bool false]) [] := by
  have hel := edS_len hv
  have h1 : (256 : Int) < (edS m).length := by omega
  refine FnSpec.walk dr_ok Try.func21 rfl (by kernel_rfl) rfl rfl rfl (by simp) ?_
  simp
  (first | refine callG_r ?_ | refine callD_r ?_); simp; (first | refine callN_flat (by with_reducible first | exact c_LongsOf m hs hv) rfl ?_ | refine callN_new (by with_reducible first | exact c_LongsOf m hs hv) ?_ | refine callM_flat (by with_reducible first | exact c_LongsOf m hs hv) rfl ?_ | refine callM_new (by with_reducible first | exact c_LongsOf m hs hv) ?_)
  simp [h1]
  (refine endG_keepT [] ?_ ?_ ?_ ?_ ?_ ?_ ?_ ⟨rfl, rfl⟩ ?_ <;> simp [noC])
theorem c_specClothOf0 (m : Msh) (hs : m.Small) (hv : vldM m = true) (hc : vldC (cloE m) = false) : Fun Try.prog 21 [m.av] [] (.tup [noC, .bool false]) [] := by
  by_cases h : (edS m).length ≤ 256
  · refine c_specClothOf3 m hs hv h ?_
    rw [vldC_cloE hv, decide_eq_true h] at hc
    simpa using hc
  · exact c_specClothOf2 m hs hv h
end Go.Proofs.Ytnpflgeenecaeaa
