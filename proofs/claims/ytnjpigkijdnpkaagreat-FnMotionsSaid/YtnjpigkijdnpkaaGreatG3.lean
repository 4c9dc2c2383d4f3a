/- All edges, as the reference reckons them. Plain law: the edges that the program sorts are those that the reference reads off its table. Plain law: the hinges that the program reads off its table are those that the reference counts. Copies of meshes and bodies; bodies that are moved. Contracts of what bodies reckon with: normals, bends, pulls of springs. Hinges, as the program and the reference reckon them.
Conditions: none. -/
import Derived.Test.YtnjpigkijdnpkaaGreatG2
import Derived.Test.YtnjpigkijdnpkaaGreatG1
namespace Go.Proofs.YtnjpigkijdnpkaaGreat
set_option linter.all false
open Go Go.Awp
set_option maxRecDepth 100000
set_option maxHeartbeats 4000000
set_option pp.deepTerms true

theorem c_l00MinL (a b : Int) : Fun Tryz.prog 86 [.int .i64 a, .int .i64 b] [] (.int .i64 (loI a b)) [] := by
  refine FnSpec.walkF dr_ok Tryz.func86 rfl (by kernel_rfl) rfl rfl rfl (by simp) ?_
  simp [loI]
  constructor <;> intros <;> omega
theorem c_l00MaxL (a b : Int) : Fun Tryz.prog 87 [.int .i64 a, .int .i64 b] [] (.int .i64 (hiI a b)) [] := by
  refine FnSpec.walkF dr_ok Tryz.func87 rfl (by kernel_rfl) rfl rfl rfl (by simp) ?_
  simp [hiI]
  constructor <;> intros <;> omega

/-- The edges of triangles, as they are met. -/
def edT (t : List Int) (k : Nat) : List Ed := (List.range k).map (edAt t)
def edL (T : List (List Int)) : List Ed := T.flatMap fun t => edT t 3
/-- A table of the edges that were met. -/
def tab (n : Nat) (E : List Ed) : List Bool := (List.range (n * n)).map fun (j : Nat) => E.any fun e => e.1 * n + e.2 == (j : Int)
@[simp] theorem tab_length (n : Nat) (E : List Ed) : (tab n E).length = n * n := by simp [tab]
theorem tab_nil (n : Nat) : tab n [] = List.replicate (n * n) false := by simp [tab, List.map_const']
theorem tab_get {n : Nat} {E : List Ed} {j : Nat} (h : j < n * n) : (tab n E)[j]'(by simpa using h) = E.any fun e => e.1 * n + e.2 == (j : Int) := by simp [tab]
theorem tab_set {n : Nat} {E : List Ed} {e : Ed} {j : Nat} (h : j < n * n) (he : e.1 * n + e.2 = (j : Int)) : (tab n E).set j true = tab n (E ++ [e]) := by
  apply List.ext_getElem
  · simp
  · intro i h1 h2
    have hi : i < n * n := by simpa using h2
    rw [List.getElem_set, tab_get hi, tab_get hi]
    split
    · rename_i e'; subst e'
      rw [List.any_append]; simp [he]
    · rename_i e'
      rw [List.any_append]
      have : ((e.1 * n + e.2 == (i : Int)) : Bool) = false := by
        rw [he]; simp; omega
      simp [this]
/-- Edges in ascending order: those of one place; those of the places below one. -/
def rowS (n : Nat) (B : List Bool) (a b : Nat) : List Ed := ((List.range b).filter fun y => decide (a < y) && B.getD (a * n + y) false).map fun (y : Nat) => ((a : Int), (y : Int))
def allS (n : Nat) (B : List Bool) (a : Nat) : List Ed := (List.range a).flatMap fun x => rowS n B x n
theorem rowS_start (n : Nat) (B : List Bool) (a : Nat) : rowS n B a (a + 1) = [] := by
  unfold rowS
  rw [List.map_eq_nil_iff, List.filter_eq_nil_iff]
  intro y hy
  have := List.mem_range.1 hy
  simp; intro; omega
theorem rowS_step (n : Nat) (B : List Bool) (a b : Nat) (h : a < b) : rowS n B a (b + 1) = rowS n B a b ++ if B.getD (a * n + b) false then [((a : Int), (b : Int))] else [] := by
  unfold rowS
  rw [List.range_succ, List.filter_append, List.map_append]
  congr 1
  generalize hq : B.getD (a * n + b) false = q
  have hq' : B[a * n + b]?.getD false = q := by simpa using hq
  cases q <;> simp [h, hq', List.filter_cons]
theorem allS_step (n : Nat) (B : List Bool) (a : Nat) : allS n B (a + 1) = allS n B a ++ rowS n B a n := by
  unfold allS
  rw [List.range_succ, List.flatMap_append]; simp
theorem rowS_len (n : Nat) (B : List Bool) (a b : Nat) : (rowS n B a b).length ≤ b := by
  unfold rowS
  rw [List.length_map]
  have := List.length_filter_le (fun y => decide (a < y) && B.getD (a * n + y) false) (List.range b)
  simpa using this
theorem allS_len (n : Nat) (B : List Bool) (a : Nat) : (allS n B a).length ≤ a * n := by
  induction a with
  | zero => simp [allS]
  | succ a ih =>
    rw [allS_step, List.length_append]
    have := rowS_len n B a n
    rw [Nat.succ_mul]; omega
/-- The edges of a mesh, in ascending order. -/
def edS (m : Msh) : List Ed := allS m.pl.length (tab m.pl.length (edL m.tr)) m.pl.length
theorem mulb {a b n : Nat} (ha : a < n) (hb : b < n) (hn : n ≤ 64) : a * n + b < n * n ∧ n * n ≤ 4096 := by
  have h1 : (a + 1) * n ≤ n * n := Nat.mul_le_mul_right _ ha
  have h2 : n * n ≤ 64 * 64 := Nat.mul_le_mul hn hn
  rw [Nat.succ_mul] at h1
  omega
theorem c_l02Edges (m : Msh) (rest : List AV) (hs : m.Small) (hv : vldM m = true) : Fun Tryz.prog 60 [m.vp rest] [] (.slc 0 0 (edS m).length 1) [.blk true false 36 (cRs true ((edS m).map ekey))] := by
  obtain ⟨hl1, hl2⟩ := vldM_len hv
  have hnn : m.pl.length * m.pl.length ≤ 4096 := by have := Nat.mul_le_mul hl1 hl1; omega
  obtain ⟨N, hN⟩ : ∃ N, m.pl.length * m.pl.length = N := ⟨_, rfl⟩
  have hNI : (m.pl.length : Int) * m.pl.length = (N : Int) := by rw [← hN]; simp
  rw [hN] at hnn
  have hwn : IntKind.i64.wrap (N : Int) = (N : Int) := wrap64 (by omega) (by omega)
  refine FnSpec.walk dr_ok Tryz.func60 rfl (by kernel_rfl) rfl rfl rfl (by simp) ?_
  simp [hNI, hwn]
  refine ⟨by omega, by omega, ?_⟩
  refine loopG_of (α := Nat) (fun i => i ≤ m.tr.length) (fun i => m.tr.length - i) (fun i => [(5, .int .i64 i), (3, .int .i64 m.pl.length), (0, m.vp rest), (4, .slc 0 0 N 1)])
    (fun i => [.blk true false 4 (cBs (tab m.pl.length (edL (m.tr.take i))))]) 0 (by simp) ?_ fun i hi => ?_
  · refine weak_UH ?_ (by simp)
    simp [edL, tab_nil, hN]
  have hw := nat_wrap (k := i) (by omega)
  by_cases b : i < m.tr.length
  · obtain ⟨a1, a2, a3, ht, ha1, ha2, ha3, hd1, hd2, hd3⟩ := tri_of hv b
    simp [b, hw]
    rw [ht]
    refine loopG_of (α := Nat) (fun k => k ≤ 3) (fun k => 3 - k) (fun k => [(7, .int .i64 k), (6, .view false (cIs [a1, a2, a3]) 3), (5, .int .i64 i), (3, .int .i64 m.pl.length), (0, m.vp rest), (4, .slc 0 0 N 1)])
      (fun k => [.blk true false 4 (cBs (tab m.pl.length (edL (m.tr.take i) ++ edT [a1, a2, a3] k)))]) 0 (by simp) ?_ fun k hk => ?_
    · refine weak_UH ?_ (by simp)
      simp [edT]
    have hw2 := nat_wrap (k := k) (by omega)
    by_cases b2 : k < 3
    · have b3 : k < [a1, a2, a3].length := b2
      have b4 : (k : Int) < 3 := by omega
      obtain ⟨j, hj⟩ : ∃ j, (k + 1) % 3 = j := ⟨_, rfl⟩
      have hj3 : j < 3 := by omega
      have c3 : j < [a1, a2, a3].length := hj3
      have ej : ((k : Int) + 1).tmod 3 = (j : Int) := by
        rw [Int.tmod_eq_emod_of_nonneg (by omega)]; omega
      have hjI : (j : Int) < 3 := by omega
      have eEd : edAt [a1, a2, a3] k = (loI [a1, a2, a3][k] [a1, a2, a3][j], hiI [a1, a2, a3][k] [a1, a2, a3][j]) := by
        unfold edAt
        rw [hj, List.getD_eq_getElem?_getD, List.getD_eq_getElem?_getD, List.getElem?_eq_getElem b3, List.getElem?_eq_getElem c3]; rfl
      have hA : ∀ x ∈ [a1, a2, a3], 0 ≤ x ∧ x < m.pl.length := by
        simp [inB] at ha1 ha2 ha3
        intro x hx
        simp at hx
        rcases hx with rfl | rfl | rfl <;> omega
      have hAk := hA _ (List.getElem_mem b3)
      have hAj := hA _ (List.getElem_mem c3)
      obtain ⟨p, hp, hpn⟩ : ∃ p : Nat, loI [a1, a2, a3][k] [a1, a2, a3][j] = p ∧ p < m.pl.length := by
        refine ⟨(loI [a1, a2, a3][k] [a1, a2, a3][j]).toNat, ?_, ?_⟩ <;> (unfold loI; split <;> omega)
      obtain ⟨q, hq, hqn⟩ : ∃ q : Nat, hiI [a1, a2, a3][k] [a1, a2, a3][j] = q ∧ q < m.pl.length := by
        refine ⟨(hiI [a1, a2, a3][k] [a1, a2, a3][j]).toNat, ?_, ?_⟩ <;> (unfold hiI; split <;> omega)
      obtain ⟨hpq, _⟩ := mulb hpn hqn hl1
      obtain ⟨M, hM⟩ : ∃ M, p * m.pl.length = M := ⟨_, rfl⟩
      have hMI : (p : Int) * m.pl.length = (M : Int) := by rw [← hM]; simp
      rw [hM, hN] at hpq
      have hMq : (M : Int) + q = ((M + q : Nat) : Int) := by simp
      have w1 : IntKind.i64.wrap ((M : Int) + q) = (M : Int) + q := wrap64 (by omega) (by omega)
      have tn : ((M : Int) + q).toNat = M + q := by omega
      simp [b2, b3, b4, hw2, ej, hj3, hjI, c3]
      (first | refine callG_r ?_ | refine callD_r ?_); simp; (first | refine callN_flat (by with_reducible first | exact c_l00MinL _ _) rfl ?_ | refine callN_new (by with_reducible first | exact c_l00MinL _ _) ?_ | refine callM_flat (by with_reducible first | exact c_l00MinL _ _) rfl ?_ | refine callM_new (by with_reducible first | exact c_l00MinL _ _) ?_)
      rw [hp]
      simp [hMI]
      (first | refine callG_r ?_ | refine callD_r ?_); simp; (first | refine callN_flat (by with_reducible first | exact c_l00MaxL _ _) rfl ?_ | refine callN_new (by with_reducible first | exact c_l00MaxL _ _) ?_ | refine callM_flat (by with_reducible first | exact c_l00MaxL _ _) rfl ?_ | refine callM_new (by with_reducible first | exact c_l00MaxL _ _) ?_)
      rw [hq]
      have wM : IntKind.i64.wrap (M : Int) = (M : Int) := wrap64 (by omega) (by omega)
      simp [wM, w1, tn, hw2, hN]
      refine ⟨by omega, by omega, by omega, ?_⟩
      rw [cBs_splice (by rw [tab_length, hN]; exact hpq), tab_set (e := edAt [a1, a2, a3] k) (by rw [hN]; exact hpq) (by rw [eEd, hp, hq]; simp only; rw [hMI]; simp)]
      refine loopK_next (k + 1) (by omega) (by omega) (weak_UH ?_ (by simp [hw2]))
      simp [edT, List.range_succ]
    · obtain rfl : k = 3 := by omega
      simp [hw]
      refine loopK_next (i + 1) (by omega) (by omega) (weak_UH ?_ (by simp [hw]))
      rw [List.take_succ_eq_append_getElem b, ht]
      simp [edL]
  · obtain rfl : i = m.tr.length := by omega
    simp
    have eB : tab m.pl.length (edL m.tr) = tab m.pl.length (edL m.tr) := rfl
    generalize hB : tab m.pl.length (edL m.tr) = B at eB
    have hBl : B.length = N := by rw [← hB, tab_length, hN]
    refine loopG_of (α := Nat) (fun a => a ≤ m.pl.length) (fun a => m.pl.length - a) (fun a => [(11, .int .i64 a), (3, .int .i64 m.pl.length), (4, .slc 0 0 N 1), (10, .slc 1 0 (allS m.pl.length B a).length 1)])
      (fun a => [.blk true false 4 (cBs B), .blk true false 36 (cRs true ((allS m.pl.length B a).map ekey))]) 0 (by simp) ?_ fun a ha => ?_
    · (refine weak_gc [(some 0, 0), (none, 36)] ?_ ?_ ?_ ?_ ?_ <;> simp [hB, allS])
    have hwa := nat_wrap (k := a) (by omega)
    by_cases ba : a < m.pl.length
    · simp [ba, hwa]
      refine loopG_of (α := Nat) (fun b => a < b ∧ b ≤ m.pl.length) (fun b => m.pl.length - b) (fun b => [(12, .int .i64 b), (11, .int .i64 a), (3, .int .i64 m.pl.length), (4, .slc 0 0 N 1), (10, .slc 1 0 (allS m.pl.length B a ++ rowS m.pl.length B a b).length 1)])
        (fun b => [.blk true false 4 (cBs B), .blk true false 36 (cRs true ((allS m.pl.length B a ++ rowS m.pl.length B a b).map ekey))]) (a + 1) ⟨by omega, by omega⟩ ?_ fun b' ⟨hb1, hb2⟩ => ?_
      · refine weak_UH ?_ (by simp [rowS_start, hwa])
        rw [rowS_start, List.append_nil]
      have hwb := nat_wrap (k := b') (by omega)
      by_cases bb : b' < m.pl.length
      · obtain ⟨hpq, _⟩ := mulb ba bb hl1
        obtain ⟨M, hM⟩ : ∃ M, a * m.pl.length = M := ⟨_, rfl⟩
        have hMI : (a : Int) * m.pl.length = (M : Int) := by rw [← hM]; simp
        rw [hM, hN] at hpq
        have w1 : IntKind.i64.wrap ((M : Int) + b') = (M : Int) + b' := wrap64 (by omega) (by omega)
        have tn : ((M : Int) + b').toNat = M + b' := by omega
        have wM : IntKind.i64.wrap (M : Int) = (M : Int) := wrap64 (by omega) (by omega)
        have hBq : M + b' < B.length := by omega
        simp [bb, hwb, hMI, wM, w1, tn, hBq]
        have eg : B.getD (a * m.pl.length + b') false = B[M + b'] := by rw [hM, List.getD_eq_getElem?_getD, List.getElem?_eq_getElem hBq]; rfl
        have hla := allS_len m.pl.length B a
        have hlb := rowS_len m.pl.length B a b'
        rw [hM] at hla
        refine ⟨by omega, by omega, fun h => ⟨by omega, by omega, ?_⟩, fun h => ?_⟩
        · have ec : cRs true (List.take ((allS m.pl.length B a).length + (rowS m.pl.length B a b').length) (List.map ekey (allS m.pl.length B a) ++ List.map ekey (rowS m.pl.length B a b'))) ++ [AV.view true (cIs [(a : Int), (b' : Int)]) 2] = cRs true (List.map ekey (allS m.pl.length B a ++ (rowS m.pl.length B a b' ++ [((a : Int), (b' : Int))]))) := by
            rw [List.take_of_length_le (by simp)]
            simp only [List.map_append, ← List.append_assoc, ← cRs_append]; rfl
          rw [ec]
          refine loopK_next (b' + 1) (by omega) ⟨by omega, by omega⟩ ?_
          rw [rowS_step _ _ _ _ hb1, eg, h, if_pos rfl]
          refine weak_gc [(some 0, 0), (some 4, 0)] ?_ ?_ ?_ ?_ ?_ <;> simp [hwb, Nat.add_assoc]
        · refine loopK_next (b' + 1) (by omega) ⟨by omega, by omega⟩ ?_
          rw [rowS_step _ _ _ _ hb1, eg, h]
          refine weak_UH ?_ ?_ <;> simp [hwb]
      · obtain rfl : b' = m.pl.length := by omega
        simp
        refine loopK_next (a + 1) (by omega) (by omega) ?_
        rw [allS_step]
        refine weak_UH ?_ ?_ <;> simp [hwa]
    · obtain rfl : a = m.pl.length := by omega
      simp
      have eS : edS m = allS m.pl.length B m.pl.length := by unfold edS; rw [hB]
      rw [eS]
      (refine endG_keepT [(some 1, 0)] ?_ ?_ ?_ ?_ ?_ ?_ ?_ ⟨rfl, rfl⟩ ?_ <;> simp)
end Go.Proofs.YtnjpigkijdnpkaaGreat
namespace Go.Proofs.YtnjpigkijdnpkaaGreat
set_option linter.all false
open Go Go.Awp
set_option maxRecDepth 100000
set_option maxHeartbeats 4000000

theorem nodup_le {α : Type} [BEq α] [LawfulBEq α] : ∀ {a b : List α}, a.Nodup → (∀ x ∈ a, x ∈ b) → a.length ≤ b.length
  | [], _, _, _ => Nat.zero_le _
  | x :: a, b, h, hm => by
    obtain ⟨h1, h2⟩ := List.nodup_cons.1 h
    have hx := hm x (List.mem_cons_self ..)
    have := nodup_le (b := b.erase x) h2 fun y hy => by
      have hne : y ≠ x := fun e => h1 (e ▸ hy)
      exact (List.mem_erase_of_ne hne).2 (hm y (List.mem_cons_of_mem _ hy))
    rw [List.length_erase_of_mem hx] at this
    have hp := List.length_pos_of_mem hx
    simp only [List.length_cons]; omega
theorem mem_keys_push {x k : List Int} {q : Int} {L : List KR} : x ∈ keysR (pushR k q L) ↔ x = k ∨ x ∈ keysR L := by
  rw [keys_pushR]
  split
  · rename_i h
    exact ⟨.inr, fun g => g.elim (fun e => e ▸ h) id⟩
  · simp [or_comm]
theorem mem_tbe3 {x : List Int} {L : List KR} {t : List Int} {i : Nat} : ∀ {k : Nat}, x ∈ keysR (tbe3 L t i k) ↔ x ∈ keysR L ∨ ∃ j, j < k ∧ x = ekey (edAt t j)
  | 0 => by simp [tbe3]
  | k + 1 => by
    have : tbe3 L t i (k + 1) = pushR (ekey (edAt t k)) i (tbe3 L t i k) := by
      unfold tbe3
      rw [List.range_succ, List.foldl_append]; rfl
    rw [this, mem_keys_push, mem_tbe3]
    constructor
    · rintro (h | h | ⟨j, h1, h2⟩)
      · exact .inr ⟨k, by omega, h⟩
      · exact .inl h
      · exact .inr ⟨j, by omega, h2⟩
    · rintro (h | ⟨j, h1, h2⟩)
      · exact .inr (.inl h)
      · by_cases e : j = k
        · exact .inl (e ▸ h2)
        · exact .inr (.inr ⟨j, by omega, h2⟩)
theorem mem_tbeN {x : List Int} {T : List (List Int)} : ∀ {n : Nat}, x ∈ keysR (tbeN T n) ↔ ∃ i, i < n ∧ ∃ j, j < 3 ∧ x = ekey (edAt (T.getD i []) j)
  | 0 => by simp [tbeN, keysR]
  | n + 1 => by
    have : tbeN T (n + 1) = tbe3 (tbeN T n) (T.getD n []) n 3 := by
      unfold tbeN
      rw [List.range_succ, List.foldl_append]; rfl
    rw [this, mem_tbe3, mem_tbeN]
    constructor
    · rintro (⟨i, h1, h2⟩ | h)
      · exact ⟨i, by omega, h2⟩
      · exact ⟨n, by omega, h⟩
    · rintro ⟨i, h1, h2⟩
      by_cases e : i = n
      · exact .inr (e ▸ h2)
      · exact .inl ⟨i, by omega, h2⟩
theorem mem_edL {x : Ed} {T : List (List Int)} : x ∈ edL T ↔ ∃ i, i < T.length ∧ ∃ j, j < 3 ∧ x = edAt (T.getD i []) j := by
  unfold edL edT
  rw [List.mem_flatMap]
  constructor
  · rintro ⟨t, ht, hx⟩
    obtain ⟨j, hj, rfl⟩ := List.mem_map.1 hx
    obtain ⟨i, hi, rfl⟩ := List.getElem_of_mem ht
    refine ⟨i, hi, j, List.mem_range.1 hj, ?_⟩
    rw [List.getD_eq_getElem?_getD, List.getElem?_eq_getElem hi]; rfl
  · rintro ⟨i, hi, j, hj, rfl⟩
    refine ⟨T[i], List.getElem_mem hi, List.mem_map.2 ⟨j, List.mem_range.2 hj, ?_⟩⟩
    rw [List.getD_eq_getElem?_getD, List.getElem?_eq_getElem hi]; rfl
theorem mem_keyE {x : Ed} {m : Msh} : x ∈ keyE (tbe m) ↔ x ∈ edL m.tr := by
  rw [keyE_map, List.mem_map, mem_edL]
  constructor
  · rintro ⟨k, hk, rfl⟩
    obtain ⟨i, hi, j, hj, rfl⟩ := mem_tbeN.1 hk
    exact ⟨i, hi, j, hj, rfl⟩
  · rintro ⟨i, hi, j, hj, rfl⟩
    exact ⟨_, mem_tbeN.2 ⟨i, hi, j, hj, rfl⟩, rfl⟩
/-- Where the edges of a valid mesh lie. -/
theorem ed_in {m : Msh} (hv : vldM m = true) {x : Ed} (h : x ∈ edL m.tr) : 0 ≤ x.1 ∧ x.1 < x.2 ∧ x.2 < m.pl.length := by
  obtain ⟨i, hi, j, hj, rfl⟩ := mem_edL.1 h
  rw [List.getD_eq_getElem?_getD, List.getElem?_eq_getElem hi, Option.getD_some]
  obtain ⟨a, b, c, ht, h1, h2, h3, g1, g2, g3⟩ := tri_of hv hi
  rw [ht]
  simp [inB] at h1 h2 h3
  unfold edAt loI hiI
  match j, hj with
  | 0, _ => simp; split <;> split <;> omega
  | 1, _ => simp; split <;> split <;> omega
  | 2, _ => simp; split <;> split <;> omega
theorem mul_inj {n p q a b : Nat} (h : p * n + q = a * n + b) (hq : q < n) (hb : b < n) : p = a ∧ q = b := by
  have : p = a := by
    rcases Nat.lt_trichotomy p a with g | g | g
    · have := Nat.mul_le_mul_right n (show p + 1 ≤ a from g)
      rw [Nat.succ_mul] at this; omega
    · exact g
    · have := Nat.mul_le_mul_right n (show a + 1 ≤ p from g)
      rw [Nat.succ_mul] at this; omega
  subst this
  exact ⟨rfl, by omega⟩
theorem tab_read {m : Msh} (hv : vldM m = true) {a b : Nat} (ha : a < m.pl.length) (hb : b < m.pl.length) : (tab m.pl.length (edL m.tr)).getD (a * m.pl.length + b) false = decide (((a : Int), (b : Int)) ∈ edL m.tr) := by
  obtain ⟨h1, _⟩ := mulb ha hb (vldM_len hv).1
  rw [List.getD_eq_getElem?_getD, List.getElem?_eq_getElem (by simpa using h1), Option.getD_some, tab_get h1, Bool.eq_iff_iff]
  simp only [List.any_eq_true, beq_iff_eq, decide_eq_true_eq]
  constructor
  · rintro ⟨⟨x, y⟩, he, e⟩
    have hr := ed_in hv he
    simp only at hr e
    obtain ⟨p, rfl⟩ : ∃ p : Nat, x = p := ⟨x.toNat, by omega⟩
    obtain ⟨q, rfl⟩ : ∃ q : Nat, y = q := ⟨y.toNat, by omega⟩
    have e2 : p * m.pl.length + q = a * m.pl.length + b := by exact_mod_cast e
    obtain ⟨rfl, rfl⟩ := mul_inj e2 (by omega) hb
    exact he
  · intro he
    exact ⟨_, he, by simp⟩
theorem mem_edS {m : Msh} (hv : vldM m = true) {x : Ed} : x ∈ edS m ↔ x ∈ edL m.tr := by
  unfold edS allS
  rw [List.mem_flatMap]
  constructor
  · rintro ⟨a, ha, hx⟩
    have ha := List.mem_range.1 ha
    unfold rowS at hx
    obtain ⟨b, hb, rfl⟩ := List.mem_map.1 hx
    obtain ⟨hb1, hb2⟩ := List.mem_filter.1 hb
    have hb1 := List.mem_range.1 hb1
    rw [tab_read hv ha hb1] at hb2
    simp at hb2
    exact hb2.2
  · intro hx
    have hr := ed_in hv hx
    obtain ⟨x1, x2⟩ := x
    simp only at hr
    obtain ⟨p, rfl⟩ : ∃ p : Nat, x1 = p := ⟨x1.toNat, by omega⟩
    obtain ⟨q, rfl⟩ : ∃ q : Nat, x2 = q := ⟨x2.toNat, by omega⟩
    refine ⟨p, List.mem_range.2 (by omega), ?_⟩
    unfold rowS
    refine List.mem_map.2 ⟨q, List.mem_filter.2 ⟨List.mem_range.2 (by omega), ?_⟩, rfl⟩
    rw [tab_read hv (by omega) (by omega)]
    simp [hx]; omega
theorem edS_sorted (m : Msh) : (edS m).Pairwise ltE := by
  unfold edS allS
  generalize m.pl.length = n
  generalize tab n (edL m.tr) = B
  have key : ∀ k, (List.flatMap (fun x => rowS n B x n) (List.range k)).Pairwise ltE ∧ ∀ x ∈ List.flatMap (fun x => rowS n B x n) (List.range k), x.1 < k := by
    intro k
    induction k with
    | zero => simp
    | succ k ih =>
      rw [List.range_succ, List.flatMap_append, List.flatMap_cons, List.flatMap_nil, List.append_nil]
      refine ⟨List.pairwise_append.2 ⟨ih.1, ?_, fun x hx y hy => ?_⟩, fun x hx => ?_⟩
      · unfold rowS
        rw [List.pairwise_map]
        have : (List.range n).Pairwise (· < ·) := List.pairwise_lt_range
        exact (this.filter _).imp fun h => .inr ⟨rfl, by simp; omega⟩
      · have h1 := ih.2 x hx
        unfold rowS at hy
        obtain ⟨b, _, rfl⟩ := List.mem_map.1 hy
        exact .inl (by simpa using h1)
      · rcases List.mem_append.1 hx with h | h
        · have := ih.2 x h; omega
        · unfold rowS at h
          obtain ⟨b, _, rfl⟩ := List.mem_map.1 h
          simp; omega
  exact (key n).1
theorem edges_ok {m : Msh} (hv : vldM m = true) (hn : (keyE (tbe m)).Nodup) : EdgesOk m (edS m) := by
  have hs := edS_sorted m
  have hnd : (edS m).Nodup := hs.imp fun h e => by subst e; exact ltE_irr _ h
  have hm : ∀ x, x ∈ edS m ↔ x ∈ keyE (tbe m) := fun x => by rw [mem_edS hv, mem_keyE]
  exact ⟨hs, hm, Nat.le_antisymm (nodup_le hnd fun x hx => (hm x).1 hx) (nodup_le hn fun x hx => (hm x).2 hx)⟩
theorem nodup_tbe3 {L : List KR} {t : List Int} {i : Nat} (h : (keysR L).Nodup) : ∀ {k : Nat}, (keysR (tbe3 L t i k)).Nodup
  | 0 => by simpa [tbe3] using h
  | k + 1 => by
    have : tbe3 L t i (k + 1) = pushR (ekey (edAt t k)) i (tbe3 L t i k) := by
      unfold tbe3
      rw [List.range_succ, List.foldl_append]; rfl
    rw [this]
    exact nodup_pushR (nodup_tbe3 h)
theorem nodup_tbeN {T : List (List Int)} : ∀ {n : Nat}, (keysR (tbeN T n)).Nodup
  | 0 => by simp [tbeN, keysR]
  | n + 1 => by
    have : tbeN T (n + 1) = tbe3 (tbeN T n) (T.getD n []) n 3 := by
      unfold tbeN
      rw [List.range_succ, List.foldl_append]; rfl
    rw [this]
    exact nodup_tbe3 nodup_tbeN
theorem keyE_tbe_nodup (m : Msh) : (keyE (tbe m)).Nodup := keyE_nodup nodup_tbeN fun k hk => by
  obtain ⟨i, hi, j, hj, rfl⟩ := mem_tbeN.1 hk
  rfl
theorem edgesOk {m : Msh} (hv : vldM m = true) : EdgesOk m (edS m) := edges_ok hv (keyE_tbe_nodup m)
theorem ed_at {m : Msh} (hv : vldM m = true) {k : Nat} (h : k < (edS m).length) : ∃ p q : Nat, (edS m)[k] = ((p : Int), (q : Int)) ∧ p < q ∧ q < m.pl.length := by
  have hm := (mem_edS hv).1 (List.getElem_mem h)
  have hr := ed_in hv hm
  generalize (edS m)[k] = e at *
  obtain ⟨x, y⟩ := e
  simp only at hr
  exact ⟨x.toNat, y.toNat, by rw [Int.toNat_of_nonneg hr.1, Int.toNat_of_nonneg (by omega)], by omega, by omega⟩
theorem edS_len {m : Msh} (hv : vldM m = true) : (edS m).length ≤ 384 := by
  rw [(edgesOk hv).len]
  have h1 := nodup_le (keyE_tbe_nodup m) (b := edL m.tr) fun x hx => mem_keyE.1 hx
  have h2 : ∀ T : List (List Int), (edL T).length = T.length * 3 := by
    intro T
    induction T with
    | nil => rfl
    | cons t T ih => unfold edL at ih ⊢; rw [List.flatMap_cons, List.length_append, ih]; simp [edT]; omega
  have h3 := (vldM_len hv).2
  have := h2 m.tr
  omega
end Go.Proofs.YtnjpigkijdnpkaaGreat
namespace Go.Proofs.YtnjpigkijdnpkaaGreat
set_option linter.all false
open Go Go.Awp
set_option maxRecDepth 100000
set_option maxHeartbeats 4000000

/-- Whether a triangle has both places of an edge; its other place. -/
def hasE (t : List Int) (e : Ed) : Bool := t.any (· == e.1) && t.any (· == e.2)
def thirdE (t : List Int) (e : Ed) : Int := (t.find? fun x => !(x == e.1) && !(x == e.2)).getD (-1)
def thirds (T : List (List Int)) (e : Ed) : List Int := (T.filter fun t => hasE t e).map fun t => thirdE t e
def hinE (T : List (List Int)) (e : Ed) : List Int := e.1 :: e.2 :: thirds T e
def isH (T : List (List Int)) (e : Ed) : Bool := (thirds T e).length == 2
/-- The hinges of the first edges. -/
def hinN (m : Msh) (k : Nat) : List (List Int) := (((edS m).take k).filter (isH m.tr)).map (hinE m.tr)
def hinS (m : Msh) : List (List Int) := hinN m (edS m).length
theorem hinN_succ {m : Msh} {k : Nat} (h : k < (edS m).length) : hinN m (k + 1) = hinN m k ++ if isH m.tr (edS m)[k] then [hinE m.tr (edS m)[k]] else [] := by
  unfold hinN
  rw [List.take_succ_eq_append_getElem h, List.filter_append, List.map_append]
  congr 1
  cases hq : isH m.tr (edS m)[k] <;> simp [hq]
theorem hinN_len (m : Msh) (k : Nat) : (hinN m k).length ≤ k := by
  unfold hinN
  rw [List.length_map]
  have := List.length_filter_le (isH m.tr) ((edS m).take k)
  simp at this
  omega
theorem rowR_push (k k' : List Int) (q : Int) : ∀ L : List KR, rowR (pushR k q L) k' = if k = k' then rowR L k' ++ [q] else rowR L k'
  | [] => by
    unfold pushR rowR
    by_cases c : k = k' <;> simp [c]
  | y :: L => by
    have ih := rowR_push k k' q L
    unfold pushR
    by_cases c : y.1 = k
    · rw [if_pos c]
      by_cases c2 : k = k'
      · subst c2; simp [rowR, c]
      · have : ¬ y.1 = k' := fun e => c2 (by rw [← c, e])
        simp [rowR, c2, c, this]
    · rw [if_neg c]
      by_cases c2 : y.1 = k'
      · have : ¬ k = k' := fun e => c (by rw [c2, e])
        simp [rowR, c2, this]
      · have e1 : rowR (y :: pushR k q L) k' = rowR (pushR k q L) k' := by simp [rowR, c2]
        have e2 : rowR (y :: L) k' = rowR L k' := by simp [rowR, c2]
        rw [e1, e2, ih]
theorem ekey_inj {a b : Ed} (h : ekey a = ekey b) : a = b := by
  obtain ⟨a1, a2⟩ := a
  obtain ⟨b1, b2⟩ := b
  simp [ekey] at h
  rw [h.1, h.2]
theorem tbe3_all (L : List KR) (t : List Int) (i : Nat) : tbe3 L t i 3 = pushR (ekey (edAt t 2)) i (pushR (ekey (edAt t 1)) i (pushR (ekey (edAt t 0)) i L)) := rfl
theorem ekey_iff {a b : Ed} : ekey a = ekey b ↔ a = b := ⟨ekey_inj, fun h => by rw [h]⟩
/-- A triangle of three places that differ. -/
structure Tri3 (t : List Int) : Prop where
  ok : ∃ a b c, t = [a, b, c] ∧ 0 ≤ a ∧ 0 ≤ b ∧ 0 ≤ c ∧ a ≠ b ∧ b ≠ c ∧ a ≠ c
theorem rowR_tbe3 {L : List KR} {t : List Int} (ht : Tri3 t) {i : Nat} {e : Ed} (he : e.1 < e.2) : rowR (tbe3 L t i 3) (ekey e) = rowR L (ekey e) ++ if hasE t e then [(i : Int)] else [] := by
  obtain ⟨a, b, c, rfl, _, _, _, h1, h2, h3⟩ := ht.ok
  obtain ⟨p, q⟩ := e
  simp only at he
  rw [tbe3_all, rowR_push, rowR_push, rowR_push]
  simp only [ekey_iff]
  unfold edAt loI hiI hasE
  simp
  by_cases a1 : a = p <;> by_cases a2 : a = q <;> by_cases b1 : b = p <;> by_cases b2 : b = q <;> by_cases c1 : c = p <;> by_cases c2 : c = q <;> (try omega) <;> simp [a1, a2, b1, b2, c1, c2] <;> grind
theorem third_nonneg {t : List Int} (ht : Tri3 t) {e : Ed} (he : e.1 < e.2) (h : hasE t e = true) : 0 ≤ thirdE t e ∧ thirdE t e ∈ t ∧ thirdE t e ≠ e.1 ∧ thirdE t e ≠ e.2 ∧ t.getD 0 0 + t.getD 1 0 + t.getD 2 0 - e.1 - e.2 = thirdE t e := by
  obtain ⟨a, b, c, rfl, g1, g2, g3, h1, h2, h3⟩ := ht.ok
  obtain ⟨p, q⟩ := e
  simp only at he
  simp only [hasE, List.any_cons, List.any_nil, Bool.or_false, Bool.and_eq_true, Bool.or_eq_true, beq_iff_eq] at h
  simp only [thirdE, List.find?_cons, List.find?_nil]
  have q1 : (a == b) = false := by simpa using h1
  have q2 : (b == c) = false := by simpa using h2
  have q3 : (a == c) = false := by simpa using h3
  have q4 : (b == a) = false := by simpa using Ne.symm h1
  have q5 : (c == b) = false := by simpa using Ne.symm h2
  have q6 : (c == a) = false := by simpa using Ne.symm h3
  by_cases a1 : a = p <;> by_cases a2 : a = q <;> by_cases b1 : b = p <;> by_cases b2 : b = q <;> by_cases c1 : c = p <;> by_cases c2 : c = q <;> (try omega) <;> simp [a1, a2, b1, b2, c1, c2] <;> (try subst a1) <;> (try subst a2) <;> (try subst b1) <;> (try subst b2) <;> (try subst c1) <;> (try subst c2) <;> (try simp only [q1, q2, q3, q4, q5, q6, beq_self_eq_true, Bool.not_true, Bool.not_false, Bool.and_true, Bool.and_false, Bool.false_and, Bool.true_and, Option.getD_some]) <;> (try simp) <;> (try simp_all) <;> (try omega)
theorem thirds_tbe {T : List (List Int)} {e : Ed} (he : e.1 < e.2) (hT : ∀ t ∈ T, Tri3 t) : ∀ n, n ≤ T.length → thirds (T.take n) e = (rowR (tbeN T n) (ekey e)).map (fun i => thirdE (T.getD i.toNat []) e) ∧ ∀ x ∈ rowR (tbeN T n) (ekey e), 0 ≤ x ∧ x < n ∧ hasE (T.getD x.toNat []) e = true
  | 0, _ => ⟨rfl, fun x hx => by simp [tbeN, rowR] at hx⟩
  | n + 1, h => by
    obtain ⟨ih1, ih2⟩ := thirds_tbe he hT n (by omega)
    have e1 : tbeN T (n + 1) = tbe3 (tbeN T n) (T.getD n []) n 3 := by
      unfold tbeN
      rw [List.range_succ, List.foldl_append]; rfl
    have e2 : T.getD n [] = T[n] := by rw [List.getD_eq_getElem?_getD, List.getElem?_eq_getElem (show n < T.length by omega)]; rfl
    have e3 := rowR_tbe3 (L := tbeN T n) (hT _ (List.getElem_mem (show n < T.length by omega))) (i := n) he
    rw [e1, e2, e3]
    have e4 : thirds (T.take (n + 1)) e = thirds (T.take n) e ++ if hasE T[n] e then [thirdE T[n] e] else [] := by
      unfold thirds
      rw [List.take_succ_eq_append_getElem (show n < T.length by omega), List.filter_append, List.map_append]
      congr 1
      cases hq : hasE T[n] e <;> simp [hq]
    rw [e4, ih1]
    cases hq : hasE T[n] e with
    | true =>
      refine ⟨by simp [List.getElem?_eq_getElem (show n < T.length by omega)], fun x hx => ?_⟩
      simp only [if_true, List.mem_append, List.mem_singleton] at hx
      rcases hx with hx | rfl
      · have := ih2 x hx
        exact ⟨this.1, by omega, this.2.2⟩
      · exact ⟨by omega, by omega, by rw [Int.toNat_natCast, e2]; exact hq⟩
    | false =>
      refine ⟨by simp, fun x hx => ?_⟩
      simp only [Bool.false_eq_true, if_false, List.append_nil] at hx
      have := ih2 x hx
      exact ⟨this.1, by omega, this.2.2⟩
theorem tri3_of {m : Msh} (hv : vldM m = true) : ∀ t ∈ m.tr, Tri3 t := by
  intro t ht
  obtain ⟨i, hi, rfl⟩ := List.getElem_of_mem ht
  obtain ⟨a, b, c, h, h1, h2, h3, g1, g2, g3⟩ := tri_of hv hi
  simp [inB] at h1 h2 h3
  exact ⟨a, b, c, h, by omega, by omega, by omega, g1, g2, g3⟩
theorem tri_lt {m : Msh} (hv : vldM m = true) {t : List Int} (ht : t ∈ m.tr) {x : Int} (hx : x ∈ t) : 0 ≤ x ∧ x < m.pl.length := by
  obtain ⟨i, hi, rfl⟩ := List.getElem_of_mem ht
  obtain ⟨a, b, c, h, h1, h2, h3, g1, g2, g3⟩ := tri_of hv hi
  simp [inB] at h1 h2 h3
  rw [h] at hx
  simp at hx
  rcases hx with rfl | rfl | rfl <;> omega
/-- What the table tells of an edge. -/
theorem row_edge {m : Msh} (hv : vldM m = true) {e : Ed} (he : e.1 < e.2) : thirds m.tr e = (rowR (tbe m) (ekey e)).map (fun i => thirdE (m.tr.getD i.toNat []) e) ∧ ∀ x ∈ rowR (tbe m) (ekey e), 0 ≤ x ∧ x < m.tr.length ∧ hasE (m.tr.getD x.toNat []) e = true := by
  have := thirds_tbe he (tri3_of hv) m.tr.length (Nat.le_refl _)
  rwa [List.take_length] at this
theorem hin_mem {m : Msh} (hv : vldM m = true) {h : List Int} (hh : h ∈ hinS m) : ∃ a b c d : Nat, h = [(a : Int), (b : Int), (c : Int), (d : Int)] ∧ a < m.pl.length ∧ b < m.pl.length ∧ c < m.pl.length ∧ d < m.pl.length := by
  unfold hinS hinN at hh
  rw [List.take_length] at hh
  obtain ⟨e, he, rfl⟩ := List.mem_map.1 hh
  obtain ⟨he, h2⟩ := List.mem_filter.1 he
  have hr := ed_in hv ((mem_edS hv).1 he)
  have h3 : (thirds m.tr e).length = 2 := by simpa [isH] using h2
  have hall : ∀ x ∈ thirds m.tr e, 0 ≤ x ∧ x < m.pl.length := by
    intro x hx
    unfold thirds at hx
    obtain ⟨t, ht, rfl⟩ := List.mem_map.1 hx
    obtain ⟨ht1, ht2⟩ := List.mem_filter.1 ht
    exact tri_lt hv ht1 (third_nonneg (tri3_of hv t ht1) hr.2.1 ht2).2.1
  obtain ⟨x, y, hxy⟩ : ∃ x y, thirds m.tr e = [x, y] := by
    match hq : thirds m.tr e, h3 with
    | [x, y], _ => exact ⟨x, y, rfl⟩
  have hx := hall x (by rw [hxy]; simp)
  have hy := hall y (by rw [hxy]; simp)
  refine ⟨e.1.toNat, e.2.toNat, x.toNat, y.toNat, ?_, by omega, by omega, by omega, by omega⟩
  unfold hinE
  rw [hxy]
  simp
  omega
end Go.Proofs.YtnjpigkijdnpkaaGreat
namespace Go.Proofs.YtnjpigkijdnpkaaGreat
set_option linter.all false
open Go Go.Awp
set_option maxRecDepth 100000
set_option maxHeartbeats 4000000
set_option pp.deepTerms true

/-- A mesh in memory of the call's own, its triangles a row of what is only read. -/
abbrev Msh.cp (m : Msh) (r : Nat) : AV := .agg [.slc r 0 m.pl.length 3, .slc (r + 1) 0 m.tr.length 1]
abbrev Msh.cpm (m : Msh) : Heap := [.blk true false 32 (cVs m.pl), .blk true false 36 (cRs true m.tr)]
attribute [simp] Msh.cp Msh.cpm
theorem cRs_one (t : List Int) : [AV.view true (cIs t) t.length] = cRs true [t] := rfl
theorem cRs_step {T : List (List Int)} {k : Nat} (h : k < T.length) : cRs true (T.take k) ++ [AV.view true (cIs T[k]) T[k].length] = cRs true (T.take (k + 1)) := by
  rw [cRs_one, cRs_append, List.take_succ_eq_append_getElem h]
theorem c_copyMesh (m : Msh) (hs : m.Small) (hv : m.tr.length ≤ 128) : Fun Tryz.prog 62 [m.av] [] (m.cp 0) m.cpm := by
  obtain ⟨h1, h2, h3⟩ := hs
  refine FnSpec.walk dr_ok Tryz.func62 rfl (by kernel_rfl) rfl rfl rfl (by simp) ?_
  simp
  refine ⟨by omega, by omega, ?_⟩
  refine loopG_of (α := Nat) (fun k => k ≤ m.tr.length) (fun k => m.tr.length - k) (fun k => [(14, .int .i64 k), (13, .int .i64 m.tr.length), (12, .view false (cRs false m.tr) m.tr.length), (3, .ptr 3 0), (2, .ptr 1 0)])
    (fun k => [.blk true true 27 m.cells, .blk true true 27 [.nils, .nils], .blk true false 32 (cVs m.pl), .blk true true 27 [.slc 2 0 m.pl.length 3, .slc 4 0 k 1], .blk true false 36 (cRs true (m.tr.take k))]) 0 (by simp) ?_ fun k hk => ?_
  · (refine weak_gc [(some 0, 0), (some 1, 0), (some 2, 0), (some 3, 0), (none, 36)] ?_ ?_ ?_ ?_ ?_ <;> simp)
  have hw := nat_wrap (k := k) (by omega)
  by_cases b : k < m.tr.length
  · have h4 := h3 _ (List.getElem_mem b)
    have h5 := cRs_step b
    simp [b, hw]
    refine ⟨by omega, by omega, by omega, by omega, by omega, ?_⟩
    rw [List.take_take, Nat.min_self, h5]
    refine loopK_next (k + 1) (by omega) (by omega) ?_
    (refine weak_gc [(some 0, 0), (some 1, 0), (some 2, 0), (some 3, 0), (some 7, 0)] ?_ ?_ ?_ ?_ ?_ <;> simp [hw])
  · obtain rfl : k = m.tr.length := by omega
    simp
    (refine endG_keepT [(some 2, 0), (some 4, 0)] ?_ ?_ ?_ ?_ ?_ ?_ ?_ ⟨rfl, rfl⟩ ?_ <;> simp)
theorem c_l00Own (l : List Int) (h : l.length ≤ 1048576) : Fun Tryz.prog 112 [.view false (cIs l) l.length] [] (.slc 0 0 l.length 1) [.blk true false 2 (cIs l)] := by
  refine FnSpec.walk dr_ok Tryz.func112 rfl (by kernel_rfl) rfl rfl rfl (by simp) ?_
  simp
  refine ⟨by omega, by omega, ?_⟩
  (refine endG_keepT [(some 0, 0)] ?_ ?_ ?_ ?_ ?_ ?_ ?_ ⟨rfl, rfl⟩ ?_ <;> simp)
theorem c_l02Own (m : Msh) (rest : List AV) (hs : m.Small) (hv : m.tr.length ≤ 128) : Fun Tryz.prog 85 [m.vp rest] [] (m.cp 0) m.cpm := by
  obtain ⟨h1, h2, h3⟩ := hs
  refine FnSpec.walk dr_ok Tryz.func85 rfl (by kernel_rfl) rfl rfl rfl (by simp) ?_
  simp
  refine ⟨by omega, by omega, ?_⟩
  refine loopG_of (α := Nat) (fun k => k ≤ m.tr.length) (fun k => m.tr.length - k) (fun k => [(4, .int .i64 k), (0, m.vp rest), (3, .ptr 2 0), (2, .ptr 0 0)])
    (fun k => [.blk true true 27 [.nils, .nils], .blk true false 32 (cVs m.pl), .blk true true 27 [.slc 1 0 m.pl.length 3, .slc 3 0 k 1], .blk true false 36 (cRs true (m.tr.take k))]) 0 (by simp) ?_ fun k hk => ?_
  · (refine weak_gc [(some 0, 0), (some 1, 0), (some 2, 0), (none, 36)] ?_ ?_ ?_ ?_ ?_ <;> simp)
  have hw := nat_wrap (k := k) (by omega)
  by_cases b : k < m.tr.length
  · have h4 := h3 _ (List.getElem_mem b)
    have h5 := cRs_step b
    simp [b, hw]
    (first | refine callG_r ?_ | refine callD_r ?_); simp; (first | refine callN_flat (by with_reducible first | exact c_l00Own _ h4) rfl ?_ | refine callN_new (by with_reducible first | exact c_l00Own _ h4) ?_ | refine callM_flat (by with_reducible first | exact c_l00Own _ h4) rfl ?_ | refine callM_new (by with_reducible first | exact c_l00Own _ h4) ?_)
    simp [b, hw]
    refine ⟨by omega, by omega, by omega, ?_⟩
    rw [List.take_take, Nat.min_self, h5]
    refine loopK_next (k + 1) (by omega) (by omega) ?_
    (refine weak_gc [(some 0, 0), (some 1, 0), (some 2, 0), (some 6, 0)] ?_ ?_ ?_ ?_ ?_ <;> simp [hw])
  · obtain rfl : k = m.tr.length := by omega
    simp
    (refine endG_keepT [(some 1, 0), (some 3, 0)] ?_ ?_ ?_ ?_ ?_ ?_ ?_ ⟨rfl, rfl⟩ ?_ <;> simp)
/-- A body in memory of the call's own, its triangles a row of what is only read. -/
abbrev Bod.cp (b : Bod) (r : Nat) : AV := .agg [.slc r 0 b.me.pl.length 3, .slc (r + 1) 0 b.me.tr.length 1, .slc (r + 2) 0 b.sp.length 4, .flt .f32 b.film, .flt .f32 b.bend, .slc (r + 3) 0 b.w.length 1, .flt .f32 b.fall.1, .flt .f32 b.fall.2.1, .flt .f32 b.fall.2.2]
abbrev Bod.cpm (b : Bod) : Heap := [.blk true false 32 (cVs b.me.pl), .blk true false 36 (cRs true b.me.tr), .blk true false 88 (cSs b.sp), .blk true false 29 (cFs b.w)]
attribute [simp] Bod.cp Bod.cpm
theorem c_copyBody (b : Bod) (hs : b.Small) (hv : b.me.tr.length ≤ 128) : Fun Tryz.prog 42 [b.av] [] (b.cp 0) b.cpm := by
  obtain ⟨h1, h2, h3⟩ := hs
  have h0 := h1.pl
  refine FnSpec.walk dr_ok Tryz.func42 rfl (by kernel_rfl) rfl rfl rfl (by simp) ?_
  simp
  (first | refine callG_r ?_ | refine callD_r ?_); simp; (first | refine callN_flat (by with_reducible first | exact c_copyMesh b.me h1 hv) rfl ?_ | refine callN_new (by with_reducible first | exact c_copyMesh b.me h1 hv) ?_ | refine callM_flat (by with_reducible first | exact c_copyMesh b.me h1 hv) rfl ?_ | refine callM_new (by with_reducible first | exact c_copyMesh b.me h1 hv) ?_)
  simp
  refine ⟨by omega, by omega, by omega, by omega, ?_⟩
  (refine endG_keepT [(some 2, 0), (some 3, 0), (some 4, 0), (some 5, 0)] ?_ ?_ ?_ ?_ ?_ ?_ ?_ ⟨rfl, rfl⟩ ?_ <;> simp)
/-- A body whose places are moved. -/
def movP (pl v : List V) (s : Nat) : List V := List.zipWith (fun p d => vadd p (vscale d s)) pl v
def movB (b : Bod) (v : List V) (s : Nat) : Bod := { b with me := { b.me with pl := movP b.me.pl v s } }
theorem movP_len {pl v : List V} {s : Nat} (h : v.length = pl.length) : (movP pl v s).length = pl.length := by simp [movP]; omega
theorem movP_at {pl v : List V} {s k : Nat} (h : k < pl.length) (h2 : k < v.length) : (movP pl v s)[k]'(by simp [movP]; omega) = vadd pl[k] (vscale v[k] s) := by simp [movP]
theorem c_moved (b : Bod) (v : List V) (s : Nat) (hs : b.Small) (hp : b.me.pl.length ≤ 64) (hv : b.me.tr.length ≤ 128) (hl : v.length = b.me.pl.length) : Fun Tryz.prog 77 [b.av, .view false (cVs v) v.length, .flt .f32 s] [] ((movB b v s).cp 0) (movB b v s).cpm := by
  have hml := movP_len (s := s) hl
  refine FnSpec.walk dr_ok Tryz.func77 rfl (by kernel_rfl) rfl rfl rfl (by simp) ?_
  simp
  (first | refine callG_r ?_ | refine callD_r ?_); simp; (first | refine callN_flat (by with_reducible first | exact c_copyBody b hs hv) rfl ?_ | refine callN_new (by with_reducible first | exact c_copyBody b hs hv) ?_ | refine callM_flat (by with_reducible first | exact c_copyBody b hs hv) rfl ?_ | refine callM_new (by with_reducible first | exact c_copyBody b hs hv) ?_)
  simp
  refine loopG_of (α := Nat) (fun k => k ≤ v.length) (fun k => v.length - k) (fun k => [(14, .int .i64 k), (13, .int .i64 v.length), (12, .view false (cVs v) v.length), (2, .flt .f32 s), (7, .ptr 6 0), (6, .ptr 1 0)])
    (fun k => [.blk true true 34 b.cells, .blk true true 34 [.nils, .nils, .nils, .flt .f32 0, .flt .f32 0, .nils, .flt .f32 0, .flt .f32 0, .flt .f32 0], .blk true false 32 (cVs (mixN (movP b.me.pl v s) b.me.pl k)), .blk true false 36 (cRs true b.me.tr), .blk true false 88 (cSs b.sp), .blk true false 29 (cFs b.w),
      .blk true true 34 [.slc 2 0 b.me.pl.length 3, .slc 3 0 b.me.tr.length 1, .slc 4 0 b.sp.length 4, .flt .f32 b.film, .flt .f32 b.bend, .slc 5 0 b.w.length 1, .flt .f32 b.fall.1, .flt .f32 b.fall.2.1, .flt .f32 b.fall.2.2]]) 0 (by simp) ?_ fun k hk => ?_
  · (refine weak_gc [(some 0, 0), (some 1, 0), (some 2, 0), (some 3, 0), (some 4, 0), (some 5, 0), (some 6, 0)] ?_ ?_ ?_ ?_ ?_ <;> simp)
  have hw := nat_wrap (k := k) (by omega)
  have hm := mixN_length k hml
  by_cases c2 : k < v.length
  · have c : k < b.me.pl.length := by omega
    simp [c, c2, hw, hm]
    (first | refine callG_r ?_ | refine callD_r ?_); simp; (first | refine callN_flat (by with_reducible first | exact c_scale _ _ _ _) rfl ?_ | refine callN_new (by with_reducible first | exact c_scale _ _ _ _) ?_ | refine callM_flat (by with_reducible first | exact c_scale _ _ _ _) rfl ?_ | refine callM_new (by with_reducible first | exact c_scale _ _ _ _) ?_)
    simp [c, c2, hw, hm]
    (first | refine callG_r ?_ | refine callD_r ?_); simp; (first | refine callN_flat (by with_reducible first | exact c_add _ _ _ _ _ _) rfl ?_ | refine callN_new (by with_reducible first | exact c_add _ _ _ _ _ _) ?_ | refine callM_flat (by with_reducible first | exact c_add _ _ _ _ _ _) rfl ?_ | refine callM_new (by with_reducible first | exact c_add _ _ _ _ _ _) ?_)
    simp [c, c2, hw, hm]
    refine ⟨by omega, loopK_next (k + 1) (by omega) (by omega) ?_⟩
    rw [mixN_set (by omega) hml (by rw [movP_at c c2, mixN_get hml c])]
    (refine weak_gc [(some 0, 0), (some 1, 0), (some 2, 0), (some 3, 0), (some 4, 0), (some 5, 0), (some 6, 0)] ?_ ?_ ?_ ?_ ?_ <;> simp [hw])
  · obtain rfl : k = v.length := by omega
    rw [mixN_all (by omega) (by omega)]
    simp
    (refine endG_keepT [(some 2, 0), (some 3, 0), (some 4, 0), (some 5, 0)] ?_ ?_ ?_ ?_ ?_ ?_ ?_ ⟨rfl, rfl⟩ ?_ <;> simp [movB, hml])
end Go.Proofs.YtnjpigkijdnpkaaGreat
namespace Go.Proofs.YtnjpigkijdnpkaaGreat
set_option linter.all false
open Go Go.Awp
set_option maxRecDepth 100000
set_option maxHeartbeats 4000000
set_option pp.deepTerms true

def vcross (a b : V) : V := (fop .sub .f32 (fop .mul .f32 a.2.1 b.2.2) (fop .mul .f32 a.2.2 b.2.1), fop .sub .f32 (fop .mul .f32 a.2.2 b.1) (fop .mul .f32 a.1 b.2.2), fop .sub .f32 (fop .mul .f32 a.1 b.2.1) (fop .mul .f32 a.2.1 b.1))
def vnrm (a b c : V) : V := vcross (vsub b a) (vsub c a)
def vbend (a b c d : V) : V := vsub (vadd c d) (vadd a b)
def gainF (x long : Nat) : Nat := if ford .f32 long 0 = some .gt then fop .quo .f32 x long else 0
def pullF (d : V) (long stiff : Nat) : Nat := gainF (fop .mul .f32 stiff (fop .sub .f32 (vlong d) long)) (vlong d)
theorem c_cross (a1 a2 a3 b1 b2 b3 : Nat) : Fun Tryz.prog 106 [.agg [.flt .f32 a1, .flt .f32 a2, .flt .f32 a3], .agg [.flt .f32 b1, .flt .f32 b2, .flt .f32 b3]] [] (aV (vcross (a1, a2, a3) (b1, b2, b3))) [] := by
  refine FnSpec.walkF dr_ok Tryz.func106 rfl (by kernel_rfl) rfl rfl rfl (by simp) ?_
  simp [aV, vcross]
theorem c_normal (m : Msh) (a b c : Nat) (ha : a < m.pl.length) (hb : b < m.pl.length) (hc : c < m.pl.length) (hl : m.pl.length ≤ 64) : Fun Tryz.prog 101 [m.av, .view false (cIs [(a : Int), (b : Int), (c : Int)]) 3] [] (aV (vnrm m.pl[a] m.pl[b] m.pl[c])) [] := by
  refine FnSpec.walkF dr_ok Tryz.func101 rfl (by kernel_rfl) rfl rfl rfl (by simp) ?_
  simp [ha, hb, hc]
  (first | refine callG_r ?_ | refine callD_r ?_); simp; (first | refine callN_flat (by with_reducible first | exact c_less _ _ _ _ _ _) rfl ?_ | refine callN_new (by with_reducible first | exact c_less _ _ _ _ _ _) ?_ | refine callM_flat (by with_reducible first | exact c_less _ _ _ _ _ _) rfl ?_ | refine callM_new (by with_reducible first | exact c_less _ _ _ _ _ _) ?_)
  simp [ha, hb, hc]
  (first | refine callG_r ?_ | refine callD_r ?_); simp; (first | refine callN_flat (by with_reducible first | exact c_less _ _ _ _ _ _) rfl ?_ | refine callN_new (by with_reducible first | exact c_less _ _ _ _ _ _) ?_ | refine callM_flat (by with_reducible first | exact c_less _ _ _ _ _ _) rfl ?_ | refine callM_new (by with_reducible first | exact c_less _ _ _ _ _ _) ?_)
  simp
  (first | refine callG_r ?_ | refine callD_r ?_); simp; (first | refine callN_flat (by with_reducible first | exact c_cross _ _ _ _ _ _) rfl ?_ | refine callN_new (by with_reducible first | exact c_cross _ _ _ _ _ _) ?_ | refine callM_flat (by with_reducible first | exact c_cross _ _ _ _ _ _) rfl ?_ | refine callM_new (by with_reducible first | exact c_cross _ _ _ _ _ _) ?_)
  simp [vnrm]
theorem c_bend (m : Msh) (a b c d : Nat) (ha : a < m.pl.length) (hb : b < m.pl.length) (hc : c < m.pl.length) (hd : d < m.pl.length) (hl : m.pl.length ≤ 64) : Fun Tryz.prog 103 [m.av, .view false (cIs [(a : Int), (b : Int), (c : Int), (d : Int)]) 4] [] (aV (vbend m.pl[a] m.pl[b] m.pl[c] m.pl[d])) [] := by
  refine FnSpec.walkF dr_ok Tryz.func103 rfl (by kernel_rfl) rfl rfl rfl (by simp) ?_
  simp [ha, hb, hc, hd]
  (first | refine callG_r ?_ | refine callD_r ?_); simp; (first | refine callN_flat (by with_reducible first | exact c_add _ _ _ _ _ _) rfl ?_ | refine callN_new (by with_reducible first | exact c_add _ _ _ _ _ _) ?_ | refine callM_flat (by with_reducible first | exact c_add _ _ _ _ _ _) rfl ?_ | refine callM_new (by with_reducible first | exact c_add _ _ _ _ _ _) ?_)
  simp [ha, hb, hc, hd]
  (first | refine callG_r ?_ | refine callD_r ?_); simp; (first | refine callN_flat (by with_reducible first | exact c_add _ _ _ _ _ _) rfl ?_ | refine callN_new (by with_reducible first | exact c_add _ _ _ _ _ _) ?_ | refine callM_flat (by with_reducible first | exact c_add _ _ _ _ _ _) rfl ?_ | refine callM_new (by with_reducible first | exact c_add _ _ _ _ _ _) ?_)
  simp
  (first | refine callG_r ?_ | refine callD_r ?_); simp; (first | refine callN_flat (by with_reducible first | exact c_less _ _ _ _ _ _) rfl ?_ | refine callN_new (by with_reducible first | exact c_less _ _ _ _ _ _) ?_ | refine callM_flat (by with_reducible first | exact c_less _ _ _ _ _ _) rfl ?_ | refine callM_new (by with_reducible first | exact c_less _ _ _ _ _ _) ?_)
  simp [vbend]
theorem c_along (b : Bod) (p q z u : Nat) (hp : p < b.me.pl.length) (hq : q < b.me.pl.length) (hl : b.me.pl.length ≤ 64) : Fun Tryz.prog 100 [b.av, .agg [.int .i64 p, .int .i64 q, .flt .f32 z, .flt .f32 u]] [] (aV (vsub b.me.pl[q] b.me.pl[p])) [] := by
  refine FnSpec.walkF dr_ok Tryz.func100 rfl (by kernel_rfl) rfl rfl rfl (by simp) ?_
  simp [hp, hq]
  (first | refine callG_r ?_ | refine callD_r ?_); simp; (first | refine callN_flat (by with_reducible first | exact c_less _ _ _ _ _ _) rfl ?_ | refine callN_new (by with_reducible first | exact c_less _ _ _ _ _ _) ?_ | refine callM_flat (by with_reducible first | exact c_less _ _ _ _ _ _) rfl ?_ | refine callM_new (by with_reducible first | exact c_less _ _ _ _ _ _) ?_)
  simp
theorem c_pullBy (a1 a2 a3 : Nat) (x y : Int) (z u : Nat) : Fun Tryz.prog 105 [.agg [.flt .f32 a1, .flt .f32 a2, .flt .f32 a3], .agg [.int .i64 x, .int .i64 y, .flt .f32 z, .flt .f32 u]] [] (.flt .f32 (pullF (a1, a2, a3) z u)) [] := by
  refine FnSpec.walkF dr_ok Tryz.func105 rfl (by kernel_rfl) rfl rfl rfl (by simp) ?_
  simp
  (first | refine callG_r ?_ | refine callD_r ?_); simp; (first | refine callN_flat (by with_reducible first | exact c_long _ _ _) rfl ?_ | refine callN_new (by with_reducible first | exact c_long _ _ _) ?_ | refine callM_flat (by with_reducible first | exact c_long _ _ _) rfl ?_ | refine callM_new (by with_reducible first | exact c_long _ _ _) ?_)
  simp [pullF, gainF]
  grind
end Go.Proofs.YtnjpigkijdnpkaaGreat
namespace Go.Proofs.YtnjpigkijdnpkaaGreat
set_option linter.all false
open Go Go.Awp
set_option maxRecDepth 100000
set_option maxHeartbeats 4000000
set_option pp.deepTerms true

theorem getM_row {L : List KR} {k : List Int} (h : k ∈ keysR L) : getM (keysR L) (viewsR L) k .nils = .view true (cIs (rowR L k)) (rowR L k).length := by
  rw [getM_views]
  unfold keysR at h
  obtain ⟨x, hx, rfl⟩ := List.mem_map.1 h
  unfold rowR
  cases hf : L.find? (fun y => y.1 == x.1) with
  | none =>
    have := List.find?_eq_none.1 hf x hx
    simp at this
  | some y => rfl
theorem key_mem {m : Msh} (hv : vldM m = true) {e : Ed} (h : e ∈ edS m) : ekey e ∈ keysR (tbe m) := by
  obtain ⟨i, hi, j, hj, rfl⟩ := mem_edL.1 ((mem_edS hv).1 h)
  exact mem_tbeN.2 ⟨i, hi, j, hj, rfl⟩
theorem keys_ok {m : Msh} (hv : vldM m = true) : KeysOk 2 (keysR (tbe m)) where
  len k hk := by
    obtain ⟨i, hi, j, hj, rfl⟩ := mem_tbeN.1 hk
    rfl
  wf k hk := by
    have hl := (vldM_len hv).1
    obtain ⟨i, hi, j, hj, rfl⟩ := mem_tbeN.1 hk
    have hr := ed_in hv (mem_edL.2 ⟨i, hi, j, hj, rfl⟩)
    intro x hx
    simp only [ekey, List.mem_cons, List.not_mem_nil, or_false] at hx
    rcases hx with rfl | rfl <;> omega
  nodup := nodup_tbeN
theorem c_thirdOf (t : List Int) (n p q : Nat) (ht : Tri3 t) (hlt : ∀ x ∈ t, x < 64) (hp : p < 64) (hq : q < 64) (hpq : p < q) (h : hasE t ((p : Int), (q : Int)) = true) (hn : n = t.length) : Fun Tryz.prog 136 [.view false (cIs t) n, .agg [.int .i64 p, .int .i64 q]] [] (.int .i64 (thirdE t ((p : Int), (q : Int)))) [] := by
  subst hn
  have h5 := (third_nonneg ht (e := ((p : Int), (q : Int))) (by simp; omega) h).2.2.2.2
  obtain ⟨a, b, c, rfl, g1, g2, g3, _⟩ := ht.ok
  simp at h5
  have k1 := hlt a (by simp)
  have k2 := hlt b (by simp)
  have k3 := hlt c (by simp)
  have w1 : IntKind.i64.wrap (a + b) = a + b := wrap64 (by omega) (by omega)
  have w2 : IntKind.i64.wrap (a + b + c) = a + b + c := wrap64 (by omega) (by omega)
  have w3 : IntKind.i64.wrap (a + b + c - p) = a + b + c - p := wrap64 (by omega) (by omega)
  have w4 : IntKind.i64.wrap (a + b + c - p - q) = a + b + c - p - q := wrap64 (by omega) (by omega)
  refine FnSpec.walkF dr_ok Tryz.func136 rfl (by kernel_rfl) rfl rfl rfl (by simp) ?_
  simp [w1, w2, w3, w4]
  exact h5
@[simp] theorem cRs_atT {b : Bool} {l : List (List Int)} {k : Nat} (h : k < (cRs b l).length) : (cRs b l)[k] = .view b (cIs (l[k]'(by simpa using h))) (l[k]'(by simpa using h)).length := by simp [cRs]
theorem ekey_at2 {m : Msh} {k : Nat} {p q : Nat} (h : k < (edS m).length) (he : (edS m)[k] = ((p : Int), (q : Int))) : ((edS m).map ekey)[k]'(by simpa using h) = [(p : Int), (q : Int)] := by
  rw [List.getElem_map, he]; rfl
theorem hin_small {m : Msh} (hv : vldM m = true) : (hinS m).length ≤ 384 := by
  have := hinN_len m (edS m).length
  have := edS_len hv
  unfold hinS; omega
theorem c_hingesOf (m : Msh) (hs : m.Small) (hv : vldM m = true) : Fun Tryz.prog 102 [m.av] [] (.slc 0 0 (hinS m).length 1) [.blk true false 36 (cRs true (hinS m))] := by
  obtain ⟨hl1, hl2⟩ := vldM_len hv
  have hel := edS_len hv
  refine FnSpec.walk dr_ok Tryz.func102 rfl (by kernel_rfl) rfl rfl rfl (by simp) ?_
  simp
  (first | refine callG_r ?_ | refine callD_r ?_); simp; (first | refine callN_flat (by with_reducible first | exact c_tbe m hs hv (edgesOk hv)) rfl ?_ | refine callN_new (by with_reducible first | exact c_tbe m hs hv (edgesOk hv)) ?_ | refine callM_flat (by with_reducible first | exact c_tbe m hs hv (edgesOk hv)) rfl ?_ | refine callM_new (by with_reducible first | exact c_tbe m hs hv (edgesOk hv)) ?_)
  simp
  refine loopG_of (α := Nat) (fun k => k ≤ (edS m).length) (fun k => (edS m).length - k) (fun k => [(17, .int .i64 k), (16, .int .i64 (edS m).length), (15, .slc 1 0 (edS m).length 2), (4, .mview true 2 (keysR (tbe m)) (viewsR (tbe m))), (3, .slc 2 0 (hinN m k).length 1), (1, .ptr 0 0)])
    (fun k => [.blk true true 27 m.cells, .blk true false 172 (cEs (edS m)), .blk true false 36 (cRs true (hinN m k))]) 0 (by simp) ?_ fun k hk => ?_
  · (refine weak_gc [(some 0, 0), (some 1, 0), (none, 36)] ?_ ?_ ?_ ?_ ?_ <;> simp [hinN])
  have hw := nat_wrap (k := k) (by omega)
  by_cases b : k < (edS m).length
  · obtain ⟨p, q, he, hpq, hqn⟩ := ed_at hv b
    have hnl := hinN_len m k
    have hsu := hinN_succ b
    rw [he] at hsu
    have hmem : ((p : Int), (q : Int)) ∈ edS m := by rw [← he]; exact List.getElem_mem b
    obtain ⟨r1, r2⟩ := row_edge hv (e := ((p : Int), (q : Int))) (by simp; omega)
    have hrl : (thirds m.tr ((p : Int), (q : Int))).length = (rowR (tbe m) (ekey ((p : Int), (q : Int)))).length := by rw [r1]; simp
    simp [b, hw, he]
    refine look_v Tryz.underlying167 key_edge (k := [(p : Int), (q : Int)]) rfl (fun x hx => ?_) zero_row (keys_ok hv) rfl rfl ?_
    · simp only [List.mem_cons, List.not_mem_nil, or_false] at hx
      rcases hx with rfl | rfl <;> omega
    have hg := getM_row (key_mem hv hmem)
    change getM _ _ [(p : Int), (q : Int)] _ = _ at hg
    rw [hg]
    generalize hR : rowR (tbe m) (ekey ((p : Int), (q : Int))) = R at *
    simp
    refine ⟨fun h2 => ?_, fun h2 => ?_⟩
    · obtain ⟨x0, x1, rfl⟩ : ∃ x y, R = [x, y] := by
        match R, h2 with
        | [x, y], _ => exact ⟨x, y, rfl⟩
      obtain ⟨a1, a2, a3⟩ := r2 x0 (by simp)
      obtain ⟨b1, b2, b3⟩ := r2 x1 (by simp)
      obtain ⟨i0, rfl⟩ : ∃ n : Nat, x0 = n := ⟨x0.toNat, by omega⟩
      obtain ⟨i1, rfl⟩ : ∃ n : Nat, x1 = n := ⟨x1.toNat, by omega⟩
      have g0 : i0 < m.tr.length := by omega
      have g1 : i1 < m.tr.length := by omega
      simp only [Int.toNat_natCast, List.getD_eq_getElem?_getD, List.getElem?_eq_getElem g0, List.getElem?_eq_getElem g1, Option.getD_some] at a3 b3 r1
      simp [b, hw, g0, g1]
      have hT0 := tri3_of hv _ (List.getElem_mem g0)
      have hT1 := tri3_of hv _ (List.getElem_mem g1)
      have hL0 : ∀ x ∈ m.tr[i0], x < 64 := fun x hx => by have := tri_lt hv (List.getElem_mem g0) hx; omega
      have hL1 : ∀ x ∈ m.tr[i1], x < 64 := fun x hx => by have := tri_lt hv (List.getElem_mem g1) hx; omega
      (first | refine callG_r ?_ | refine callD_r ?_); simp; (first | refine callN_flat (by with_reducible first | exact c_thirdOf _ _ p q hT0 hL0 (by omega) (by omega) hpq a3 rfl) rfl ?_ | refine callN_new (by with_reducible first | exact c_thirdOf _ _ p q hT0 hL0 (by omega) (by omega) hpq a3 rfl) ?_ | refine callM_flat (by with_reducible first | exact c_thirdOf _ _ p q hT0 hL0 (by omega) (by omega) hpq a3 rfl) rfl ?_ | refine callM_new (by with_reducible first | exact c_thirdOf _ _ p q hT0 hL0 (by omega) (by omega) hpq a3 rfl) ?_)
      simp [b, hw, g0, g1]
      (first | refine callG_r ?_ | refine callD_r ?_); simp; (first | refine callN_flat (by with_reducible first | exact c_thirdOf _ _ p q hT1 hL1 (by omega) (by omega) hpq b3 rfl) rfl ?_ | refine callN_new (by with_reducible first | exact c_thirdOf _ _ p q hT1 hL1 (by omega) (by omega) hpq b3 rfl) ?_ | refine callM_flat (by with_reducible first | exact c_thirdOf _ _ p q hT1 hL1 (by omega) (by omega) hpq b3 rfl) rfl ?_ | refine callM_new (by with_reducible first | exact c_thirdOf _ _ p q hT1 hL1 (by omega) (by omega) hpq b3 rfl) ?_)
      simp [b, hw, g0, g1]
      simp [g0, g1] at r1
      have hH : isH m.tr ((p : Int), (q : Int)) = true := by unfold isH; rw [r1]; rfl
      have hE : hinE m.tr ((p : Int), (q : Int)) = [(p : Int), (q : Int), thirdE m.tr[i0] ((p : Int), (q : Int)), thirdE m.tr[i1] ((p : Int), (q : Int))] := by unfold hinE; rw [r1]
      rw [hH, if_pos rfl, hE] at hsu
      have hc : cRs true (hinN m k) ++ [AV.view true (cIs [(p : Int), (q : Int), thirdE m.tr[i0] ((p : Int), (q : Int)), thirdE m.tr[i1] ((p : Int), (q : Int))]) 4] = cRs true (hinN m (k + 1)) := by rw [hsu, ← cRs_append]; rfl
      have hcl : (hinN m (k + 1)).length = (hinN m k).length + 1 := by rw [hsu]; simp
      rw [hc]
      refine ⟨by omega, by omega, ?_⟩
      refine loopK_next (k + 1) (by omega) (by omega) ?_
      (refine weak_gc [(some 0, 0), (some 1, 0), (some 6, 0)] ?_ ?_ ?_ ?_ ?_ <;> simp [hw, hcl])
    · have hH : isH m.tr ((p : Int), (q : Int)) = false := by unfold isH; rw [hrl]; simp; omega
      rw [hH] at hsu
      simp only [Bool.false_eq_true, if_false, List.append_nil] at hsu
      refine loopK_next (k + 1) (by omega) (by omega) ?_
      rw [hsu]
      (refine weak_gc [(some 0, 0), (some 1, 0), (some 2, 0)] ?_ ?_ ?_ ?_ ?_ <;> simp [hw])
  · obtain rfl : k = (edS m).length := by omega
    simp
    (refine endG_keepT [(some 2, 0)] ?_ ?_ ?_ ?_ ?_ ?_ ?_ ⟨rfl, rfl⟩ ?_ <;> simp [hinS])
def thr (t : List Int) (e : Ed) : Int := if hasE t e then thirdE t e else -1
/-- The row of an edge, as the reference fills it. -/
def rowN (m : Msh) (e : Ed) (k : Nat) : List Int := e.1 :: e.2 :: thirds (m.tr.take k) e
theorem rowN_succ {m : Msh} {e : Ed} {k : Nat} (h : k < m.tr.length) : rowN m e (k + 1) = rowN m e k ++ if hasE m.tr[k] e then [thirdE m.tr[k] e] else [] := by
  unfold rowN thirds
  rw [List.take_succ_eq_append_getElem h, List.filter_append, List.map_append]
  cases hq : hasE m.tr[k] e <;> simp [hq]
theorem rowN_len (m : Msh) (e : Ed) (k : Nat) : (rowN m e k).length ≤ k + 2 := by
  unfold rowN thirds
  have := List.length_filter_le (fun t => hasE t e) (m.tr.take k)
  simp only [List.length_cons, List.length_map, List.length_take] at *
  omega
end Go.Proofs.YtnjpigkijdnpkaaGreat
