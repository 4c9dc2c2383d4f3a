/- Contracts: integers that are sorted; the neighbours of a place.
Conditions: none. -/
import Derived.Test.YtnjpigkijdnpkaaVJG
import Derived.Shelf.SortM.Plain
import Derived.Shelf.Lay
import Derived.Ground.SlgmProg
namespace Go.Proofs
open Go.Shelf Go.RowKit Go.Lib Go.Sort
set_option linter.all false
shelf_lay_g SlLaysM.n5 Slgm 5 at Try 49 as Try.sortI64
namespace Ytnjpigkijdnpkaa
open Go Go.Awp
set_option maxRecDepth 100000
set_option maxHeartbeats 8000000
set_option pp.deepTerms true

abbrev srt (zs : List Int) : List Int := zs.mergeSort fun x y => decide (x ≤ y)
theorem sortI_at (blk off cap : Nat) (zs : List Int) (w : World) (hH : Sort.Holds (Value.int .i64) w blk off zs.toArray) (hblk : blk < w.heap.size) (hsz : zs.length < 4611686018427387904) :
    Calls Try.prog 49 #[.slice (some ⟨blk, off, none⟩) zs.length cap] w fun e w' =>
      e = .returned (.tuple #[]) ∧ ∃ n os, w' = grow (putRow (Value.int .i64) (Sort.ahead w n) blk off (srt zs).toArray) os :=
  AnyM.slices_Sort_int Try.sortI64 blk off cap zs w hH hblk hsz
theorem c_sortI {zs : List Int} (hlen : zs.length ≤ 1000000) (h0 : zs ≠ []) :
    Fun Try.prog 49 [.slc 0 0 zs.length 1] [.blk false false 2 (cIs zs)] (.tup []) [.blk false false 2 (cIs (srt zs))] := by
  intro map w vs X hX hfree hW hargs o a next Q hnx
  obtain ⟨ha1, ha2⟩ := hargs
  obtain ⟨vs⟩ := vs
  match vs, ha1 with
  | [v0], _ =>
    have hv0 := ha2 0 _ v0 rfl rfl
    have hpos : 0 < zs.length := List.length_pos_iff.2 h0
    rcases hW.root 0 _ _ _ _ rfl with ⟨_, q2, _⟩ | ⟨b, N, arr, q1, q2, q3, q4, q6, q5⟩
    · have := congrArg List.length q2
      simp [cIs] at this
      exact absurd this h0
    · obtain ⟨n0, hn0, hv0⟩ : ∃ n0, n0 = zs.length ∧ VRel w _ (.slc 0 0 n0 1) v0 := ⟨_, rfl, hv0⟩
      cases hv0 with
      | slcv _ _ h => rw [q1] at h; cases h
      | slc _ _ _ _ b' N' cap hm' k1 k2 k3 =>
        rw [q1] at hm'
        cases hm'
        replace q1 : map 0 = some (some (b, N' + 1)) := q1
        have hc := q2.cells
        have hbl := block_lt hc
        have hcl : ∀ L : List Int, (cIs L).length = L.length := fun L => by simp [cIs]
        have hcg : ∀ (L : List Int) (j : Nat) (hj : j < L.length), (cIs L)[j]? = some (.int .i64 L[j]) := fun L j hj => by simp [cIs, hj]
        have hval : ∀ (j : Nat) (hj : j < zs.length), arr[j]? = some (.int .i64 zs[j]) := fun j hj => by
          obtain ⟨v, u1, u2, u3⟩ := q5 j _ (hcg zs j hj)
          cases u3
          exact u1
        have hH : Sort.Holds (Value.int .i64) w b 0 zs.toArray := fun j hj => by
          have hj' : j < zs.length := by simpa using hj
          refine ⟨?_, ?_⟩
          · rw [Nat.zero_add, cell_at hc, hval j hj', getElem!_pos zs.toArray j hj]; simp
          · simp [World.frozen?, hc]
        have hcall := sortI_at b 0 cap zs w hH hbl (by omega)
        subst hn0
        have hrun : ∀ args w, (callFunc 49 args).run Try.prog w = .ok (.enter 49 args) w := enters_of Try.func49 (by kernel_rfl) rfl
        rw [hrun, Oper.upon_enter]
        refine hcall.mono fun e w' ⟨he', n, os, hw'⟩ => ?_
        subst he'
        obtain ⟨es', hes⟩ : ∃ es', es' = srt zs := ⟨_, rfl⟩
        have hel : es'.length = zs.length := by rw [hes]; simp
        rw [← hes] at hw' hnx
        have hh : w'.heap = w.heap.modify b (onCells (putCells (Value.int .i64) 0 es'.toArray)) ++ os := by rw [hw']; rfl
        have hhb : w'.heap[b]? = some (.cells (putCells (Value.int .i64) 0 es'.toArray arr) 2 (0, 0)) := by
          rw [hh, Array.getElem?_append_left (by simpa using hbl), Array.getElem?_modify, if_pos rfl, hc]; rfl
        have hho : ∀ j, j < w.heap.size → j ≠ b → w'.heap[j]? = w.heap[j]? := fun j hj hne => by
          rw [hh, Array.getElem?_append_left (by simpa using hj), Array.getElem?_modify, if_neg (fun e => hne e.symm)]
        have hmut : ∀ b', mutOf map [Root.blk false false 2 (cIs es')] b' ↔ b' = b := fun b' => by
          constructor
          · rintro ⟨r, N1, n1, x1, e1, c1, h1, h2⟩
            match r, h1 with
            | 0, _ => rw [q1] at h2; cases h2; rfl
          · rintro rfl
            exact ⟨0, _, _, _, _, _, rfl, q1⟩
        have hmut0 : ∀ b', mutOf map [Root.blk false false 2 (cIs zs)] b' ↔ b' = b := fun b' => by
          constructor
          · rintro ⟨r, N1, n1, x1, e1, c1, h1, h2⟩
            match r, h1 with
            | 0, _ => rw [q1] at h2; cases h2; rfl
          · rintro rfl
            exact ⟨0, _, _, _, _, _, rfl, q1⟩
        have hpa : (putCells (Value.int .i64) 0 es'.toArray arr).size = arr.size := by simp [putCells]
        have hroot : RootRel w' (env map [Root.blk false false 2 (cIs es')] X w.heap.size) 0 false false 2 (cIs es') := by
          refine .inr ⟨b, _, _, q1, RowAt.of_cells _ hhb, ?_, ?_, (fun h => by cases h), fun i a' ha' => ?_⟩
          · show (putCells (Value.int .i64) 0 es'.toArray arr).size = _
            rw [hpa]; exact q3
          · rw [hpa, hcl, hel]; rw [hcl] at q4; exact q4
          · have hi : i < es'.length := by
              have := (List.getElem?_eq_some_iff.1 ha').1
              rwa [hcl] at this
            rw [hcg es' i hi] at ha'
            cases ha'
            refine ⟨.int .i64 es'[i], ?_, rfl, .int _ _⟩
            have g3 := hval i (by omega)
            simp only [putCells, Array.getElem?_mapIdx, g3, Option.map_some]
            rw [if_pos ⟨Nat.zero_le _, by simpa using hi⟩, Nat.sub_zero, getElem!_pos es'.toArray i (by simpa using hi)]; simp
        refine hnx _ w' ⟨map, .tup [], [.blk false false 2 (cIs es')], ⟨rfl, rfl⟩, .tup [] #[] rfl (fun i a v h => by simp at h), ⟨fun r new box e cells hr => ?_, fun r r' b N N' n1 n2 x1 x2 e1 e2 c1 c2 hr hr' _ _ => ?_⟩, fun r new box e cells hr h => ?_, fun r hr => ?_, ⟨by rw [hw']; rfl, by rw [hw']; rfl, by rw [hw']; rfl, by rw [hh]; simp, fun b' hb' hn => hho b' hb' fun e => hn ((hmut0 b').2 e), fun _ _ h => h, fun _ _ => rfl, Nat.le_refl _, fun b' _ h => (hmut0 b').2 ((hmut b').1 h)⟩⟩
        · match r, hr with
          | 0, hr => cases hr; exact hroot
        · match r, r', hr, hr' with
          | 0, 0, _, _ => rfl
        · match r, h with
          | 0, _ => simp at hr
        · match r, hr with
          | 0, _ => exact ⟨_, _, _, _, rfl⟩
/-- The neighbours of a place, by the first edges. -/
def nbE (p : Int) (e : Ed) : List Int := (if e.1 = p then [e.2] else []) ++ (if e.2 = p then [e.1] else [])
def nbN (m : Msh) (p : Int) (k : Nat) : List Int := ((edS m).take k).flatMap (nbE p)
theorem nbN_succ {m : Msh} {p : Int} {k : Nat} (h : k < (edS m).length) : nbN m p (k + 1) = nbN m p k ++ nbE p (edS m)[k] := by
  unfold nbN
  rw [List.take_succ_eq_append_getElem h, List.flatMap_append]; simp
theorem nbN_len {m : Msh} {p : Int} : ∀ {k : Nat}, k ≤ (edS m).length → (nbN m p k).length ≤ 2 * k
  | 0, _ => by simp [nbN]
  | k + 1, h => by
    have := nbN_len (m := m) (p := p) (k := k) (by omega)
    rw [nbN_succ (by omega), List.length_append]
    have : (nbE p (edS m)[k]).length ≤ 2 := by unfold nbE; split <;> split <;> simp
    omega
abbrev nbS (m : Msh) (p : Int) : List Int := nbN m p (edS m).length
theorem c_NeighboursOf (m : Msh) (hv : vldM m = true) (p : Nat) (hp : p < m.pl.length) (hne : nbS m p ≠ []) : Fun Try.prog 19 [m.av, .int .i64 p] [] (.tup [.slc 0 0 (nbS m p).length 1, .bool true]) [.blk true false 2 (cIs (srt (nbS m p)))] := by
  have hs := vld_small hv
  have hel := edS_len hv
  have hnb : (nbS m p).length ≤ 2 * (edS m).length := nbN_len (Nat.le_refl _)
  refine FnSpec.walk dr_ok Try.func19 rfl (by kernel_rfl) rfl rfl rfl (by simp) ?_
  simp
  (first | refine callG_r ?_ | refine callD_r ?_); simp; (first | refine callN_flat (by with_reducible first | exact c_isPlaceOf m p hv hp) rfl ?_ | refine callN_new (by with_reducible first | exact c_isPlaceOf m p hv hp) ?_ | refine callM_flat (by with_reducible first | exact c_isPlaceOf m p hv hp) rfl ?_ | refine callM_new (by with_reducible first | exact c_isPlaceOf m p hv hp) ?_)
  simp
  (first | refine callG_r ?_ | refine callD_r ?_); simp; (first | refine callN_flat (by with_reducible first | exact c_tbe m hs hv (edgesOk hv)) rfl ?_ | refine callN_new (by with_reducible first | exact c_tbe m hs hv (edgesOk hv)) ?_ | refine callM_flat (by with_reducible first | exact c_tbe m hs hv (edgesOk hv)) rfl ?_ | refine callM_new (by with_reducible first | exact c_tbe m hs hv (edgesOk hv)) ?_)
  simp
  refine loopG_of (α := Nat) (fun k => k ≤ (edS m).length) (fun k => (edS m).length - k) (fun k => [(23, .int .i64 k), (22, .int .i64 (edS m).length), (21, .slc 1 0 (edS m).length 2), (6, .slc 2 0 (nbN m p k).length 1), (2, .ptr 0 0), (1, .int .i64 p)])
    (fun k => [.blk true true 27 m.cells, .blk true false 82 (cEs (edS m)), .blk true false 2 (cIs (nbN m p k))]) 0 (by simp) ?_ fun k hk => ?_
  · (refine weak_gc [(some 0, 0), (some 1, 0), (none, 2)] ?_ ?_ ?_ ?_ ?_ <;> simp [nbN])
  have hw := nat_wrap (k := k) (by omega)
  by_cases b : k < (edS m).length
  · obtain ⟨x, y, he, hxy, hyn⟩ := ed_at hv b
    have hsu := nbN_succ (p := (p : Int)) b
    have hnl := nbN_len (m := m) (p := (p : Int)) (k := k) hk
    rw [he] at hsu
    by_cases c1 : x = p <;> by_cases c2 : y = p
    · omega
    · have c1' : (x : Int) = p := by omega
      have c2' : ¬ (y : Int) = p := by omega
      have hnE : nbE (p : Int) ((x : Int), (y : Int)) = [(y : Int)] := by simp [nbE, c1', c2, c2']
      have htk : List.take (nbN m (p : Int) k).length (nbN m (p : Int) k) = nbN m (p : Int) k := List.take_length
      simp [b, hw, he, c1, c2, c1', c2']
      rw [hnE] at hsu
      have hcl : (nbN m (p : Int) (k + 1)).length = (nbN m (p : Int) k).length + 1 := by rw [hsu]; simp
      refine ⟨by omega, by omega, loopK_next (k + 1) (by omega) (by omega) ?_⟩
      rw [hsu]
      (refine weak_gc [(some 0, 0), (some 1, 0), (some 5, 0)] ?_ ?_ ?_ ?_ ?_ <;> simp)
    · have c1' : ¬ (x : Int) = p := by omega
      have c2' : (y : Int) = p := by omega
      have hnE : nbE (p : Int) ((x : Int), (y : Int)) = [(x : Int)] := by simp [nbE, c1', c2, c1, c2']
      have htk : List.take (nbN m (p : Int) k).length (nbN m (p : Int) k) = nbN m (p : Int) k := List.take_length
      simp [b, hw, he, c1, c2, c1', c2']
      rw [hnE] at hsu
      have hcl : (nbN m (p : Int) (k + 1)).length = (nbN m (p : Int) k).length + 1 := by rw [hsu]; simp
      refine ⟨by omega, by omega, loopK_next (k + 1) (by omega) (by omega) ?_⟩
      rw [hsu]
      (refine weak_gc [(some 0, 0), (some 1, 0), (some 5, 0)] ?_ ?_ ?_ ?_ ?_ <;> simp)
    · have c1' : ¬ (x : Int) = p := by omega
      have c2' : ¬ (y : Int) = p := by omega
      have hnE : nbE (p : Int) ((x : Int), (y : Int)) = [] := by simp [nbE, c1', c2, c1, c2']
      simp [b, hw, he, c1, c2, c1', c2']
      rw [hnE] at hsu
      simp only [List.append_nil] at hsu
      refine loopK_next (k + 1) (by omega) (by omega) ?_
      rw [hsu]
      (refine weak_gc [(some 0, 0), (some 1, 0), (some 2, 0)] ?_ ?_ ?_ ?_ ?_ <;> simp)
  · obtain rfl : k = (edS m).length := by omega
    simp
    (first | refine callG_on false [2] ?_ | refine callD_on false [2] ?_); simp; (first | refine callN_fun (by with_reducible exact c_sortI (zs := nbS m (p : Int)) (by omega) hne) (by simp) ?_ | refine callMD_fun (by with_reducible exact c_sortI (zs := nbS m (p : Int)) (by omega) hne) (by simp) ?_)
    simp
    (refine endG_keepT [(some 2, 0)] ?_ ?_ ?_ ?_ ?_ ?_ ?_ ⟨rfl, rfl⟩ ?_ <;> simp)
end Ytnjpigkijdnpkaa
end Go.Proofs
