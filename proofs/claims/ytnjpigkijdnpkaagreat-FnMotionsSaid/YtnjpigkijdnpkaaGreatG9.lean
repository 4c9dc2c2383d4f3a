/- Contracts: bodies are the same as themselves. Contracts: forces of free places, steps along a way, down the forces. Contracts: runs down the forces. Contracts: directions that turn, runs along them.
Conditions: none. -/
import Derived.Test.YtnjpigkijdnpkaaGreatCan
import Derived.Test.YtnjpigkijdnpkaaGreatG0
import Derived.Test.YtnjpigkijdnpkaaGreatG1
import Derived.Test.YtnjpigkijdnpkaaGreatG7
namespace Go.Proofs.YtnjpigkijdnpkaaGreat
set_option linter.all false
open Go Go.Awp
set_option maxRecDepth 100000
set_option maxHeartbeats 4000000
set_option pp.deepTerms true

theorem c_SameNumberE (x : Nat) : Fun Tryz.prog 52 [.flt .f32 x, .flt .f32 x] [] (.bool true) [] := fn_can fun hc => by
  have h : CanF .f32 x := hc (.flt .f32 x) (by simp)
  have := c_SameNumber h h
  rw [decide_eq_true rfl] at this
  exact this
theorem c_SameVectorE (v : V) : Fun Tryz.prog 54 [aV v, aV v] [] (.bool true) [] := by
  refine FnSpec.walkF dr_ok Tryz.func54 rfl (by kernel_rfl) rfl rfl rfl (by simp) ?_
  simp
  (first | refine callG_r ?_ | refine callD_r ?_); simp; (first | refine callN_flat (by with_reducible first | exact c_SameNumberE _) rfl ?_ | refine callN_new (by with_reducible first | exact c_SameNumberE _) ?_ | refine callM_flat (by with_reducible first | exact c_SameNumberE _) rfl ?_ | refine callM_new (by with_reducible first | exact c_SameNumberE _) ?_)
  simp
  (first | refine callG_r ?_ | refine callD_r ?_); simp; (first | refine callN_flat (by with_reducible first | exact c_SameNumberE _) rfl ?_ | refine callN_new (by with_reducible first | exact c_SameNumberE _) ?_ | refine callM_flat (by with_reducible first | exact c_SameNumberE _) rfl ?_ | refine callM_new (by with_reducible first | exact c_SameNumberE _) ?_)
  simp
  (first | refine callG_r ?_ | refine callD_r ?_); simp; (first | refine callN_flat (by with_reducible first | exact c_SameNumberE _) rfl ?_ | refine callN_new (by with_reducible first | exact c_SameNumberE _) ?_ | refine callM_flat (by with_reducible first | exact c_SameNumberE _) rfl ?_ | refine callM_new (by with_reducible first | exact c_SameNumberE _) ?_)
  simp
theorem c_sameSpringE (x y : Int) (z u : Nat) : Fun Tryz.prog 51 [.agg [.int .i64 x, .int .i64 y, .flt .f32 z, .flt .f32 u], .agg [.int .i64 x, .int .i64 y, .flt .f32 z, .flt .f32 u]] [] (.bool true) [] := by
  refine FnSpec.walkF dr_ok Tryz.func51 rfl (by kernel_rfl) rfl rfl rfl (by simp) ?_
  simp
  (first | refine callG_r ?_ | refine callD_r ?_); simp; (first | refine callN_flat (by with_reducible first | exact c_SameNumberE _) rfl ?_ | refine callN_new (by with_reducible first | exact c_SameNumberE _) ?_ | refine callM_flat (by with_reducible first | exact c_SameNumberE _) rfl ?_ | refine callM_new (by with_reducible first | exact c_SameNumberE _) ?_)
  simp
  (first | refine callG_r ?_ | refine callD_r ?_); simp; (first | refine callN_flat (by with_reducible first | exact c_SameNumberE _) rfl ?_ | refine callN_new (by with_reducible first | exact c_SameNumberE _) ?_ | refine callM_flat (by with_reducible first | exact c_SameNumberE _) rfl ?_ | refine callM_new (by with_reducible first | exact c_SameNumberE _) ?_)
  simp
theorem c_EqualFuncVE (l : List V) (n : Nat) (hn : n = l.length) (h1 : l.length ≤ 1048576) :
    Fun Tryz.prog 82 [.view false (cVs l) n, .view false (cVs l) n, .clo 54 [] []] [] (.bool true) [] := by
  subst hn
  refine FnSpec.walkF dr_ok Tryz.func82 rfl (by kernel_rfl) rfl rfl rfl (by simp) ?_
  simp
  refine loopG_of (α := Nat) (fun k => k ≤ l.length) (fun k => l.length - k) (fun k => [(17, .int .i64 k), (16, .int .i64 l.length), (15, .view false (cVs l) l.length), (1, .view false (cVs l) l.length), (2, .clo 54 [] [])]) (fun k => []) 0 (by simp) ?_ fun k hk => ?_
  · (refine weak_gc [] ?_ ?_ ?_ ?_ ?_ <;> simp)
  have hw := nat_wrap (k := k) (by omega)
  by_cases b : k < l.length
  · simp [b, hw]
    (first | refine callG_r ?_ | refine callD_r ?_); simp; (first | refine callN_flat (by with_reducible first | exact c_SameVectorE _) rfl ?_ | refine callN_new (by with_reducible first | exact c_SameVectorE _) ?_ | refine callM_flat (by with_reducible first | exact c_SameVectorE _) rfl ?_ | refine callM_new (by with_reducible first | exact c_SameVectorE _) ?_)
    simp [hw]
    refine loopK_next (k + 1) (by omega) (by omega) ?_
    (refine weak_gc [] ?_ ?_ ?_ ?_ ?_ <;> simp)
  · obtain rfl : k = l.length := by omega
    simp
theorem c_EqualFuncSE (l : List Sp) (n : Nat) (hn : n = l.length) (h1 : l.length ≤ 1048576) :
    Fun Tryz.prog 50 [.view false (cSs l) n, .view false (cSs l) n, .clo 51 [] []] [] (.bool true) [] := by
  subst hn
  refine FnSpec.walkF dr_ok Tryz.func50 rfl (by kernel_rfl) rfl rfl rfl (by simp) ?_
  simp
  refine loopG_of (α := Nat) (fun k => k ≤ l.length) (fun k => l.length - k) (fun k => [(17, .int .i64 k), (16, .int .i64 l.length), (15, .view false (cSs l) l.length), (1, .view false (cSs l) l.length), (2, .clo 51 [] [])]) (fun k => []) 0 (by simp) ?_ fun k hk => ?_
  · (refine weak_gc [] ?_ ?_ ?_ ?_ ?_ <;> simp)
  have hw := nat_wrap (k := k) (by omega)
  by_cases b : k < l.length
  · simp [b, hw]
    (first | refine callG_r ?_ | refine callD_r ?_); simp; (first | refine callN_flat (by with_reducible first | exact c_sameSpringE _ _ _ _) rfl ?_ | refine callN_new (by with_reducible first | exact c_sameSpringE _ _ _ _) ?_ | refine callM_flat (by with_reducible first | exact c_sameSpringE _ _ _ _) rfl ?_ | refine callM_new (by with_reducible first | exact c_sameSpringE _ _ _ _) ?_)
    simp [hw]
    refine loopK_next (k + 1) (by omega) (by omega) ?_
    (refine weak_gc [] ?_ ?_ ?_ ?_ ?_ <;> simp)
  · obtain rfl : k = l.length := by omega
    simp
theorem c_EqualFuncFE (l : List Nat) (n : Nat) (hn : n = l.length) (h1 : l.length ≤ 1048576) :
    Fun Tryz.prog 53 [.view false (cFs l) n, .view false (cFs l) n, .clo 52 [] []] [] (.bool true) [] := by
  subst hn
  refine FnSpec.walkF dr_ok Tryz.func53 rfl (by kernel_rfl) rfl rfl rfl (by simp) ?_
  simp
  refine loopG_of (α := Nat) (fun k => k ≤ l.length) (fun k => l.length - k) (fun k => [(17, .int .i64 k), (16, .int .i64 l.length), (15, .view false (cFs l) l.length), (1, .view false (cFs l) l.length), (2, .clo 52 [] [])]) (fun k => []) 0 (by simp) ?_ fun k hk => ?_
  · (refine weak_gc [] ?_ ?_ ?_ ?_ ?_ <;> simp)
  have hw := nat_wrap (k := k) (by omega)
  by_cases b : k < l.length
  · simp [b, hw]
    (first | refine callG_r ?_ | refine callD_r ?_); simp; (first | refine callN_flat (by with_reducible first | exact c_SameNumberE _) rfl ?_ | refine callN_new (by with_reducible first | exact c_SameNumberE _) ?_ | refine callM_flat (by with_reducible first | exact c_SameNumberE _) rfl ?_ | refine callM_new (by with_reducible first | exact c_SameNumberE _) ?_)
    simp [hw]
    refine loopK_next (k + 1) (by omega) (by omega) ?_
    (refine weak_gc [] ?_ ?_ ?_ ?_ ?_ <;> simp)
  · obtain rfl : k = l.length := by omega
    simp
theorem c_EqualE (l : List Int) (n : Nat) (hn : n = l.length) (h1 : l.length ≤ 1048576) :
    Fun Tryz.prog 110 [.view false (cIs l) n, .view false (cIs l) n] [] (.bool true) [] := by
  have := c_Equal l l n n hn hn h1
  rw [decide_eq_true rfl] at this
  exact this
theorem c_sameTri (l : List Int) (n : Nat) (hn : n = l.length) (h1 : l.length ≤ 1048576) :
    Fun Tryz.prog 109 [.view false (cIs l) n, .view false (cIs l) n] [] (.bool true) [] := by
  refine FnSpec.walkF dr_ok Tryz.func109 rfl (by kernel_rfl) rfl rfl rfl (by simp) ?_
  simp
  (first | refine callG_r ?_ | refine callD_r ?_); simp; (first | refine callN_flat (by with_reducible first | exact c_EqualE _ _ hn h1) rfl ?_ | refine callN_new (by with_reducible first | exact c_EqualE _ _ hn h1) ?_ | refine callM_flat (by with_reducible first | exact c_EqualE _ _ hn h1) rfl ?_ | refine callM_new (by with_reducible first | exact c_EqualE _ _ hn h1) ?_)
  simp
theorem c_EqualFuncRE (T : List (List Int)) (n : Nat) (hn : n = T.length) (h1 : T.length ≤ 1048576) (h2 : ∀ t ∈ T, t.length ≤ 1048576) :
    Fun Tryz.prog 108 [.view false (cRs false T) n, .view false (cRs false T) n, .clo 109 [] []] [] (.bool true) [] := by
  subst hn
  refine FnSpec.walkF dr_ok Tryz.func108 rfl (by kernel_rfl) rfl rfl rfl (by simp) ?_
  simp
  refine loopG_of (α := Nat) (fun k => k ≤ T.length) (fun k => T.length - k) (fun k => [(17, .int .i64 k), (16, .int .i64 T.length), (15, .view false (cRs false T) T.length), (1, .view false (cRs false T) T.length), (2, .clo 109 [] [])]) (fun k => []) 0 (by simp) ?_ fun k hk => ?_
  · (refine weak_gc [] ?_ ?_ ?_ ?_ ?_ <;> simp)
  have hw := nat_wrap (k := k) (by omega)
  by_cases b : k < T.length
  · have h3 := h2 _ (List.getElem_mem b)
    simp [b, hw]
    (first | refine callG_r ?_ | refine callD_r ?_); simp; (first | refine callN_flat (by with_reducible first | exact c_sameTri _ _ rfl h3) rfl ?_ | refine callN_new (by with_reducible first | exact c_sameTri _ _ rfl h3) ?_ | refine callM_flat (by with_reducible first | exact c_sameTri _ _ rfl h3) rfl ?_ | refine callM_new (by with_reducible first | exact c_sameTri _ _ rfl h3) ?_)
    simp [hw]
    refine loopK_next (k + 1) (by omega) (by omega) ?_
    (refine weak_gc [] ?_ ?_ ?_ ?_ ?_ <;> simp)
  · obtain rfl : k = T.length := by omega
    simp
theorem c_sameTriangles (T : List (List Int)) (n : Nat) (hn : n = T.length) (h1 : T.length ≤ 1048576) (h2 : ∀ t ∈ T, t.length ≤ 1048576) :
    Fun Tryz.prog 83 [.view false (cRs false T) n, .view false (cRs false T) n] [] (.bool true) [] := by
  refine FnSpec.walkF dr_ok Tryz.func83 rfl (by kernel_rfl) rfl rfl rfl (by simp) ?_
  simp
  (first | refine callG_r ?_ | refine callD_r ?_); simp; (first | refine callN_flat (by with_reducible first | exact c_EqualFuncRE _ _ hn h1 h2) rfl ?_ | refine callN_new (by with_reducible first | exact c_EqualFuncRE _ _ hn h1 h2) ?_ | refine callM_flat (by with_reducible first | exact c_EqualFuncRE _ _ hn h1 h2) rfl ?_ | refine callM_new (by with_reducible first | exact c_EqualFuncRE _ _ hn h1 h2) ?_)
  simp
theorem c_SameMeshE (m : Msh) (h : m.Small) : Fun Tryz.prog 49 [m.av, m.av] [] (.bool true) [] := by
  have h1 := h.pl
  have h2 := h.tr
  refine FnSpec.walkF dr_ok Tryz.func49 rfl (by kernel_rfl) rfl rfl rfl (by simp) ?_
  simp
  (first | refine callG_r ?_ | refine callD_r ?_); simp; (first | refine callN_flat (by with_reducible first | exact c_EqualFuncVE _ _ rfl h1) rfl ?_ | refine callN_new (by with_reducible first | exact c_EqualFuncVE _ _ rfl h1) ?_ | refine callM_flat (by with_reducible first | exact c_EqualFuncVE _ _ rfl h1) rfl ?_ | refine callM_new (by with_reducible first | exact c_EqualFuncVE _ _ rfl h1) ?_)
  simp
  (first | refine callG_r ?_ | refine callD_r ?_); simp; (first | refine callN_flat (by with_reducible first | exact c_sameTriangles _ _ rfl h2.1 h2.2) rfl ?_ | refine callN_new (by with_reducible first | exact c_sameTriangles _ _ rfl h2.1 h2.2) ?_ | refine callM_flat (by with_reducible first | exact c_sameTriangles _ _ rfl h2.1 h2.2) rfl ?_ | refine callM_new (by with_reducible first | exact c_sameTriangles _ _ rfl h2.1 h2.2) ?_)
  simp
theorem c_SameBodyE (b : Bod) (h : b.Small) : Fun Tryz.prog 17 [b.av, b.av] [] (.bool true) [] := by
  obtain ⟨h1, h2, h3⟩ := h
  refine FnSpec.walkF dr_ok Tryz.func17 rfl (by kernel_rfl) rfl rfl rfl (by simp) ?_
  simp
  (first | refine callG_r ?_ | refine callD_r ?_); simp; (first | refine callN_flat (by with_reducible first | exact c_SameMeshE b.me h1) rfl ?_ | refine callN_new (by with_reducible first | exact c_SameMeshE b.me h1) ?_ | refine callM_flat (by with_reducible first | exact c_SameMeshE b.me h1) rfl ?_ | refine callM_new (by with_reducible first | exact c_SameMeshE b.me h1) ?_)
  simp
  (first | refine callG_r ?_ | refine callD_r ?_); simp; (first | refine callN_flat (by with_reducible first | exact c_EqualFuncSE _ _ rfl h2) rfl ?_ | refine callN_new (by with_reducible first | exact c_EqualFuncSE _ _ rfl h2) ?_ | refine callM_flat (by with_reducible first | exact c_EqualFuncSE _ _ rfl h2) rfl ?_ | refine callM_new (by with_reducible first | exact c_EqualFuncSE _ _ rfl h2) ?_)
  simp
  (first | refine callG_r ?_ | refine callD_r ?_); simp; (first | refine callN_flat (by with_reducible first | exact c_SameNumberE _) rfl ?_ | refine callN_new (by with_reducible first | exact c_SameNumberE _) ?_ | refine callM_flat (by with_reducible first | exact c_SameNumberE _) rfl ?_ | refine callM_new (by with_reducible first | exact c_SameNumberE _) ?_)
  simp
  (first | refine callG_r ?_ | refine callD_r ?_); simp; (first | refine callN_flat (by with_reducible first | exact c_SameNumberE _) rfl ?_ | refine callN_new (by with_reducible first | exact c_SameNumberE _) ?_ | refine callM_flat (by with_reducible first | exact c_SameNumberE _) rfl ?_ | refine callM_new (by with_reducible first | exact c_SameNumberE _) ?_)
  simp
  (first | refine callG_r ?_ | refine callD_r ?_); simp; (first | refine callN_flat (by with_reducible first | exact c_EqualFuncFE _ _ rfl h3) rfl ?_ | refine callN_new (by with_reducible first | exact c_EqualFuncFE _ _ rfl h3) ?_ | refine callM_flat (by with_reducible first | exact c_EqualFuncFE _ _ rfl h3) rfl ?_ | refine callM_new (by with_reducible first | exact c_EqualFuncFE _ _ rfl h3) ?_)
  simp
  (first | refine callG_r ?_ | refine callD_r ?_); simp; (first | refine callN_flat (by with_reducible first | exact c_SameVectorE b.fall) rfl ?_ | refine callN_new (by with_reducible first | exact c_SameVectorE b.fall) ?_ | refine callM_flat (by with_reducible first | exact c_SameVectorE b.fall) rfl ?_ | refine callM_new (by with_reducible first | exact c_SameVectorE b.fall) ?_)
  simp
end Go.Proofs.YtnjpigkijdnpkaaGreat
namespace Go.Proofs.YtnjpigkijdnpkaaGreat
set_option linter.all false
open Go Go.Awp
set_option maxRecDepth 100000
set_option maxHeartbeats 8000000
set_option pp.deepTerms true

theorem c_freeForces (b : Bod) (held : List Int) (hs : b.Small) (hv : vldB b = true) (hh : held.length ≤ 1048576) (hp : ∀ p ∈ held, 0 ≤ p ∧ p < b.me.pl.length) :
    Fun Tryz.prog 45 [b.av, .view false (cIs held) held.length] [] (.slc 0 0 b.me.pl.length 3) [.blk true false 32 (cVs (freeL (frcB b) held))] := by
  obtain ⟨hm, hpl, htr, hsp, hww⟩ := vldB_of hv
  have hl : (frcB b).length = b.me.pl.length := frcB_len b
  refine FnSpec.walk dr_ok Tryz.func45 rfl (by kernel_rfl) rfl rfl rfl (by simp) ?_
  simp
  (first | refine callG_r ?_ | refine callD_r ?_); simp; (first | refine callN_flat (by with_reducible first | exact c_forcesOf b hs hv) rfl ?_ | refine callN_new (by with_reducible first | exact c_forcesOf b hs hv) ?_ | refine callM_flat (by with_reducible first | exact c_forcesOf b hs hv) rfl ?_ | refine callM_new (by with_reducible first | exact c_forcesOf b hs hv) ?_)
  simp
  generalize frcB b = v at *
  refine loopG_of (α := Nat) (fun k => k ≤ held.length) (fun k => held.length - k) (fun k => [(12, .int .i64 k), (11, .int .i64 held.length), (10, .view false (cIs held) held.length), (5, .slc 1 0 b.me.pl.length 3), (2, .ptr 0 0)])
    (fun k => [.blk true true 34 b.cells, .blk true false 32 (cVs (freeN v held k))]) 0 (by simp) ?_ fun k hk => ?_
  · (refine weak_gc [(some 0, 0), (some 1, 0)] ?_ ?_ ?_ ?_ ?_ <;> simp [freeN_zero])
  have hw := nat_wrap (k := k) (by omega)
  by_cases c : k < held.length
  · have hpk := hp _ (List.getElem_mem c)
    obtain ⟨p, he⟩ : ∃ p : Nat, held[k] = (p : Int) := ⟨held[k].toNat, by omega⟩
    rw [he] at hpk
    have hpv : p < v.length := by omega
    have hpb : p < b.me.pl.length := by omega
    have hsu := freeN_succ (v := v) c he
    have hll := freeN_len v held k
    generalize freeN v held k = O at *
    simp [c, he, hw, hpv, hpb, hll]
    refine ⟨by omega, loopK_next (k + 1) (by omega) (by omega) ?_⟩
    rw [hsu]
    (refine weak_gc [(some 0, 0), (some 1, 0)] ?_ ?_ ?_ ?_ ?_ <;> simp [hw])
  · obtain rfl : k = held.length := by omega
    simp
    (refine endG_keepT [(some 1, 0)] ?_ ?_ ?_ ?_ ?_ ?_ ?_ ⟨rfl, rfl⟩ ?_ <;> simp [freeL])
/-- Steps that are halved until the energy falls. -/
def halfN (s : Nat) : Nat → Nat
  | 0 => s
  | k + 1 => fop .quo .f32 (halfN s k) 1073741824
def fellB (b : Bod) (way : List V) (s : Nat) : Bool := ford .f32 (enB (movB b way s)) (enB b) == some .lt
def stepA (b : Bod) (way : List V) : Nat → Nat → Nat → Bod × Nat × Bool
  | 0, _, _ => (b, 20, false)
  | n + 1, k, s => if fellB b way s then (movB b way s, k, true) else stepA b way n (k + 1) (fop .quo .f32 s 1073741824)
def stepR (b : Bod) (way : List V) (s : Nat) : Bod × Nat × Bool := stepA b way 21 0 s
theorem stepA_len {b : Bod} {way : List V} (hl : way.length = b.me.pl.length) : ∀ {n k s : Nat}, (stepA b way n k s).1.me.pl.length = b.me.pl.length
  | 0, _, _ => rfl
  | n + 1, k, s => by
    unfold stepA
    split
    · exact movB_pl hl
    · exact stepA_len hl
theorem stepA_small {b : Bod} {way : List V} (hs : b.Small) (hl : way.length = b.me.pl.length) : ∀ {n k s : Nat}, (stepA b way n k s).1.Small
  | 0, _, _ => hs
  | n + 1, k, s => by
    unfold stepA
    split
    · exact small_mov hs hl
    · exact stepA_small hs hl
theorem stepA_vld {b : Bod} {way : List V} (hv : vldB b = true) (hl : way.length = b.me.pl.length) : ∀ {n k s : Nat}, vldB (stepA b way n k s).1 = true
  | 0, _, _ => hv
  | n + 1, k, s => by
    unfold stepA
    split
    · exact vldB_mov hv hl
    · exact stepA_vld hv hl
theorem c_stepAlong (b : Bod) (way : List V) (s : Nat) (hs : b.Small) (hv : vldB b = true) (hl : way.length = b.me.pl.length) :
    Fun Tryz.prog 44 [b.av, .view false (cVs way) way.length, .flt .f32 s] [] (.tup [(stepR b way s).1.cp 0, .int .i64 (stepR b way s).2.1, .bool (stepR b way s).2.2]) (stepR b way s).1.cpm := by
  obtain ⟨hm, hpl, htr, hsp, hww⟩ := vldB_of hv
  refine FnSpec.walk dr_ok Tryz.func44 rfl (by kernel_rfl) rfl rfl rfl (by simp) ?_
  simp
  (first | refine callG_r ?_ | refine callD_r ?_); simp; (first | refine callN_flat (by with_reducible first | exact c_energyOf b hs hv) rfl ?_ | refine callN_new (by with_reducible first | exact c_energyOf b hs hv) ?_ | refine callM_flat (by with_reducible first | exact c_energyOf b hs hv) rfl ?_ | refine callM_new (by with_reducible first | exact c_energyOf b hs hv) ?_)
  simp
  refine loopG_of (α := Nat) (fun k => k ≤ 21 ∧ stepR b way s = stepA b way (21 - k) k (halfN s k)) (fun k => 21 - k) (fun k => [(10, .int .i64 k), (9, .flt .f32 (enB b)), (6, .ptr 1 0), (3, .ptr 0 0), (2, .flt .f32 (halfN s k)), (1, .view false (cVs way) way.length)])
    (fun k => [.blk true true 34 b.cells, .blk true true 34 [.nils, .nils, .nils, .flt .f32 0, .flt .f32 0, .nils, .flt .f32 0, .flt .f32 0, .flt .f32 0]]) 0 ⟨by omega, rfl⟩ ?_ fun k ⟨hk, he⟩ => ?_
  · (refine weak_gc [(some 0, 0), (some 1, 0)] ?_ ?_ ?_ ?_ ?_ <;> simp [halfN])
  have hw := nat_wrap (k := k) (by omega)
  by_cases c : k ≤ 20
  · have cI : (k : Int) ≤ 20 := by omega
    simp [c, cI]
    (first | refine callG_r ?_ | refine callD_r ?_); simp; (first | refine callN_flat (by with_reducible first | exact c_moved b way _ hs hpl htr hl) rfl ?_ | refine callN_new (by with_reducible first | exact c_moved b way _ hs hpl htr hl) ?_ | refine callM_flat (by with_reducible first | exact c_moved b way _ hs hpl htr hl) rfl ?_ | refine callM_new (by with_reducible first | exact c_moved b way _ hs hpl htr hl) ?_)
    simp
    (first | refine callG_r ?_ | refine callD_r ?_); simp; (first | refine callN_flat (by with_reducible first | exact c_energyOf _ (small_mov hs hl) (vldB_mov hv hl)) rfl ?_ | refine callN_new (by with_reducible first | exact c_energyOf _ (small_mov hs hl) (vldB_mov hv hl)) ?_ | refine callM_flat (by with_reducible first | exact c_energyOf _ (small_mov hs hl) (vldB_mov hv hl)) rfl ?_ | refine callM_new (by with_reducible first | exact c_energyOf _ (small_mov hs hl) (vldB_mov hv hl)) ?_)
    simp [hw]
    obtain ⟨n, hn⟩ : ∃ n, 21 - k = n + 1 := ⟨20 - k, by omega⟩
    rw [hn] at he
    have hn2 : 21 - (k + 1) = n := by omega
    refine ⟨fun hf => ?_, fun hf => ?_⟩
    · have e2 : stepR b way s = (movB b way (halfN s k), k, true) := by
        rw [he]
        unfold stepA
        rw [if_pos (by unfold fellB; simpa using hf)]
      rw [e2]
      (refine endG_keepT [(some 2, 0), (some 3, 0), (some 4, 0), (some 5, 0)] ?_ ?_ ?_ ?_ ?_ ?_ ?_ ⟨rfl, rfl⟩ ?_ <;> simp)
    · have e2 : stepR b way s = stepA b way n (k + 1) (halfN s (k + 1)) := by
        rw [he]
        conv => lhs; unfold stepA
        rw [if_neg (by unfold fellB; simpa using hf)]
        rfl
      refine loopK_next (k + 1) (by omega) ⟨by omega, by rw [hn2]; exact e2⟩ ?_
      (refine weak_gc [(some 0, 0), (some 1, 0)] ?_ ?_ ?_ ?_ ?_ <;> simp [halfN, hw])
  · obtain rfl : k = 21 := by omega
    have e2 : stepR b way s = (b, 20, false) := he
    simp
    (first | refine callG_r ?_ | refine callD_r ?_); simp; (first | refine callN_flat (by with_reducible first | exact c_copyBody b hs htr) rfl ?_ | refine callN_new (by with_reducible first | exact c_copyBody b hs htr) ?_ | refine callM_flat (by with_reducible first | exact c_copyBody b hs htr) rfl ?_ | refine callM_new (by with_reducible first | exact c_copyBody b hs htr) ?_)
    simp
    rw [e2]
    (refine endG_keepT [(some 2, 0), (some 3, 0), (some 4, 0), (some 5, 0)] ?_ ?_ ?_ ?_ ?_ ?_ ?_ ⟨rfl, rfl⟩ ?_ <;> simp)
theorem pins_of {b : Bod} {held : List Int} (h : vldH b held = true) : vldB b = true ∧ ∀ p ∈ held, 0 ≤ p ∧ p < b.me.pl.length := by
  unfold vldH at h
  rw [Bool.and_eq_true] at h
  exact ⟨h.1, fun p hp => pins_mem (by omega) h.2 p hp⟩
/-- The step of a body along its forces. -/
def downR (b : Bod) (held : List Int) (s : Nat) : Bod × Nat × Bool := stepR b (freeL (frcB b) held) s
theorem c_StepDown (b : Bod) (held : List Int) (s : Nat) (hs : b.Small) (hh : held.length ≤ 1048576) (hv : vldH b held = true) (ho : overB s = true) :
    Fun Tryz.prog 11 [b.av, .view false (cIs held) held.length, .flt .f32 s] [] (.tup [(downR b held s).1.cp 0, .int .i64 (downR b held s).2.1, .bool (downR b held s).2.2, .bool true]) (downR b held s).1.cpm := by
  obtain ⟨hvb, hp⟩ := pins_of hv
  have hl : (freeL (frcB b) held).length = b.me.pl.length := by rw [freeL_len, frcB_len]
  refine FnSpec.walk dr_ok Tryz.func11 rfl (by kernel_rfl) rfl rfl rfl (by simp) ?_
  simp
  (first | refine callG_r ?_ | refine callD_r ?_); simp; (first | refine callN_flat (by with_reducible first | exact c_IsHeld b held hs hh) rfl ?_ | refine callN_new (by with_reducible first | exact c_IsHeld b held hs hh) ?_ | refine callM_flat (by with_reducible first | exact c_IsHeld b held hs hh) rfl ?_ | refine callM_new (by with_reducible first | exact c_IsHeld b held hs hh) ?_)
  simp [hv]
  (first | refine callG_r ?_ | refine callD_r ?_); simp; (first | refine callN_flat (by with_reducible first | exact c_isOver _) rfl ?_ | refine callN_new (by with_reducible first | exact c_isOver _) ?_ | refine callM_flat (by with_reducible first | exact c_isOver _) rfl ?_ | refine callM_new (by with_reducible first | exact c_isOver _) ?_)
  simp [ho]
  (first | refine callG_r ?_ | refine callD_r ?_); simp; (first | refine callN_flat (by with_reducible first | exact c_freeForces b held hs hvb hh hp) rfl ?_ | refine callN_new (by with_reducible first | exact c_freeForces b held hs hvb hh hp) ?_ | refine callM_flat (by with_reducible first | exact c_freeForces b held hs hvb hh hp) rfl ?_ | refine callM_new (by with_reducible first | exact c_freeForces b held hs hvb hh hp) ?_)
  simp
  have hc := c_stepAlong b (freeL (frcB b) held) s hs hvb hl
  rw [hl] at hc
  have e : downR b held s = stepR b (freeL (frcB b) held) s := rfl
  rw [e]
  generalize stepR b (freeL (frcB b) held) s = R at *
  generalize freeL (frcB b) held = W at *
  have htk : W.take b.me.pl.length = W := List.take_of_length_le (by omega)
  (first | refine callG_r ?_ | refine callD_r ?_)
  simp [htk]
  (first | refine callN_new hc ?_ | refine callM_new hc ?_)
  simp
  (refine endG_keepT [(some 3, 0), (some 4, 0), (some 5, 0), (some 6, 0)] ?_ ?_ ?_ ?_ ?_ ?_ ?_ ⟨rfl, rfl⟩ ?_ <;> simp)
end Go.Proofs.YtnjpigkijdnpkaaGreat
namespace Go.Proofs.YtnjpigkijdnpkaaGreat
set_option linter.all false
open Go Go.Awp
set_option maxRecDepth 100000
set_option maxHeartbeats 8000000
set_option pp.deepTerms true

def runD (held : List Int) (s : Nat) : Nat → Bod → List Nat → Bod × List Nat
  | 0, b, E => (b, E)
  | n + 1, b, E => if (downR b held s).2.2 = true then runD held s n (downR b held s).1 (E ++ [enB (downR b held s).1]) else (b, E)
theorem runD_succ (held : List Int) (s n : Nat) (b : Bod) (E : List Nat) : runD held s (n + 1) b E = if (downR b held s).2.2 = true then runD held s n (downR b held s).1 (E ++ [enB (downR b held s).1]) else (b, E) := rfl
theorem downR_len {b : Bod} {held : List Int} {s : Nat} : (downR b held s).1.me.pl.length = b.me.pl.length := stepA_len (by rw [freeL_len, frcB_len])
theorem downR_small {b : Bod} {held : List Int} {s : Nat} (hs : b.Small) : (downR b held s).1.Small := stepA_small hs (by rw [freeL_len, frcB_len])
theorem downR_vld {b : Bod} {held : List Int} {s : Nat} (hv : vldB b = true) : vldB (downR b held s).1 = true := stepA_vld hv (by rw [freeL_len, frcB_len])
theorem c_RunDown (b : Bod) (held : List Int) (s n : Nat) (hs : b.Small) (hh : held.length ≤ 1048576) (hv : vldH b held = true) (ho : overB s = true) (hn : n ≤ 40) :
    Fun Tryz.prog 10 [b.av, .view false (cIs held) held.length, .flt .f32 s, .int .i64 n] [] (.tup [(runD held s n b [enB b]).1.cp 0, .slc 4 0 (runD held s n b [enB b]).2.length 1, .bool true])
      ((runD held s n b [enB b]).1.cpm ++ [.blk true false 29 (cFs (runD held s n b [enB b]).2)]) := by
  obtain ⟨hvb, hp⟩ := pins_of hv
  obtain ⟨hm, hpl, htr, hsp, hww⟩ := vldB_of hvb
  refine FnSpec.walk dr_ok Tryz.func10 rfl (by kernel_rfl) rfl rfl rfl (by simp) ?_
  simp
  (first | refine callG_r ?_ | refine callD_r ?_); simp; (first | refine callN_flat (by with_reducible first | exact c_IsHeld b held hs hh) rfl ?_ | refine callN_new (by with_reducible first | exact c_IsHeld b held hs hh) ?_ | refine callM_flat (by with_reducible first | exact c_IsHeld b held hs hh) rfl ?_ | refine callM_new (by with_reducible first | exact c_IsHeld b held hs hh) ?_)
  simp [hv]
  (first | refine callG_r ?_ | refine callD_r ?_); simp; (first | refine callN_flat (by with_reducible first | exact c_isOver _) rfl ?_ | refine callN_new (by with_reducible first | exact c_isOver _) ?_ | refine callM_flat (by with_reducible first | exact c_isOver _) rfl ?_ | refine callM_new (by with_reducible first | exact c_isOver _) ?_)
  simp [ho]
  (first | refine callG_r ?_ | refine callD_r ?_); simp; (first | refine callN_flat (by with_reducible first | exact c_within _ _ _) rfl ?_ | refine callN_new (by with_reducible first | exact c_within _ _ _) ?_ | refine callM_flat (by with_reducible first | exact c_within _ _ _) rfl ?_ | refine callM_new (by with_reducible first | exact c_within _ _ _) ?_)
  have hi : inB n 0 40 = true := by simp [inB]; omega
  simp [hi]
  (first | refine callG_r ?_ | refine callD_r ?_); simp; (first | refine callN_flat (by with_reducible first | exact c_copyBody b hs htr) rfl ?_ | refine callN_new (by with_reducible first | exact c_copyBody b hs htr) ?_ | refine callM_flat (by with_reducible first | exact c_copyBody b hs htr) rfl ?_ | refine callM_new (by with_reducible first | exact c_copyBody b hs htr) ?_)
  simp
  (first | refine callG_r ?_ | refine callD_r ?_); simp; (first | refine callN_flat (by with_reducible first | exact c_energyOf b hs hvb) rfl ?_ | refine callN_new (by with_reducible first | exact c_energyOf b hs hvb) ?_ | refine callM_flat (by with_reducible first | exact c_energyOf b hs hvb) rfl ?_ | refine callM_new (by with_reducible first | exact c_energyOf b hs hvb) ?_)
  simp
  refine loopG_of (α := Bod × List Nat × Nat) (fun x => x.2.2 ≤ n ∧ runD held s n b [enB b] = runD held s (n - x.2.2) x.1 x.2.1 ∧ x.1.Small ∧ vldB x.1 = true ∧ x.1.me.pl.length = b.me.pl.length ∧ x.2.1.length = x.2.2 + 1) (fun x => n - x.2.2)
    (fun x => [(37, .int .i64 x.2.2), (36, .int .i64 n), (12, .slc 6 0 (x.2.2 + 1) 1), (11, .ptr 7 0), (8, .ptr 1 0), (2, .flt .f32 s), (1, .view false (cIs held) held.length)])
    (fun x => [.blk true true 34 b.cells, .blk true true 34 [.nils, .nils, .nils, .flt .f32 0, .flt .f32 0, .nils, .flt .f32 0, .flt .f32 0, .flt .f32 0]] ++ x.1.cpm ++ [.blk true false 29 (cFs x.2.1),
      .blk true true 34 [.slc 2 0 x.1.me.pl.length 3, .slc 3 0 x.1.me.tr.length 1, .slc 4 0 x.1.sp.length 4, .flt .f32 x.1.film, .flt .f32 x.1.bend, .slc 5 0 x.1.w.length 1, .flt .f32 x.1.fall.1, .flt .f32 x.1.fall.2.1, .flt .f32 x.1.fall.2.2]])
    (b, [enB b], 0) ⟨Nat.zero_le _, rfl, hs, hvb, rfl, rfl⟩ ?_ fun x hx => ?_
  · (refine weak_gc [(some 0, 0), (some 1, 0), (some 2, 0), (some 3, 0), (some 4, 0), (some 5, 0), (some 6, 0), (some 7, 0)] ?_ ?_ ?_ ?_ ?_ <;> simp)
  obtain ⟨N, E, k⟩ := x
  obtain ⟨hk, he, hsN, hvN, hlN, hEk⟩ := hx
  simp only at hk he hsN hvN hlN hEk
  have hw := nat_wrap (k := k) (by omega)
  by_cases c : k < n
  · have hpN : ∀ p ∈ held, 0 ≤ p ∧ p < N.me.pl.length := by rw [hlN]; exact hp
    have hl : (freeL (frcB N) held).length = N.me.pl.length := by rw [freeL_len, frcB_len]
    simp [c]
    (first | refine callG_r ?_ | refine callD_r ?_); simp; (first | refine callN_flat (by with_reducible first | exact c_freeForces N held hsN hvN hh hpN) rfl ?_ | refine callN_new (by with_reducible first | exact c_freeForces N held hsN hvN hh hpN) ?_ | refine callM_flat (by with_reducible first | exact c_freeForces N held hsN hvN hh hpN) rfl ?_ | refine callM_new (by with_reducible first | exact c_freeForces N held hsN hvN hh hpN) ?_)
    simp
    have hc := c_stepAlong N (freeL (frcB N) held) s hsN hvN hl
    rw [hl] at hc
    have e : downR N held s = stepR N (freeL (frcB N) held) s := rfl
    have d1 := downR_len (b := N) (held := held) (s := s)
    have d2 := downR_small (held := held) (s := s) hsN
    have d3 := downR_vld (held := held) (s := s) hvN
    obtain ⟨m, hm2⟩ : ∃ m, n - k = m + 1 := ⟨n - k - 1, by omega⟩
    have hm3 : n - (k + 1) = m := by omega
    rw [hm2] at he
    rw [runD_succ] at he
    rw [e] at d1 d2 d3 he
    generalize stepR N (freeL (frcB N) held) s = R at *
    obtain ⟨B, h', fell⟩ := R
    simp only at d1 d2 d3 he hc
    generalize freeL (frcB N) held = W at *
    have htk : W.take N.me.pl.length = W := List.take_of_length_le (by omega)
    (first | refine callG_r ?_ | refine callD_r ?_)
    simp [htk]
    (first | refine callN_new hc ?_ | refine callM_new hc ?_)
    simp
    refine ⟨fun hf => ?_, fun hf => ?_⟩
    · subst hf
      simp only [Bool.false_eq_true, if_false] at he
      rw [he]
      simp [hEk]
      (refine endG_keepT [(some 2, 0), (some 3, 0), (some 4, 0), (some 5, 0), (some 6, 0)] ?_ ?_ ?_ ?_ ?_ ?_ ?_ ⟨rfl, rfl⟩ ?_ <;> simp)
    · subst hf
      simp only [if_true] at he
      (first | refine callG_r ?_ | refine callD_r ?_); simp; (first | refine callN_flat (by with_reducible first | exact c_energyOf B d2 d3) rfl ?_ | refine callN_new (by with_reducible first | exact c_energyOf B d2 d3) ?_ | refine callM_flat (by with_reducible first | exact c_energyOf B d2 d3) rfl ?_ | refine callM_new (by with_reducible first | exact c_energyOf B d2 d3) ?_)
      have htE : E.take (k + 1) = E := List.take_of_length_le (by omega)
      simp [hw, hEk, htE]
      refine ⟨by omega, by omega, ?_⟩
      refine loopK_next (B, E ++ [enB B], k + 1) (by simp only; omega) ⟨by simp only; omega, by rw [hm3]; exact he, d2, d3, by rw [d1, hlN], by simp [hEk]⟩ ?_
      (refine weak_gc [(some 0, 0), (some 1, 0), (some 9, 0), (some 10, 0), (some 11, 0), (some 12, 0), (some 15, 0), (some 7, 0)] ?_ ?_ ?_ ?_ ?_ <;> simp [hw, hEk])
  · have hk2 : k = n := by omega
    subst hk2
    have he2 : runD held s k b [enB b] = (N, E) := by rw [he, Nat.sub_self]; rfl
    rw [he2]
    simp [hEk]
    (refine endG_keepT [(some 2, 0), (some 3, 0), (some 4, 0), (some 5, 0), (some 6, 0)] ?_ ?_ ?_ ?_ ?_ ?_ ?_ ⟨rfl, rfl⟩ ?_ <;> simp)
end Go.Proofs.YtnjpigkijdnpkaaGreat
namespace Go.Proofs.YtnjpigkijdnpkaaGreat
set_option linter.all false
open Go Go.Awp
set_option maxRecDepth 100000
set_option maxHeartbeats 8000000
set_option pp.deepTerms true

def nextH (before behind : List V) : Nat := if ford .f32 (innL before before) 0 = some .gt then fop .quo .f32 (innL behind behind) (innL before before) else 0
def nxtN (behind way : List V) (h : Nat) (k : Nat) : List V := (List.range k).map fun i => vadd (behind.getD i (0, 0, 0)) (vscale (way.getD i (0, 0, 0)) h)
@[simp] theorem nxtN_len (behind way : List V) (h k : Nat) : (nxtN behind way h k).length = k := by simp [nxtN]
theorem nxtN_succ {behind way : List V} {h k : Nat} (h1 : k < behind.length) (h2 : k < way.length) : nxtN behind way h (k + 1) = nxtN behind way h k ++ [vadd behind[k] (vscale way[k] h)] := by
  unfold nxtN
  rw [List.range_succ, List.map_append]
  simp [List.getD_eq_getElem?_getD, List.getElem?_eq_getElem h1, List.getElem?_eq_getElem h2]
def nextW (before behind way : List V) : List V := nxtN behind way (nextH before behind) behind.length
theorem c_nextWay (before behind way : List V) (n : Nat) (h1 : before.length = n) (h2 : behind.length = n) (h3 : way.length = n) (hn : n ≤ 64) :
    Fun Tryz.prog 46 [.view false (cVs before) n, .view false (cVs behind) n, .view false (cVs way) n] [] (.slc 0 0 n 3) [.blk true false 32 (cVs (nextW before behind way))] := by
  refine FnSpec.walk dr_ok Tryz.func46 rfl (by kernel_rfl) rfl rfl rfl (by simp) ?_
  simp
  (first | refine callG_r ?_ | refine callD_r ?_); simp; (first | refine callN_flat (by with_reducible first | exact c_innerAll before before n h1 h1 hn) rfl ?_ | refine callN_new (by with_reducible first | exact c_innerAll before before n h1 h1 hn) ?_ | refine callM_flat (by with_reducible first | exact c_innerAll before before n h1 h1 hn) rfl ?_ | refine callM_new (by with_reducible first | exact c_innerAll before before n h1 h1 hn) ?_)
  simp
  have key : ∀ h : Nat, h = nextH before behind → nextW before behind way = nxtN behind way h n := fun h e => by rw [e, ← h2]; rfl
  refine ⟨fun g => ?_, fun g => ?_⟩
  all_goals try (first | refine callG_r ?_ | refine callD_r ?_); simp; (first | refine callN_flat (by with_reducible first | exact c_innerAll behind behind n h2 h2 hn) rfl ?_ | refine callN_new (by with_reducible first | exact c_innerAll behind behind n h2 h2 hn) ?_ | refine callM_flat (by with_reducible first | exact c_innerAll behind behind n h2 h2 hn) rfl ?_ | refine callM_new (by with_reducible first | exact c_innerAll behind behind n h2 h2 hn) ?_)
  all_goals try simp
  · have hH : nextH before behind = fop .quo .f32 (innL behind behind) (innL before before) := if_pos g
    have e := key _ hH.symm
    rw [e]
    generalize fop .quo .f32 (innL behind behind) (innL before before) = h at *
    refine loopG_of (α := Nat) (fun k => k ≤ n) (fun k => n - k) (fun k => [(25, .int .i64 k), (24, .int .i64 n), (23, .view false (cVs behind) n), (9, .slc 0 0 k 3), (7, .flt .f32 h), (2, .view false (cVs way) n)])
      (fun k => [.blk true false 32 (cVs (nxtN behind way h k))]) 0 (by simp) ?_ fun k hk => ?_
    · (refine weak_gc [(none, 32)] ?_ ?_ ?_ ?_ ?_ <;> simp [nxtN])
    have hw := nat_wrap (k := k) (by omega)
    by_cases c : k < n
    · have c1 : k < behind.length := by omega
      have c2 : k < way.length := by omega
      have hsu := nxtN_succ (h := h) c1 c2
      have hll := nxtN_len behind way h k
      generalize nxtN behind way h k = O at *
      simp [c, c1, c2, hw, hll]
      (first | refine callG_r ?_ | refine callD_r ?_); simp; (first | refine callN_flat (by with_reducible first | exact c_scale _ _ _ _) rfl ?_ | refine callN_new (by with_reducible first | exact c_scale _ _ _ _) ?_ | refine callM_flat (by with_reducible first | exact c_scale _ _ _ _) rfl ?_ | refine callM_new (by with_reducible first | exact c_scale _ _ _ _) ?_)
      simp [c, c1, c2, hw, hll]
      (first | refine callG_r ?_ | refine callD_r ?_); simp; (first | refine callN_flat (by with_reducible first | exact c_add _ _ _ _ _ _) rfl ?_ | refine callN_new (by with_reducible first | exact c_add _ _ _ _ _ _) ?_ | refine callM_flat (by with_reducible first | exact c_add _ _ _ _ _ _) rfl ?_ | refine callM_new (by with_reducible first | exact c_add _ _ _ _ _ _) ?_)
      have htk : O.take k = O := List.take_of_length_le (by omega)
      simp [c, c1, c2, hw, hll, htk]
      refine ⟨by omega, by omega, ?_⟩
      refine loopK_next (k + 1) (by omega) (by omega) ?_
      rw [hsu]
      (refine weak_gc [(some 3, 0)] ?_ ?_ ?_ ?_ ?_ <;> simp [hw])
    · obtain rfl : k = n := by omega
      simp
      (refine endG_keepT [(some 0, 0)] ?_ ?_ ?_ ?_ ?_ ?_ ?_ ⟨rfl, rfl⟩ ?_ <;> simp)
  · have hH : nextH before behind = 0 := if_neg g
    have e := key _ hH.symm
    rw [e]
    refine loopG_of (α := Nat) (fun k => k ≤ n) (fun k => n - k) (fun k => [(25, .int .i64 k), (24, .int .i64 n), (23, .view false (cVs behind) n), (9, .slc 0 0 k 3), (7, .flt .f32 0), (2, .view false (cVs way) n)])
      (fun k => [.blk true false 32 (cVs (nxtN behind way 0 k))]) 0 (by simp) ?_ fun k hk => ?_
    · (refine weak_gc [(none, 32)] ?_ ?_ ?_ ?_ ?_ <;> simp [nxtN])
    have hw := nat_wrap (k := k) (by omega)
    by_cases c : k < n
    · have c1 : k < behind.length := by omega
      have c2 : k < way.length := by omega
      have hsu := nxtN_succ (h := 0) c1 c2
      have hll := nxtN_len behind way 0 k
      generalize nxtN behind way 0 k = O at *
      simp [c, c1, c2, hw, hll]
      (first | refine callG_r ?_ | refine callD_r ?_); simp; (first | refine callN_flat (by with_reducible first | exact c_scale _ _ _ _) rfl ?_ | refine callN_new (by with_reducible first | exact c_scale _ _ _ _) ?_ | refine callM_flat (by with_reducible first | exact c_scale _ _ _ _) rfl ?_ | refine callM_new (by with_reducible first | exact c_scale _ _ _ _) ?_)
      simp [c, c1, c2, hw, hll]
      (first | refine callG_r ?_ | refine callD_r ?_); simp; (first | refine callN_flat (by with_reducible first | exact c_add _ _ _ _ _ _) rfl ?_ | refine callN_new (by with_reducible first | exact c_add _ _ _ _ _ _) ?_ | refine callM_flat (by with_reducible first | exact c_add _ _ _ _ _ _) rfl ?_ | refine callM_new (by with_reducible first | exact c_add _ _ _ _ _ _) ?_)
      have htk : O.take k = O := List.take_of_length_le (by omega)
      simp [c, c1, c2, hw, hll, htk]
      refine ⟨by omega, by omega, ?_⟩
      refine loopK_next (k + 1) (by omega) (by omega) ?_
      rw [hsu]
      (refine weak_gc [(some 3, 0)] ?_ ?_ ?_ ?_ ?_ <;> simp [hw])
    · obtain rfl : k = n := by omega
      simp
      (refine endG_keepT [(some 0, 0)] ?_ ?_ ?_ ?_ ?_ ?_ ?_ ⟨rfl, rfl⟩ ?_ <;> simp)
def turnD (held : List Int) (s : Nat) : Nat → Bod → List V → Nat → Bod × Nat
  | 0, b, _, c => (b, c)
  | n + 1, b, way, c =>
    let before := freeL (frcB b) held
    if (stepR b way s).2.2 = true then turnD held s n (stepR b way s).1 (nextW before (freeL (frcB (stepR b way s).1) held) way) (c + 1)
    else if (stepR b before s).2.2 = true then turnD held s n (stepR b before s).1 (nextW before (freeL (frcB (stepR b before s).1) held) before) (c + 1)
    else (b, c)
theorem turnD_succ (held : List Int) (s n : Nat) (b : Bod) (way : List V) (c : Nat) : turnD held s (n + 1) b way c =
    if (stepR b way s).2.2 = true then turnD held s n (stepR b way s).1 (nextW (freeL (frcB b) held) (freeL (frcB (stepR b way s).1) held) way) (c + 1)
    else if (stepR b (freeL (frcB b) held) s).2.2 = true then turnD held s n (stepR b (freeL (frcB b) held) s).1 (nextW (freeL (frcB b) held) (freeL (frcB (stepR b (freeL (frcB b) held) s).1) held) (freeL (frcB b) held)) (c + 1)
    else (b, c) := rfl
theorem nextW_len (before behind way : List V) : (nextW before behind way).length = behind.length := nxtN_len ..
theorem c_TurnDown (b : Bod) (held : List Int) (s n : Nat) (hs : b.Small) (hh : held.length ≤ 1048576) (hv : vldH b held = true) (ho : overB s = true) (hn : n ≤ 40) :
    Fun Tryz.prog 12 [b.av, .view false (cIs held) held.length, .flt .f32 s, .int .i64 n] [] (.tup [(turnD held s n b (freeL (frcB b) held) 0).1.cp 0, .int .i64 (turnD held s n b (freeL (frcB b) held) 0).2, .bool true])
      ((turnD held s n b (freeL (frcB b) held) 0).1.cpm) := by
  obtain ⟨hvb, hp⟩ := pins_of hv
  obtain ⟨hm, hpl, htr, hsp, hww⟩ := vldB_of hvb
  have hl0 : (freeL (frcB b) held).length = b.me.pl.length := by rw [freeL_len, frcB_len]
  refine FnSpec.walk dr_ok Tryz.func12 rfl (by kernel_rfl) rfl rfl rfl (by simp) ?_
  simp
  (first | refine callG_r ?_ | refine callD_r ?_); simp; (first | refine callN_flat (by with_reducible first | exact c_IsHeld b held hs hh) rfl ?_ | refine callN_new (by with_reducible first | exact c_IsHeld b held hs hh) ?_ | refine callM_flat (by with_reducible first | exact c_IsHeld b held hs hh) rfl ?_ | refine callM_new (by with_reducible first | exact c_IsHeld b held hs hh) ?_)
  simp [hv]
  (first | refine callG_r ?_ | refine callD_r ?_); simp; (first | refine callN_flat (by with_reducible first | exact c_isOver _) rfl ?_ | refine callN_new (by with_reducible first | exact c_isOver _) ?_ | refine callM_flat (by with_reducible first | exact c_isOver _) rfl ?_ | refine callM_new (by with_reducible first | exact c_isOver _) ?_)
  simp [ho]
  (first | refine callG_r ?_ | refine callD_r ?_); simp; (first | refine callN_flat (by with_reducible first | exact c_within _ _ _) rfl ?_ | refine callN_new (by with_reducible first | exact c_within _ _ _) ?_ | refine callM_flat (by with_reducible first | exact c_within _ _ _) rfl ?_ | refine callM_new (by with_reducible first | exact c_within _ _ _) ?_)
  have hi : inB n 0 40 = true := by simp [inB]; omega
  simp [hi]
  (first | refine callG_r ?_ | refine callD_r ?_); simp; (first | refine callN_flat (by with_reducible first | exact c_copyBody b hs htr) rfl ?_ | refine callN_new (by with_reducible first | exact c_copyBody b hs htr) ?_ | refine callM_flat (by with_reducible first | exact c_copyBody b hs htr) rfl ?_ | refine callM_new (by with_reducible first | exact c_copyBody b hs htr) ?_)
  simp
  (first | refine callG_r ?_ | refine callD_r ?_); simp; (first | refine callN_flat (by with_reducible first | exact c_freeForces b held hs hvb hh hp) rfl ?_ | refine callN_new (by with_reducible first | exact c_freeForces b held hs hvb hh hp) ?_ | refine callM_flat (by with_reducible first | exact c_freeForces b held hs hvb hh hp) rfl ?_ | refine callM_new (by with_reducible first | exact c_freeForces b held hs hvb hh hp) ?_)
  simp
  refine loopG_of (α := Bod × List V × Nat × Nat) (fun x => x.2.2.2 ≤ n ∧ turnD held s n b (freeL (frcB b) held) 0 = turnD held s (n - x.2.2.2) x.1 x.2.1 x.2.2.1 ∧ x.1.Small ∧ vldB x.1 = true ∧ x.1.me.pl.length = b.me.pl.length ∧ x.2.1.length = b.me.pl.length ∧ x.2.2.1 ≤ x.2.2.2) (fun x => n - x.2.2.2)
    (fun x => [(39, .int .i64 x.2.2.2), (38, .int .i64 n), (13, .slc 7 0 b.me.pl.length 3), (12, .int .i64 x.2.2.1), (11, .ptr 6 0), (8, .ptr 1 0), (2, .flt .f32 s), (1, .view false (cIs held) held.length)])
    (fun x => [.blk true true 34 b.cells, .blk true true 34 [.nils, .nils, .nils, .flt .f32 0, .flt .f32 0, .nils, .flt .f32 0, .flt .f32 0, .flt .f32 0]] ++ x.1.cpm ++ [
      .blk true true 34 [.slc 2 0 x.1.me.pl.length 3, .slc 3 0 x.1.me.tr.length 1, .slc 4 0 x.1.sp.length 4, .flt .f32 x.1.film, .flt .f32 x.1.bend, .slc 5 0 x.1.w.length 1, .flt .f32 x.1.fall.1, .flt .f32 x.1.fall.2.1, .flt .f32 x.1.fall.2.2], .blk true false 32 (cVs x.2.1)])
    (b, freeL (frcB b) held, 0, 0) ⟨Nat.zero_le _, rfl, hs, hvb, rfl, hl0, Nat.le_refl _⟩ ?_ fun x hx => ?_
  · (refine weak_gc [(some 0, 0), (some 1, 0), (some 2, 0), (some 3, 0), (some 4, 0), (some 5, 0), (some 6, 0), (some 7, 0)] ?_ ?_ ?_ ?_ ?_ <;> simp)
  obtain ⟨N, W, cnt, k⟩ := x
  obtain ⟨hk, he, hsN, hvN, hlN, hlW, hcnt⟩ := hx
  simp only at hk he hsN hvN hlN hlW hcnt
  have hw := nat_wrap (k := k) (by omega)
  have hwc := nat_wrap (k := cnt) (by omega)
  by_cases c : k < n
  · have hpN : ∀ p ∈ held, 0 ≤ p ∧ p < N.me.pl.length := by rw [hlN]; exact hp
    have hWl : W.length = N.me.pl.length := by rw [hlW, hlN]
    have hl : (freeL (frcB N) held).length = N.me.pl.length := by rw [freeL_len, frcB_len]
    have hplN : N.me.pl.length ≤ 64 := by omega
    obtain ⟨m, hm2⟩ : ∃ m, n - k = m + 1 := ⟨n - k - 1, by omega⟩
    have hm3 : n - (k + 1) = m := by omega
    rw [hm2] at he
    rw [turnD_succ] at he
    simp [c]
    (first | refine callG_r ?_ | refine callD_r ?_); simp; (first | refine callN_flat (by with_reducible first | exact c_freeForces N held hsN hvN hh hpN) rfl ?_ | refine callN_new (by with_reducible first | exact c_freeForces N held hsN hvN hh hpN) ?_ | refine callM_flat (by with_reducible first | exact c_freeForces N held hsN hvN hh hpN) rfl ?_ | refine callM_new (by with_reducible first | exact c_freeForces N held hsN hvN hh hpN) ?_)
    simp
    have hc := c_stepAlong N W s hsN hvN hWl
    rw [hlW] at hc
    have d1 : (stepR N W s).1.me.pl.length = N.me.pl.length := stepA_len hWl
    have d2 : (stepR N W s).1.Small := stepA_small hsN hWl
    have d3 : vldB (stepR N W s).1 = true := stepA_vld hvN hWl
    generalize stepR N W s = R at *
    obtain ⟨B, h', fell⟩ := R
    simp only at d1 d2 d3 he hc
    have htk : W.take b.me.pl.length = W := List.take_of_length_le (by omega)
    (first | refine callG_r ?_ | refine callD_r ?_)
    simp [htk]
    (first | refine callN_new hc ?_ | refine callM_new hc ?_)
    simp
    cases fell with
    | true =>
      simp only [if_true] at he
      have hpB : ∀ p ∈ held, 0 ≤ p ∧ p < B.me.pl.length := by rw [d1]; exact hpN
      have hlB : (freeL (frcB B) held).length = B.me.pl.length := by rw [freeL_len, frcB_len]
      simp [hwc]
      (first | refine callG_r ?_ | refine callD_r ?_); simp; (first | refine callN_flat (by with_reducible first | exact c_freeForces B held d2 d3 hh hpB) rfl ?_ | refine callN_new (by with_reducible first | exact c_freeForces B held d2 d3 hh hpB) ?_ | refine callM_flat (by with_reducible first | exact c_freeForces B held d2 d3 hh hpB) rfl ?_ | refine callM_new (by with_reducible first | exact c_freeForces B held d2 d3 hh hpB) ?_)
      simp
      have hnw := c_nextWay (freeL (frcB N) held) (freeL (frcB B) held) W b.me.pl.length (by rw [hl, hlN]) (by rw [hlB, d1, hlN]) hlW hpl
      have hnl := nextW_len (freeL (frcB N) held) (freeL (frcB B) held) W
      rw [hlB, d1, hlN] at hnl
      have t1 : (freeL (frcB N) held).take b.me.pl.length = freeL (frcB N) held := List.take_of_length_le (by omega)
      have t2 : (freeL (frcB B) held).take b.me.pl.length = freeL (frcB B) held := List.take_of_length_le (by omega)
      generalize nextW (freeL (frcB N) held) (freeL (frcB B) held) W = W2 at *
      generalize freeL (frcB N) held = F1 at *
      generalize freeL (frcB B) held = F2 at *
      (first | refine callG_r ?_ | refine callD_r ?_)
      simp [htk, hlN, d1, t1, t2]
      (first | refine callN_new hnw ?_ | refine callM_new hnw ?_)
      simp [hw]
      refine loopK_next (B, W2, cnt + 1, k + 1) (by simp only; omega) ⟨by simp only; omega, by rw [hm3]; exact he, d2, d3, by rw [d1, hlN], hnl, by simp only; omega⟩ ?_
      (refine weak_gc [(some 0, 0), (some 1, 0), (some 9, 0), (some 10, 0), (some 11, 0), (some 12, 0), (some 6, 0), (some 15, 0)] ?_ ?_ ?_ ?_ ?_ <;> simp [hw, hwc, d1, hlN])
    | false =>
      simp only [Bool.false_eq_true, if_false] at he
      simp
      have hc2 := c_stepAlong N (freeL (frcB N) held) s hsN hvN hl
      rw [hl] at hc2
      have g1 : (stepR N (freeL (frcB N) held) s).1.me.pl.length = N.me.pl.length := stepA_len hl
      have g2 : (stepR N (freeL (frcB N) held) s).1.Small := stepA_small hsN hl
      have g3 : vldB (stepR N (freeL (frcB N) held) s).1 = true := stepA_vld hvN hl
      have t1 : (freeL (frcB N) held).take N.me.pl.length = freeL (frcB N) held := List.take_of_length_le (by omega)
      generalize stepR N (freeL (frcB N) held) s = R2 at *
      obtain ⟨B2, h2, fell2⟩ := R2
      simp only at g1 g2 g3 he hc2
      (first | refine callG_r ?_ | refine callD_r ?_)
      simp [t1]
      (first | refine callN_new hc2 ?_ | refine callM_new hc2 ?_)
      simp
      cases fell2 with
      | true =>
        simp only [if_true] at he
        have hpB : ∀ p ∈ held, 0 ≤ p ∧ p < B2.me.pl.length := by rw [g1]; exact hpN
        have hlB : (freeL (frcB B2) held).length = B2.me.pl.length := by rw [freeL_len, frcB_len]
        simp [hwc]
        (first | refine callG_r ?_ | refine callD_r ?_); simp; (first | refine callN_flat (by with_reducible first | exact c_freeForces B2 held g2 g3 hh hpB) rfl ?_ | refine callN_new (by with_reducible first | exact c_freeForces B2 held g2 g3 hh hpB) ?_ | refine callM_flat (by with_reducible first | exact c_freeForces B2 held g2 g3 hh hpB) rfl ?_ | refine callM_new (by with_reducible first | exact c_freeForces B2 held g2 g3 hh hpB) ?_)
        simp
        have hnw := c_nextWay (freeL (frcB N) held) (freeL (frcB B2) held) (freeL (frcB N) held) b.me.pl.length (by rw [hl, hlN]) (by rw [hlB, g1, hlN]) (by rw [hl, hlN]) hpl
        have hnl := nextW_len (freeL (frcB N) held) (freeL (frcB B2) held) (freeL (frcB N) held)
        rw [hlB, g1, hlN] at hnl
        have t2 : (freeL (frcB N) held).take b.me.pl.length = freeL (frcB N) held := List.take_of_length_le (by omega)
        have t3 : (freeL (frcB B2) held).take b.me.pl.length = freeL (frcB B2) held := List.take_of_length_le (by omega)
        generalize nextW (freeL (frcB N) held) (freeL (frcB B2) held) (freeL (frcB N) held) = W2 at *
        generalize freeL (frcB N) held = F1 at *
        generalize freeL (frcB B2) held = F2 at *
        (first | refine callG_r ?_ | refine callD_r ?_)
        simp [hlN, g1, t2, t3]
        (first | refine callN_new hnw ?_ | refine callM_new hnw ?_)
        simp [hw]
        refine loopK_next (B2, W2, cnt + 1, k + 1) (by simp only; omega) ⟨by simp only; omega, by rw [hm3]; exact he, g2, g3, by rw [g1, hlN], hnl, by simp only; omega⟩ ?_
        (refine weak_gc [(some 0, 0), (some 1, 0), (some 14, 0), (some 15, 0), (some 16, 0), (some 17, 0), (some 6, 0), (some 19, 0)] ?_ ?_ ?_ ?_ ?_ <;> simp [hw, hwc, g1, hlN])
      | false =>
        simp only [Bool.false_eq_true, if_false] at he
        rw [he]
        simp
        (refine endG_keepT [(some 2, 0), (some 3, 0), (some 4, 0), (some 5, 0)] ?_ ?_ ?_ ?_ ?_ ?_ ?_ ⟨rfl, rfl⟩ ?_ <;> simp)
  · have hk2 : k = n := by omega
    subst hk2
    have he2 : turnD held s k b (freeL (frcB b) held) 0 = (N, cnt) := by rw [he, Nat.sub_self]; rfl
    rw [he2]
    simp
    (refine endG_keepT [(some 2, 0), (some 3, 0), (some 4, 0), (some 5, 0)] ?_ ?_ ?_ ?_ ?_ ?_ ?_ ⟨rfl, rfl⟩ ?_ <;> simp)
end Go.Proofs.YtnjpigkijdnpkaaGreat
