/- Lists that are normed; what is done in each round of a mode. Plain law: signs of zeros do not matter to stiffness. Plain law: held places stay at rest in each round of a mode.
Conditions: none. -/
import Derived.Test.YtnpflgeenecaeaaGreatW5
namespace Go.Proofs.YtnpflgeenecaeaaGreat
set_option linter.all false
open Go Go.Awp
set_option maxRecDepth 100000
set_option maxHeartbeats 4000000
set_option pp.deepTerms true

def nrmF (v : List V) : Nat := fop .quo .f32 1065353216 (froot (innL v v))
def nrmK (v : List V) : Bool := overB (innL v v) && finB (nrmF v)
def nrmN (v : List V) (k : Nat) : List V := (v.take k).map fun x => vscale x (nrmF v)
def nrmL (v : List V) : List V := v.map fun x => vscale x (nrmF v)
@[simp] theorem nrmL_len (v : List V) : (nrmL v).length = v.length := by simp [nrmL]
theorem nrmN_len (v : List V) {k : Nat} (h : k ≤ v.length) : (nrmN v k).length = k := by simp [nrmN]; omega
theorem nrmN_succ {v : List V} {k : Nat} (h : k < v.length) : nrmN v (k + 1) = nrmN v k ++ [vscale v[k] (nrmF v)] := by
  unfold nrmN
  rw [List.take_succ_eq_append_getElem h, List.map_append]; rfl
theorem nrmN_all (v : List V) : nrmN v v.length = nrmL v := by unfold nrmN; rw [List.take_length]; rfl
theorem c_InnerAll (a b : List V) (n : Nat) (hn : b.length = n) (h : a.length = n) (hl : n ≤ 64) : Fun Tryz.prog 132 [.view false (cVs a) n, .view false (cVs b) n] [] (.tup [.flt .f32 (innL a b), .bool true]) [] := by
  refine FnSpec.walkF dr_ok Tryz.func132 rfl (by kernel_rfl) rfl rfl rfl (by simp) ?_
  simp
  refine ⟨by omega, fun _ => ?_⟩
  (first | refine callG_r ?_ | refine callD_r ?_); simp; (first | refine callN_flat (by with_reducible first | exact c_innerAll a b n hn h hl) rfl ?_ | refine callN_new (by with_reducible first | exact c_innerAll a b n hn h hl) ?_ | refine callM_flat (by with_reducible first | exact c_innerAll a b n hn h hl) rfl ?_ | refine callM_new (by with_reducible first | exact c_innerAll a b n hn h hl) ?_)
  simp
theorem c_Norm (v : List V) (n : Nat) (hn : v.length = n) (hl : n ≤ 64) (hk : nrmK v = true) : Fun Tryz.prog 103 [.view false (cVs v) n] [] (.tup [.slc 0 0 n 3, .bool true]) [.blk true false 41 (cVs (nrmL v))] := by
  subst hn
  have hk1 : overB (innL v v) = true := by unfold nrmK at hk; simp at hk; exact hk.1
  have hk2 : finB (nrmF v) = true := by unfold nrmK at hk; simp at hk; exact hk.2
  have hF : nrmF v = fop .quo .f32 1065353216 (froot (innL v v)) := rfl
  refine FnSpec.walk dr_ok Tryz.func103 rfl (by kernel_rfl) rfl rfl rfl (by simp) ?_
  simp
  (first | refine callG_r ?_ | refine callD_r ?_); simp; (first | refine callN_flat (by with_reducible first | exact c_InnerAll v v _ rfl rfl hl) rfl ?_ | refine callN_new (by with_reducible first | exact c_InnerAll v v _ rfl rfl hl) ?_ | refine callM_flat (by with_reducible first | exact c_InnerAll v v _ rfl rfl hl) rfl ?_ | refine callM_new (by with_reducible first | exact c_InnerAll v v _ rfl rfl hl) ?_)
  simp
  (first | refine callG_r ?_ | refine callD_r ?_); simp; (first | refine callN_flat (by with_reducible first | exact c_isOver _) rfl ?_ | refine callN_new (by with_reducible first | exact c_isOver _) ?_ | refine callM_flat (by with_reducible first | exact c_isOver _) rfl ?_ | refine callM_new (by with_reducible first | exact c_isOver _) ?_)
  simp [hk1]
  (first | refine callG_r ?_ | refine callD_r ?_); simp; (first | refine callN_flat (by with_reducible first | exact c_root _) rfl ?_ | refine callN_new (by with_reducible first | exact c_root _) ?_ | refine callM_flat (by with_reducible first | exact c_root _) rfl ?_ | refine callM_new (by with_reducible first | exact c_root _) ?_)
  simp
  (first | refine callG_r ?_ | refine callD_r ?_); simp; (first | refine callN_flat (by with_reducible first | exact c_isFinite _) rfl ?_ | refine callN_new (by with_reducible first | exact c_isFinite _) ?_ | refine callM_flat (by with_reducible first | exact c_isFinite _) rfl ?_ | refine callM_new (by with_reducible first | exact c_isFinite _) ?_)
  rw [← hF]
  simp [hk2]
  refine loopG_of (α := Nat) (fun k => k ≤ v.length) (fun k => v.length - k) (fun k => [(32, .int .i64 k), (31, .int .i64 v.length), (30, .view false (cVs v) v.length), (7, .slc 0 0 k 3), (6, .flt .f32 (nrmF v))])
    (fun k => [.blk true false 41 (cVs (nrmN v k))]) 0 (by simp) ?_ fun k hk => ?_
  · (refine weak_gc [(none, 41)] ?_ ?_ ?_ ?_ ?_ <;> simp [nrmN, hF])
  have hw := nat_wrap (k := k) (by omega)
  have hll := nrmN_len v hk
  by_cases c : k < v.length
  · have hsu := nrmN_succ c
    have htk : (nrmN v k).take k = nrmN v k := List.take_of_length_le (by omega)
    simp [c, hw, hll]
    (first | refine callG_r ?_ | refine callD_r ?_); simp; (first | refine callN_flat (by with_reducible first | exact c_scale _ _ _ _) rfl ?_ | refine callN_new (by with_reducible first | exact c_scale _ _ _ _) ?_ | refine callM_flat (by with_reducible first | exact c_scale _ _ _ _) rfl ?_ | refine callM_new (by with_reducible first | exact c_scale _ _ _ _) ?_)
    simp [c, hw, hll, htk]
    refine ⟨by omega, by omega, ?_⟩
    refine loopK_next (k + 1) (by omega) (by omega) ?_
    rw [hsu]
    (refine weak_gc [(some 3, 0)] ?_ ?_ ?_ ?_ ?_ <;> simp [hw])
  · obtain rfl : k = v.length := by omega
    simp
    rw [nrmN_all]
    (refine endG_keepT [(some 0, 0)] ?_ ?_ ?_ ?_ ?_ ?_ ?_ ⟨rfl, rfl⟩ ?_ <;> simp)
theorem c_Norm0 (v : List V) (n : Nat) (hn : v.length = n) (hl : n ≤ 64) (hk : nrmK v = false) : Fun Tryz.prog 103 [.view false (cVs v) n] [] (.tup [.nils, .bool false]) [] := by
  subst hn
  have hF : nrmF v = fop .quo .f32 1065353216 (froot (innL v v)) := rfl
  refine FnSpec.walk dr_ok Tryz.func103 rfl (by kernel_rfl) rfl rfl rfl (by simp) ?_
  simp
  (first | refine callG_r ?_ | refine callD_r ?_); simp; (first | refine callN_flat (by with_reducible first | exact c_InnerAll v v _ rfl rfl hl) rfl ?_ | refine callN_new (by with_reducible first | exact c_InnerAll v v _ rfl rfl hl) ?_ | refine callM_flat (by with_reducible first | exact c_InnerAll v v _ rfl rfl hl) rfl ?_ | refine callM_new (by with_reducible first | exact c_InnerAll v v _ rfl rfl hl) ?_)
  simp
  (first | refine callG_r ?_ | refine callD_r ?_); simp; (first | refine callN_flat (by with_reducible first | exact c_isOver _) rfl ?_ | refine callN_new (by with_reducible first | exact c_isOver _) ?_ | refine callM_flat (by with_reducible first | exact c_isOver _) rfl ?_ | refine callM_new (by with_reducible first | exact c_isOver _) ?_)
  cases hk1 : overB (innL v v) with
  | false =>
    simp
    (refine endG_keepT [] ?_ ?_ ?_ ?_ ?_ ?_ ?_ ⟨rfl, rfl⟩ ?_ <;> simp)
  | true =>
    simp
    (first | refine callG_r ?_ | refine callD_r ?_); simp; (first | refine callN_flat (by with_reducible first | exact c_root _) rfl ?_ | refine callN_new (by with_reducible first | exact c_root _) ?_ | refine callM_flat (by with_reducible first | exact c_root _) rfl ?_ | refine callM_new (by with_reducible first | exact c_root _) ?_)
    simp
    (first | refine callG_r ?_ | refine callD_r ?_); simp; (first | refine callN_flat (by with_reducible first | exact c_isFinite _) rfl ?_ | refine callN_new (by with_reducible first | exact c_isFinite _) ?_ | refine callM_flat (by with_reducible first | exact c_isFinite _) rfl ?_ | refine callM_new (by with_reducible first | exact c_isFinite _) ?_)
    rw [← hF]
    have hk2 : finB (nrmF v) = false := by unfold nrmK at hk; rw [hk1] at hk; simpa using hk
    simp [hk2]
    (refine endG_keepT [] ?_ ?_ ?_ ?_ ?_ ?_ ?_ ⟨rfl, rfl⟩ ?_ <;> simp)
theorem c_l09Norm (v : List V) (n : Nat) (hn : v.length = n) (hl : n ≤ 64) (hk : nrmK v = true) : Fun Tryz.prog 70 [.view false (cVs v) n] [] (.tup [.slc 0 0 n 3, .bool true]) [.blk true false 41 (cVs (nrmL v))] := by
  subst hn
  have hk1 : overB (innL v v) = true := by unfold nrmK at hk; simp at hk; exact hk.1
  have hk2 : finB (nrmF v) = true := by unfold nrmK at hk; simp at hk; exact hk.2
  have hF : nrmF v = fop .quo .f32 1065353216 (froot (innL v v)) := rfl
  refine FnSpec.walk dr_ok Tryz.func70 rfl (by kernel_rfl) rfl rfl rfl (by simp) ?_
  simp
  (first | refine callG_r ?_ | refine callD_r ?_); simp; (first | refine callN_flat (by with_reducible first | exact c_l05Inner v v _ rfl rfl hl) rfl ?_ | refine callN_new (by with_reducible first | exact c_l05Inner v v _ rfl rfl hl) ?_ | refine callM_flat (by with_reducible first | exact c_l05Inner v v _ rfl rfl hl) rfl ?_ | refine callM_new (by with_reducible first | exact c_l05Inner v v _ rfl rfl hl) ?_)
  simp
  (first | refine callG_r ?_ | refine callD_r ?_); simp; (first | refine callN_flat (by with_reducible first | exact c_l01Sqrt _) rfl ?_ | refine callN_new (by with_reducible first | exact c_l01Sqrt _) ?_ | refine callM_flat (by with_reducible first | exact c_l01Sqrt _) rfl ?_ | refine callM_new (by with_reducible first | exact c_l01Sqrt _) ?_)
  simp
  (first | refine callG_r ?_ | refine callD_r ?_); simp; (first | refine callN_flat (by with_reducible first | exact c_l03Positive _) rfl ?_ | refine callN_new (by with_reducible first | exact c_l03Positive _) ?_ | refine callM_flat (by with_reducible first | exact c_l03Positive _) rfl ?_ | refine callM_new (by with_reducible first | exact c_l03Positive _) ?_)
  simp [hk1]
  (first | refine callG_r ?_ | refine callD_r ?_); simp; (first | refine callN_flat (by with_reducible first | exact c_l01Finite _) rfl ?_ | refine callN_new (by with_reducible first | exact c_l01Finite _) ?_ | refine callM_flat (by with_reducible first | exact c_l01Finite _) rfl ?_ | refine callM_new (by with_reducible first | exact c_l01Finite _) ?_)
  rw [← hF]
  simp [hk2]
  refine loopG_of (α := Nat) (fun k => k ≤ v.length) (fun k => v.length - k) (fun k => [(25, .int .i64 k), (24, .int .i64 v.length), (0, .view false (cVs v) v.length), (6, .slc 0 0 k 3), (5, .flt .f32 (nrmF v))])
    (fun k => [.blk true false 41 (cVs (nrmN v k))]) 0 (by simp) ?_ fun k hk => ?_
  · (refine weak_gc [(none, 41)] ?_ ?_ ?_ ?_ ?_ <;> simp [nrmN, hF])
  have hw := nat_wrap (k := k) (by omega)
  have hll := nrmN_len v hk
  by_cases c : k < v.length
  · have hsu := nrmN_succ c
    have htk : (nrmN v k).take k = nrmN v k := List.take_of_length_le (by omega)
    simp [c, hw, hll]
    (first | refine callG_r ?_ | refine callD_r ?_); simp; (first | refine callN_flat (by with_reducible first | exact c_l01Scale _ _ _ _) rfl ?_ | refine callN_new (by with_reducible first | exact c_l01Scale _ _ _ _) ?_ | refine callM_flat (by with_reducible first | exact c_l01Scale _ _ _ _) rfl ?_ | refine callM_new (by with_reducible first | exact c_l01Scale _ _ _ _) ?_)
    simp [c, hw, hll, htk]
    refine ⟨by omega, by omega, ?_⟩
    refine loopK_next (k + 1) (by omega) (by omega) ?_
    rw [hsu]
    (refine weak_gc [(some 2, 0)] ?_ ?_ ?_ ?_ ?_ <;> simp [hw])
  · obtain rfl : k = v.length := by omega
    simp
    rw [nrmN_all]
    (refine endG_keepT [(some 0, 0)] ?_ ?_ ?_ ?_ ?_ ?_ ?_ ⟨rfl, rfl⟩ ?_ <;> simp)
theorem c_l09Norm0 (v : List V) (n : Nat) (hn : v.length = n) (hl : n ≤ 64) (hk : nrmK v = false) : Fun Tryz.prog 70 [.view false (cVs v) n] [] (.tup [.nils, .bool false]) [] := by
  subst hn
  have hF : nrmF v = fop .quo .f32 1065353216 (froot (innL v v)) := rfl
  refine FnSpec.walk dr_ok Tryz.func70 rfl (by kernel_rfl) rfl rfl rfl (by simp) ?_
  simp
  (first | refine callG_r ?_ | refine callD_r ?_); simp; (first | refine callN_flat (by with_reducible first | exact c_l05Inner v v _ rfl rfl hl) rfl ?_ | refine callN_new (by with_reducible first | exact c_l05Inner v v _ rfl rfl hl) ?_ | refine callM_flat (by with_reducible first | exact c_l05Inner v v _ rfl rfl hl) rfl ?_ | refine callM_new (by with_reducible first | exact c_l05Inner v v _ rfl rfl hl) ?_)
  simp
  (first | refine callG_r ?_ | refine callD_r ?_); simp; (first | refine callN_flat (by with_reducible first | exact c_l01Sqrt _) rfl ?_ | refine callN_new (by with_reducible first | exact c_l01Sqrt _) ?_ | refine callM_flat (by with_reducible first | exact c_l01Sqrt _) rfl ?_ | refine callM_new (by with_reducible first | exact c_l01Sqrt _) ?_)
  simp
  (first | refine callG_r ?_ | refine callD_r ?_); simp; (first | refine callN_flat (by with_reducible first | exact c_l03Positive _) rfl ?_ | refine callN_new (by with_reducible first | exact c_l03Positive _) ?_ | refine callM_flat (by with_reducible first | exact c_l03Positive _) rfl ?_ | refine callM_new (by with_reducible first | exact c_l03Positive _) ?_)
  cases hk1 : overB (innL v v) with
  | false =>
    simp
    (refine endG_keepT [] ?_ ?_ ?_ ?_ ?_ ?_ ?_ ⟨rfl, rfl⟩ ?_ <;> simp)
  | true =>
    simp
    (first | refine callG_r ?_ | refine callD_r ?_); simp; (first | refine callN_flat (by with_reducible first | exact c_l01Finite _) rfl ?_ | refine callN_new (by with_reducible first | exact c_l01Finite _) ?_ | refine callM_flat (by with_reducible first | exact c_l01Finite _) rfl ?_ | refine callM_new (by with_reducible first | exact c_l01Finite _) ?_)
    rw [← hF]
    have hk2 : finB (nrmF v) = false := by unfold nrmK at hk; rw [hk1] at hk; simpa using hk
    simp [hk2]
    (refine endG_keepT [] ?_ ?_ ?_ ?_ ?_ ?_ ?_ ⟨rfl, rfl⟩ ?_ <;> simp)
-- what is done in each round
abbrev gClo (b : Bod) (held : List Int) (step : Nat) : AV := .clo 73 [] [.vptr false b.cells, .vptr false [.view false (cIs held) held.length], .vptr false [.flt .f32 step]]
theorem c_gClo (b : Bod) (held : List Int) (v : List V) (step n : Nat) (hn : v.length = n) (hs : b.Small) (hv : vldB b = true) (hl : v.length = b.me.pl.length) (hh : held.length ≤ 1048576) (hp : ∀ p ∈ held, 0 ≤ p ∧ p < b.me.pl.length) :
    Fun Tryz.prog 73 [.view false (cVs v) n, .vptr false b.cells, .vptr false [.view false (cIs held) held.length], .vptr false [.flt .f32 step]] [] (.slc 0 0 n 3) [.blk true false 41 (cVs (timB b held v step))] := by
  subst hn
  refine FnSpec.walk dr_ok Tryz.func73 rfl (by kernel_rfl) rfl rfl rfl (by simp) ?_
  simp
  (first | refine callG_r ?_ | refine callD_r ?_); simp; (first | refine callN_flat (by with_reducible first | exact c_stiffTimes b held v step hs hv hl hh hp) rfl ?_ | refine callN_new (by with_reducible first | exact c_stiffTimes b held v step hs hv hl hh hp) ?_ | refine callM_flat (by with_reducible first | exact c_stiffTimes b held v step hs hv hl hh hp) rfl ?_ | refine callM_new (by with_reducible first | exact c_stiffTimes b held v step hs hv hl hh hp) ?_)
  simp
  (refine endG_keepT [(some 0, 0)] ?_ ?_ ?_ ?_ ?_ ?_ ?_ ⟨rfl, rfl⟩ ?_ <;> simp)
def sofN (w v : List V) (shift k : Nat) : List V := (List.range k).map fun i => vsub (vscale (v.getD i (0, 0, 0)) shift) (w.getD i (0, 0, 0))
@[simp] theorem sofN_len (w v : List V) (shift k : Nat) : (sofN w v shift k).length = k := by simp [sofN]
theorem sofN_succ {w v : List V} {shift k : Nat} (h : k < v.length) (h2 : k < w.length) : sofN w v shift (k + 1) = sofN w v shift k ++ [vsub (vscale v[k] shift) w[k]] := by
  unfold sofN
  rw [List.range_succ, List.map_append]
  simp only [List.map_cons, List.map_nil, List.getD_eq_getElem?_getD, List.getElem?_eq_getElem h, List.getElem?_eq_getElem h2, Option.getD_some]
/-- What a round of a soft mode makes. -/
def sofB (b : Bod) (held : List Int) (v : List V) (step shift : Nat) : List V := sofN (timB b held v step) v shift v.length
@[simp] theorem sofB_len (b : Bod) (held : List Int) (v : List V) (step shift : Nat) : (sofB b held v step shift).length = v.length := by simp [sofB]
theorem c_sClo (b : Bod) (held : List Int) (v : List V) (step shift n : Nat) (hn : v.length = n) (hs : b.Small) (hv : vldB b = true) (hl : v.length = b.me.pl.length) (hh : held.length ≤ 1048576) (hp : ∀ p ∈ held, 0 ≤ p ∧ p < b.me.pl.length) :
    Fun Tryz.prog 74 [.view false (cVs v) n, .vptr false b.cells, .vptr false [.view false (cIs held) held.length], .vptr false [.flt .f32 step], .vptr false [.flt .f32 shift]] [] (.slc 0 0 n 3) [.blk true false 41 (cVs (sofB b held v step shift))] := by
  subst hn
  have hpl := (vldB_of hv).pl
  have htl := timB_len b held v step
  refine FnSpec.walk dr_ok Tryz.func74 rfl (by kernel_rfl) rfl rfl rfl (by simp) ?_
  simp
  (first | refine callG_r ?_ | refine callD_r ?_); simp; (first | refine callN_flat (by with_reducible first | exact c_stiffTimes b held v step hs hv hl hh hp) rfl ?_ | refine callN_new (by with_reducible first | exact c_stiffTimes b held v step hs hv hl hh hp) ?_ | refine callM_flat (by with_reducible first | exact c_stiffTimes b held v step hs hv hl hh hp) rfl ?_ | refine callM_new (by with_reducible first | exact c_stiffTimes b held v step hs hv hl hh hp) ?_)
  simp
  unfold sofB
  generalize timB b held v step = W at *
  refine loopG_of (α := Nat) (fun k => k ≤ v.length) (fun k => v.length - k) (fun k => [(17, .int .i64 k), (16, .int .i64 v.length), (15, .slc 0 0 v.length 3), (0, .view false (cVs v) v.length), (7, .slc 1 0 k 3), (4, .vptr false [.flt .f32 shift])])
    (fun k => [.blk true false 41 (cVs W), .blk true false 41 (cVs (sofN W v shift k))]) 0 (by simp) ?_ fun k hk => ?_
  · (refine weak_gc [(some 0, 0), (none, 41)] ?_ ?_ ?_ ?_ ?_ <;> simp [sofN])
  have hw := nat_wrap (k := k) (by omega)
  have hll := sofN_len W v shift k
  by_cases c : k < v.length
  · have c2 : k < W.length := by omega
    have hsu := sofN_succ (shift := shift) c c2
    have htk : (sofN W v shift k).take k = sofN W v shift k := List.take_of_length_le (by omega)
    simp [c, c2, hw, hll, htl]
    (first | refine callG_r ?_ | refine callD_r ?_); simp; (first | refine callN_flat (by with_reducible first | exact c_scale _ _ _ _) rfl ?_ | refine callN_new (by with_reducible first | exact c_scale _ _ _ _) ?_ | refine callM_flat (by with_reducible first | exact c_scale _ _ _ _) rfl ?_ | refine callM_new (by with_reducible first | exact c_scale _ _ _ _) ?_)
    simp [c, c2, hw, hll, htl]
    (first | refine callG_r ?_ | refine callD_r ?_); simp; (first | refine callN_flat (by with_reducible first | exact c_less _ _ _ _ _ _) rfl ?_ | refine callN_new (by with_reducible first | exact c_less _ _ _ _ _ _) ?_ | refine callM_flat (by with_reducible first | exact c_less _ _ _ _ _ _) rfl ?_ | refine callM_new (by with_reducible first | exact c_less _ _ _ _ _ _) ?_)
    simp [c, c2, hw, hll, htk]
    refine ⟨by omega, by omega, ?_⟩
    refine loopK_next (k + 1) (by omega) (by omega) ?_
    rw [hsu]
    (refine weak_gc [(some 0, 0), (some 4, 0)] ?_ ?_ ?_ ?_ ?_ <;> simp [hw])
  · obtain rfl : k = v.length := by omega
    simp
    (refine endG_keepT [(some 1, 0)] ?_ ?_ ?_ ?_ ?_ ?_ ?_ ⟨rfl, rfl⟩ ?_ <;> simp)
end Go.Proofs.YtnpflgeenecaeaaGreat
namespace Go.Proofs.YtnpflgeenecaeaaGreat
set_option linter.all false
open Go Go.Awp Ieee
set_option maxRecDepth 100000
set_option maxHeartbeats 4000000

/-- A number's sign dropped, if it is a zero. -/
def zs (x : Nat) : Nat := if x = 2147483648 then 0 else x
abbrev F32 : Format := FloatKind.f32.format
theorem rd_nz : F32.read 2147483648 = .number true 0 F32.leastPlace := by decide +kernel
theorem rd_pz : F32.read 0 = .number false 0 F32.leastPlace := by decide +kernel
theorem zs_idem (x : Nat) : zs (zs x) = zs x := by unfold zs; split <;> rename_i h <;> simp [h]
theorem zs_cases (x : Nat) : zs x = x ∨ x = 2147483648 := by unfold zs; split <;> simp_all
theorem near_zero (s : Bool) (e : Int) : F32.nearest s 0 e = F32.word s 0 := by unfold Format.nearest; rw [if_pos rfl]
theorem zs_word (s t : Bool) : zs (F32.word s 0) = zs (F32.word t 0) := by cases s <;> cases t <;> decide +kernel
theorem zs_near (s t : Bool) (e f : Int) : zs (F32.nearest s 0 e) = zs (F32.nearest t 0 f) := by rw [near_zero, near_zero]; exact zs_word s t
/-- What comes of data that differ in the sign of a zero at most. -/
inductive Zd : Option Datum → Option Datum → Prop
  | eq (d : Option Datum) : Zd d d
  | zero (s t : Bool) (e f : Int) : Zd (some (.number s 0 e)) (some (.number t 0 f))
theorem Zd.get {d d' : Option Datum} (h : Zd d d') : zs ((d.map F32.write).getD (qnan .f32)) = zs ((d'.map F32.write).getD (qnan .f32)) := by
  cases h with
  | eq => rfl
  | zero s t e f => exact zs_near s t e f
theorem signed_zero (s : Bool) (k : Nat) : signed s 0 k = 0 := by unfold signed; cases s <;> simp
theorem sum_zd (s t : Bool) (e : Int) (d : Datum) : Zd ((Datum.number s 0 e).sum d) ((Datum.number t 0 e).sum d) := by
  cases d with
  | nan a b => exact .eq _
  | infinity a => exact .eq _
  | number a n j =>
    simp only [Datum.sum, signed_zero]
    by_cases c : 0 + signed a n (j - min e j).toNat = 0
    · rw [if_pos c, if_pos c]
      have : (0 + signed a n (j - min e j).toNat).natAbs = 0 := by rw [c]; rfl
      rw [this]
      exact .zero ..
    · rw [if_neg c, if_neg c]; exact .eq _
theorem sum_comm (d e : Datum) : d.sum e = e.sum d := by
  cases d with
  | nan a b => cases e <;> rfl
  | infinity a =>
    cases e with
    | infinity b => simp only [Datum.sum]; cases a <;> cases b <;> rfl
    | _ => rfl
  | number s m i =>
    cases e with
    | number t n j =>
      simp only [Datum.sum]
      rw [Int.min_comm, Int.add_comm, Bool.and_comm]
    | _ => rfl
theorem prod_zd (s t : Bool) (e : Int) (d : Datum) : Zd ((Datum.number s 0 e).product d) ((Datum.number t 0 e).product d) := by
  cases d with
  | nan a b => exact .eq _
  | infinity a => exact .eq _
  | number a n j =>
    simp only [Datum.product, Nat.zero_mul]
    exact .zero ..
theorem prod_comm (d e : Datum) : d.product e = e.product d := by
  cases d with
  | nan a b => cases e <;> rfl
  | infinity a =>
    cases e with
    | infinity b => simp only [Datum.product]; cases a <;> cases b <;> rfl
    | number t n j => simp only [Datum.product]
    | nan _ _ => rfl
  | number s m i =>
    cases e with
    | number t n j => simp only [Datum.product]; rw [Nat.mul_comm, Int.add_comm, Bool.xor_comm]
    | infinity b => simp only [Datum.product]
    | nan _ _ => rfl
theorem opp_nz (e : Int) (s : Bool) : (Datum.number s 0 e).opposite = .number (!s) 0 e := rfl
theorem add_l (y : Nat) : zs (fop .add .f32 2147483648 y) = zs (fop .add .f32 0 y) := by
  show zs ((((F32.read 2147483648).sum (F32.read y)).map F32.write).getD _) = zs ((((F32.read 0).sum (F32.read y)).map F32.write).getD _)
  rw [rd_nz, rd_pz]; exact (sum_zd ..).get
theorem add_r (x : Nat) : zs (fop .add .f32 x 2147483648) = zs (fop .add .f32 x 0) := by
  show zs ((((F32.read x).sum (F32.read 2147483648)).map F32.write).getD _) = zs ((((F32.read x).sum (F32.read 0)).map F32.write).getD _)
  rw [rd_nz, rd_pz, sum_comm, sum_comm (F32.read x)]; exact (sum_zd ..).get
theorem sub_l (y : Nat) : zs (fop .sub .f32 2147483648 y) = zs (fop .sub .f32 0 y) := by
  show zs ((((F32.read 2147483648).sum (F32.read y).opposite).map F32.write).getD _) = zs ((((F32.read 0).sum (F32.read y).opposite).map F32.write).getD _)
  rw [rd_nz, rd_pz]; exact (sum_zd ..).get
theorem sub_r (x : Nat) : zs (fop .sub .f32 x 2147483648) = zs (fop .sub .f32 x 0) := by
  show zs ((((F32.read x).sum (F32.read 2147483648).opposite).map F32.write).getD _) = zs ((((F32.read x).sum (F32.read 0).opposite).map F32.write).getD _)
  rw [rd_nz, rd_pz, opp_nz, opp_nz, sum_comm, sum_comm (F32.read x)]; exact (sum_zd ..).get
theorem mul_l (y : Nat) : zs (fop .mul .f32 2147483648 y) = zs (fop .mul .f32 0 y) := by
  show zs ((((F32.read 2147483648).product (F32.read y)).map F32.write).getD _) = zs ((((F32.read 0).product (F32.read y)).map F32.write).getD _)
  rw [rd_nz, rd_pz]; exact (prod_zd ..).get
theorem mul_r (x : Nat) : zs (fop .mul .f32 x 2147483648) = zs (fop .mul .f32 x 0) := by
  show zs ((((F32.read x).product (F32.read 2147483648)).map F32.write).getD _) = zs ((((F32.read x).product (F32.read 0)).map F32.write).getD _)
  rw [rd_nz, rd_pz, prod_comm, prod_comm (F32.read x)]; exact (prod_zd ..).get
theorem quo_zd (q : Nat) (s t : Bool) (e : Int) (d : Datum) : Zd ((Datum.number s 0 e).quotient q d) ((Datum.number t 0 e).quotient q d) := by
  cases d with
  | nan a b => exact .eq _
  | infinity a => exact .zero ..
  | number a n j =>
    simp only [Datum.quotient]
    by_cases c : n = 0
    · rw [if_pos c, if_pos c, if_pos trivial, if_pos trivial]; exact .eq _
    · rw [if_neg c, if_neg c]
      simp only [Nat.zero_shiftLeft, Nat.zero_div, Nat.zero_mod]
      exact .zero ..
theorem quo_l (y : Nat) : zs (fop .quo .f32 2147483648 y) = zs (fop .quo .f32 0 y) := by
  show zs ((((F32.read 2147483648).quotient _ (F32.read y)).map F32.write).getD _) = zs ((((F32.read 0).quotient _ (F32.read y)).map F32.write).getD _)
  rw [rd_nz, rd_pz]; exact (quo_zd ..).get
theorem op_z {g : Nat → Nat → Nat} (hl : ∀ y, zs (g 2147483648 y) = zs (g 0 y)) (hr : ∀ x, zs (g x 2147483648) = zs (g x 0)) {x x' y y' : Nat} (hx : zs x = zs x') (hy : zs y = zs y') : zs (g x y) = zs (g x' y') := by
  have key : ∀ x y, zs (g x y) = zs (g (zs x) (zs y)) := by
    intro x y
    have h1 : zs (g x y) = zs (g (zs x) y) := by
      rcases zs_cases x with h | rfl
      · rw [h]
      · exact hl y
    have h2 : zs (g (zs x) y) = zs (g (zs x) (zs y)) := by
      rcases zs_cases y with h | rfl
      · rw [h]
      · exact hr _
    rw [h1, h2]
  rw [key x y, key x' y', hx, hy]
theorem add_z {x x' y y' : Nat} (hx : zs x = zs x') (hy : zs y = zs y') : zs (fop .add .f32 x y) = zs (fop .add .f32 x' y') := op_z add_l add_r hx hy
theorem sub_z {x x' y y' : Nat} (hx : zs x = zs x') (hy : zs y = zs y') : zs (fop .sub .f32 x y) = zs (fop .sub .f32 x' y') := op_z sub_l sub_r hx hy
theorem mul_z {x x' y y' : Nat} (hx : zs x = zs x') (hy : zs y = zs y') : zs (fop .mul .f32 x y) = zs (fop .mul .f32 x' y') := op_z mul_l mul_r hx hy
theorem fn_z {g : Nat → Nat} (h : zs (g 2147483648) = zs (g 0)) {x x' : Nat} (hx : zs x = zs x') : zs (g x) = zs (g x') := by
  have key : ∀ x, zs (g x) = zs (g (zs x)) := by
    intro x
    rcases zs_cases x with h1 | rfl
    · rw [h1]
    · exact h
  rw [key x, key x', hx]
theorem quo_z {x x' : Nat} (y : Nat) (hx : zs x = zs x') : zs (fop .quo .f32 x y) = zs (fop .quo .f32 x' y) := fn_z (g := fun x => fop .quo .f32 x y) (quo_l y) hx
theorem neg_z {x x' : Nat} (hx : zs x = zs x') : zs (fneg .f32 x) = zs (fneg .f32 x') := fn_z (g := fun x => fneg .f32 x) (by decide +kernel) hx
theorem root_z {x x' : Nat} (hx : zs x = zs x') : zs (froot x) = zs (froot x') := fn_z (g := froot) (by decide +kernel) hx
theorem gt_nz : ford .f32 2147483648 0 = some .eq := by decide +kernel
theorem gt_pz : ford .f32 0 0 = some .eq := by decide +kernel
theorem gain_z {x x' l l' : Nat} (hx : zs x = zs x') (hl : zs l = zs l') : zs (gainF x l) = zs (gainF x' l') := by
  have key : ∀ x l, zs (gainF x l) = zs (gainF (zs x) (zs l)) := by
    intro x l
    rcases zs_cases l with h | rfl
    · rw [h]
      unfold gainF
      split
      · exact quo_z l (zs_idem x).symm
      · rfl
    · show zs (gainF x 2147483648) = zs (gainF (zs x) 0)
      unfold gainF
      rw [gt_nz, gt_pz]; rfl
  rw [key x l, key x' l', hx, hl]
-- vectors
def vz (v : V) : V := (zs v.1, zs v.2.1, zs v.2.2)
theorem vz_eq {a b : V} (h : vz a = vz b) : zs a.1 = zs b.1 ∧ zs a.2.1 = zs b.2.1 ∧ zs a.2.2 = zs b.2.2 := by
  simp only [vz, Prod.mk.injEq] at h; exact h
theorem vz_mk {a b : V} (h1 : zs a.1 = zs b.1) (h2 : zs a.2.1 = zs b.2.1) (h3 : zs a.2.2 = zs b.2.2) : vz a = vz b := by simp only [vz, h1, h2, h3]
theorem vadd_z {a a' b b' : V} (ha : vz a = vz a') (hb : vz b = vz b') : vz (vadd a b) = vz (vadd a' b') := by
  obtain ⟨a1, a2, a3⟩ := vz_eq ha
  obtain ⟨b1, b2, b3⟩ := vz_eq hb
  exact vz_mk (add_z a1 b1) (add_z a2 b2) (add_z a3 b3)
theorem vsub_z {a a' b b' : V} (ha : vz a = vz a') (hb : vz b = vz b') : vz (vsub a b) = vz (vsub a' b') := by
  obtain ⟨a1, a2, a3⟩ := vz_eq ha
  obtain ⟨b1, b2, b3⟩ := vz_eq hb
  exact vz_mk (sub_z a1 b1) (sub_z a2 b2) (sub_z a3 b3)
theorem vscale_z {a a' : V} {k k' : Nat} (ha : vz a = vz a') (hk : zs k = zs k') : vz (vscale a k) = vz (vscale a' k') := by
  obtain ⟨a1, a2, a3⟩ := vz_eq ha
  exact vz_mk (mul_z a1 hk) (mul_z a2 hk) (mul_z a3 hk)
theorem vinner_z {a a' b b' : V} (ha : vz a = vz a') (hb : vz b = vz b') : zs (vinner a b) = zs (vinner a' b') := by
  obtain ⟨a1, a2, a3⟩ := vz_eq ha
  obtain ⟨b1, b2, b3⟩ := vz_eq hb
  exact add_z (add_z (mul_z a1 b1) (mul_z a2 b2)) (mul_z a3 b3)
theorem vlong_z {a a' : V} (ha : vz a = vz a') : zs (vlong a) = zs (vlong a') := root_z (vinner_z ha ha)
theorem vcross_z {a a' b b' : V} (ha : vz a = vz a') (hb : vz b = vz b') : vz (vcross a b) = vz (vcross a' b') := by
  obtain ⟨a1, a2, a3⟩ := vz_eq ha
  obtain ⟨b1, b2, b3⟩ := vz_eq hb
  exact vz_mk (sub_z (mul_z a2 b3) (mul_z a3 b2)) (sub_z (mul_z a3 b1) (mul_z a1 b3)) (sub_z (mul_z a1 b2) (mul_z a2 b1))
theorem pull_z {d d' : V} (z u : Nat) (hd : vz d = vz d') : zs (pullF d z u) = zs (pullF d' z u) :=
  gain_z (mul_z rfl (sub_z (vlong_z hd) rfl)) (vlong_z hd)
/-- Lists that differ in signs of zeros at most. -/
def Zl (a b : List V) : Prop := a.map vz = b.map vz
theorem Zl.len {a b : List V} (h : Zl a b) : a.length = b.length := by have := congrArg List.length h; simpa using this
theorem Zl.getD {a b : List V} (h : Zl a b) (i : Nat) : vz (a.getD i (0, 0, 0)) = vz (b.getD i (0, 0, 0)) := by
  have h1 : (a.map vz).getD i (vz (0, 0, 0)) = (b.map vz).getD i (vz (0, 0, 0)) := by rw [h]
  rw [List.getD_eq_getElem?_getD, List.getD_eq_getElem?_getD, List.getElem?_map, List.getElem?_map] at h1
  rw [List.getD_eq_getElem?_getD, List.getD_eq_getElem?_getD]
  cases hx : a[i]? <;> cases hy : b[i]? <;> rw [hx, hy] at h1 <;> simpa using h1
theorem push_z {O O' : List V} (i : Nat) {d d' : V} {g g' : Nat} (hO : Zl O O') (hd : vz d = vz d') (hg : zs g = zs g') : Zl (push O i d g) (push O' i d' g') := by
  unfold Zl push at *
  have hv := vadd_z (Zl.getD hO i) (vscale_z hd hg)
  rw [List.map_set, List.map_set, hO, hv]
theorem fold_z {α : Type} {f f' : List V → α → List V} (hf : ∀ O O' x, Zl O O' → Zl (f O x) (f' O' x)) : ∀ (l : List α) {O O' : List V}, Zl O O' → Zl (l.foldl f O) (l.foldl f' O')
  | [], _, _, h => h
  | x :: l, _, _, h => fold_z hf l (hf _ _ x h)
/-- Bodies whose places differ in signs of zeros at most. -/
structure Zb (b b' : Bod) : Prop where
  pl : Zl b.me.pl b'.me.pl
  tr : b.me.tr = b'.me.tr
  sp : b.sp = b'.sp
  film : b.film = b'.film
  bend : b.bend = b'.bend
  w : b.w = b'.w
  fall : b.fall = b'.fall
theorem plA_z {b b' : Bod} (h : Zb b b') (i : Int) : vz (plA b.me i) = vz (plA b'.me i) := h.pl.getD i.toNat
theorem hinS_z {b b' : Bod} (h : Zb b b') : hinS b.me = hinS b'.me := by
  have h1 := h.pl.len
  have h2 := h.tr
  unfold hinS hinN edS
  rw [h1, h2]
theorem nrmA_z {b b' : Bod} (h : Zb b b') (t : List Int) : vz (nrmA b.me t) = vz (nrmA b'.me t) :=
  vcross_z (vsub_z (plA_z h _) (plA_z h _)) (vsub_z (plA_z h _) (plA_z h _))
theorem bendA_z {b b' : Bod} (h : Zb b b') (t : List Int) : vz (bendA b.me t) = vz (bendA b'.me t) :=
  vsub_z (vadd_z (plA_z h _) (plA_z h _)) (vadd_z (plA_z h _) (plA_z h _))
theorem frcB_z {b b' : Bod} (h : Zb b b') : Zl (frcB b) (frcB b') := by
  unfold frcB
  rw [hinS_z h, h.tr, h.sp, h.pl.len]
  unfold fP3 fP2 fP1 fP0
  rw [hinS_z h, h.tr, h.sp]
  refine fold_z (fun O O' i hO => ?_) _ (fold_z (fun O O' t hO => ?_) _ (fold_z (fun O O' t hO => ?_) _ (fold_z (fun O O' s hO => ?_) _ rfl)))
  · unfold foW
    rw [h.w, h.fall]
    exact push_z i hO rfl rfl
  · unfold foH
    rw [h.bend]
    exact push_z _ (push_z _ (push_z _ (push_z _ hO (bendA_z h t) rfl) (bendA_z h t) rfl) (bendA_z h t) rfl) (bendA_z h t) rfl
  · unfold foT foT3
    refine fold_z (fun O O' i hO => ?_) _ hO
    refine push_z _ hO (vcross_z (nrmA_z h t) (vsub_z (plA_z h _) (plA_z h _))) ?_
    unfold filF
    rw [h.film]
    exact gain_z rfl (vlong_z (nrmA_z h t))
  · have hd := vsub_z (plA_z h s.2.1) (plA_z h s.1)
    exact push_z _ (push_z _ hO hd (pull_z _ _ hd)) hd (neg_z (pull_z _ _ hd))
theorem movB_z {b : Bod} {v v' : List V} (s : Nat) (h : Zl v v') : Zb (movB b v s) (movB b v' s) := by
  refine ⟨?_, rfl, rfl, rfl, rfl, rfl, rfl⟩
  show (movP b.me.pl v s).map vz = (movP b.me.pl v' s).map vz
  have hl := h.len
  unfold movP
  apply List.ext_getElem
  · simp [hl]
  · intro i h1 h2
    have hi : i < v.length := by simp at h1; omega
    have hi' : i < v'.length := by omega
    have hg := h.getD i
    rw [List.getD_eq_getElem?_getD, List.getD_eq_getElem?_getD, List.getElem?_eq_getElem hi, List.getElem?_eq_getElem hi'] at hg
    simp only [List.getElem_map, List.getElem_zipWith]
    exact vadd_z rfl (vscale_z hg rfl)
theorem Zl.free {a b : List V} (h : Zl a b) (held : List Int) : Zl (freeL a held) (freeL b held) := by
  unfold freeL freeN
  refine fold_z (fun O O' p hO => ?_) _ h
  unfold Zl at *
  rw [List.map_set, List.map_set, hO]
theorem timB_z {b : Bod} (held : List Int) {v v' : List V} (step : Nat) (h : Zl v v') : Zl (timB b held v step) (timB b held v' step) := by
  unfold timB
  refine Zl.free ?_ held
  have h1 := frcB_z (movB_z (b := b) (fneg .f32 step) h)
  have h2 := frcB_z (movB_z (b := b) step h)
  unfold Zl timN
  rw [h.len, List.map_map, List.map_map]
  exact List.map_congr_left fun i _ => vscale_z (vsub_z (h1.getD i) (h2.getD i)) rfl
-- sums of inner products
theorem word_ne {s : Bool} {r : Nat} (h : r ≠ 0) (hr : r < 2147483648) : F32.word s r ≠ 2147483648 := by
  have e : F32.signWeight = 2147483648 := by decide +kernel
  unfold Format.word
  rw [e]
  split <;> omega
theorem near_ne {s : Bool} {m : Nat} {e : Int} (hm : m ≠ 0) (he : F32.leastPlace ≤ e) : F32.nearest s m e ≠ 2147483648 := by
  have hI : F32.infRung = 2139095040 := by decide +kernel
  have hB : F32.binade = 8388608 := by decide +kernel
  unfold Format.nearest
  rw [if_neg hm]
  dsimp only
  refine word_ne ?_ (by rw [hI]; omega)
  rw [hI, hB]
  by_cases c : F32.leastPlace < e + m.log2 - F32.fractionBits
  · have : 1 ≤ (max (e + (m.log2 : Int) - F32.fractionBits) F32.leastPlace - F32.leastPlace).toNat := by omega
    have := Nat.mul_le_mul_right 8388608 this
    omega
  · have hmx : max (e + (m.log2 : Int) - F32.fractionBits) F32.leastPlace = F32.leastPlace := by omega
    rw [hmx, show (F32.leastPlace - e).toNat = 0 by omega]
    have hk : 1 ≤ Toward.even.cut s (m <<< (e - F32.leastPlace).toNat) 0 := by
      unfold Toward.cut
      dsimp only
      rw [Nat.zero_min, Nat.shiftLeft_zero, Nat.div_one, Nat.shiftLeft_eq]
      have : 1 ≤ m * 2 ^ (e - F32.leastPlace).toNat := Nat.mul_pos (by omega) (Nat.two_pow_pos _)
      omega
    omega
theorem rd_place {x : Nat} {s : Bool} {m : Nat} {e : Int} (h : F32.read x = .number s m e) : F32.leastPlace ≤ e ∧ (m = 0 → s = true → x < 4294967296 → x = 2147483648) := by
  have hI : F32.infRung = 2139095040 := by decide +kernel
  have hB : F32.binade = 8388608 := by decide +kernel
  have hS : F32.signWeight = 2147483648 := by decide +kernel
  unfold Format.read at h
  dsimp only at h
  rw [hS, hB, hI] at h
  split at h
  · cases h
    refine ⟨Int.le_refl _, fun h1 h2 h3 => ?_⟩
    simp at h2
    omega
  · split at h
    · cases h
      refine ⟨by omega, fun h1 => by omega⟩
    · split at h <;> cases h
theorem add_ne {x y : Nat} (hx : x < 4294967296) (h : x ≠ 2147483648) : fop .add .f32 x y ≠ 2147483648 := by
  have hI : F32.infRung = 2139095040 := by decide +kernel
  show (((F32.read x).sum (F32.read y)).map F32.write).getD (qnan .f32) ≠ 2147483648
  have hq : qnan .f32 ≠ 2147483648 := by decide +kernel
  cases hX : F32.read x with
  | nan a b => rw [sum_nan_l]; exact hq
  | infinity a =>
    cases hY : F32.read y with
    | nan c d => rw [sum_nan_r]; exact hq
    | infinity c =>
      simp only [Datum.sum]
      split
      · exact word_ne (by rw [hI]; omega) (by rw [hI]; omega)
      · exact hq
    | number t n j => exact word_ne (by rw [hI]; omega) (by rw [hI]; omega)
  | number s m i =>
    obtain ⟨p1, p2⟩ := rd_place hX
    cases hY : F32.read y with
    | nan c d => rw [sum_nan_r]; exact hq
    | infinity c => exact word_ne (by rw [hI]; omega) (by rw [hI]; omega)
    | number t n j =>
      obtain ⟨q1, _⟩ := rd_place hY
      simp only [Datum.sum, Option.map_some, Option.getD_some, Format.write]
      by_cases c : signed s m (i - min i j).toNat + signed t n (j - min i j).toNat = 0
      · rw [if_pos c]
        have : (signed s m (i - min i j).toNat + signed t n (j - min i j).toNat).natAbs = 0 := by rw [c]; rfl
        rw [this, near_zero]
        cases hst : (s && t) with
        | false => decide +kernel
        | true =>
          exfalso
          simp only [Bool.and_eq_true] at hst
          rw [hst.1, hst.2] at c
          simp only [signed, if_true] at c
          have : m <<< (i - min i j).toNat = 0 := by
            generalize m <<< (i - min i j).toNat = A at *
            generalize n <<< (j - min i j).toNat = B at *
            omega
          rw [Nat.shiftLeft_eq] at this
          rcases Nat.mul_eq_zero.1 this with h0 | h0
          · exact h (p2 h0 hst.1 hx)
          · have := Nat.two_pow_pos (i - min i j).toNat; omega
      · exact near_ne (Int.natAbs_ne_zero.2 c) (by omega)
theorem map_lt32 (d : Option Datum) : (d.map F32.write).getD (qnan .f32) < 4294967296 := by
  have hw : (2 : Nat) ^ F32.width = 4294967296 := by decide +kernel
  cases d with
  | none => exact hw ▸ qnan_lt .f32
  | some d => exact hw ▸ F32.write_lt d
theorem fop_lt32 (x y : Nat) : fop .add .f32 x y < 4294967296 := map_lt32 _
theorem add_same {S y y' : Nat} (hS : S < 4294967296) (h : S ≠ 2147483648) (hy : zs y = zs y') : fop .add .f32 S y = fop .add .f32 S y' := by
  have key : ∀ y, fop .add .f32 S y = fop .add .f32 S (zs y) := by
    intro y
    rcases zs_cases y with h1 | rfl
    · rw [h1]
    · have h1 := add_r S
      have h2 := add_ne (y := 2147483648) hS h
      have h3 := add_ne (y := 0) hS h
      show _ = fop .add .f32 S 0
      unfold zs at h1
      rwa [if_neg h2, if_neg h3] at h1
  rw [key y, key y', hy]
theorem innN_z {a a' b b' : List V} (ha : Zl a a') (hb : Zl b b') : ∀ k, innN a b k = innN a' b' k ∧ innN a b k ≠ 2147483648 ∧ innN a b k < 4294967296
  | 0 => ⟨rfl, by simp [innN], by simp [innN]⟩
  | k + 1 => by
    obtain ⟨h1, h2, h3⟩ := innN_z ha hb k
    have e1 : innN a b (k + 1) = fop .add .f32 (innN a b k) (vinner (a.getD k (0, 0, 0)) (b.getD k (0, 0, 0))) := by unfold innN; rw [foldr_succ]
    have e2 : innN a' b' (k + 1) = fop .add .f32 (innN a' b' k) (vinner (a'.getD k (0, 0, 0)) (b'.getD k (0, 0, 0))) := by unfold innN; rw [foldr_succ]
    rw [e1, e2, ← h1]
    exact ⟨add_same h3 h2 (vinner_z (ha.getD k) (hb.getD k)), add_ne h3 h2, fop_lt32 ..⟩
theorem innL_z {a a' b b' : List V} (ha : Zl a a') (hb : Zl b b') : innL a b = innL a' b' := by
  unfold innL
  rw [ha.len]
  exact (innN_z ha hb _).1
theorem rayL_z {b : Bod} (held : List Int) {v v' : List V} (step : Nat) (h : Zl v v') : rayL b held v step = rayL b held v' step := by
  unfold rayL
  rw [innL_z h h, innL_z h (timB_z held step h)]
end Go.Proofs.YtnpflgeenecaeaaGreat
namespace Go.Proofs.YtnpflgeenecaeaaGreat
set_option linter.all false
open Go Go.Awp Ieee
set_option maxRecDepth 100000
set_option maxHeartbeats 4000000

/-- Held places have zeros. -/
def Zh (held : List Int) (w : List V) : Prop := ∀ p ∈ held, vz (w.getD p.toNat (0, 0, 0)) = (0, 0, 0)
theorem free_Zl {held : List Int} {w : List V} (h : Zh held w) : Zl (freeL w held) w := by
  unfold freeL freeN
  rw [List.take_length]
  have key : ∀ (l : List Int) (O : List V), (∀ p ∈ l, p ∈ held) → Zl O w → Zl (l.foldl (fun o p => o.set p.toNat (0, 0, 0)) O) w := by
    intro l
    induction l with
    | nil => exact fun _ _ h => h
    | cons p l ih =>
      intro O hl hO
      refine ih _ (fun q hq => hl q (List.mem_cons_of_mem _ hq)) ?_
      have hp := h p (hl p (List.mem_cons_self ..))
      unfold Zl at *
      rw [List.map_set, hO]
      apply List.ext_getElem?
      intro i
      rw [List.getElem?_set]
      split
      · rename_i e
        subst e
        split
        · rename_i hlt
          rw [List.getElem?_map]
          have hlt : p.toNat < w.length := by simpa using hlt
          rw [List.getD_eq_getElem?_getD, List.getElem?_eq_getElem hlt] at hp
          rw [List.getElem?_eq_getElem hlt]
          simp only [Option.getD_some] at hp
          rw [Option.map_some, hp]; rfl
        · rename_i hge
          rw [List.getElem?_eq_none (by omega)]
      · rfl
  exact key held w (fun _ h => h) rfl
theorem getD_set {O : List V} {i j : Nat} : (O.set i (0, 0, 0)).getD j (0, 0, 0) = if i = j then (0, 0, 0) else O.getD j (0, 0, 0) := by
  rw [List.getD_eq_getElem?_getD, List.getElem?_set, List.getD_eq_getElem?_getD]
  split
  · split <;> rfl
  · rfl
theorem free_get {held : List Int} (v : List V) {p : Int} (hp : p ∈ held) : (freeL v held).getD p.toNat (0, 0, 0) = (0, 0, 0) := by
  unfold freeL freeN
  rw [List.take_length]
  have key : ∀ (l : List Int) (O : List V), (p ∈ l ∨ O.getD p.toNat (0, 0, 0) = (0, 0, 0)) → (l.foldl (fun o p => o.set p.toNat (0, 0, 0)) O).getD p.toNat (0, 0, 0) = (0, 0, 0) := by
    intro l
    induction l with
    | nil => intro O h; exact h.resolve_left (by simp)
    | cons q l ih =>
      intro O h
      refine ih _ ?_
      rw [getD_set]
      by_cases c : q.toNat = p.toNat
      · exact .inr (by rw [if_pos c])
      · rw [if_neg c]
        rcases h with h | h
        · rcases List.mem_cons.1 h with e | h
          · exact absurd (by rw [e]) c
          · exact .inl h
        · exact .inr h
  exact key held v (.inl hp)
theorem zh_free (v : List V) (held : List Int) : Zh held (freeL v held) := fun p hp => by rw [free_get v hp]; rfl
theorem zh_tim (b : Bod) (held : List Int) (v : List V) (step : Nat) : Zh held (timB b held v step) := zh_free _ held
theorem qnan_nan : nanB .f32 (qnan .f32) = true := by decide +kernel
theorem fop_nan_l (op : BinOp) {x : Nat} (y : Nat) (h : nanB .f32 x = true) : nanB .f32 (fop op .f32 x y) = true := by
  unfold fop; rw [floatBits_nan_l h]; exact qnan_nan
theorem fop_nan_r (op : BinOp) (x : Nat) {y : Nat} (h : nanB .f32 y = true) : nanB .f32 (fop op .f32 x y) = true := by
  unfold fop; rw [floatBits_nan_r h]; exact qnan_nan
theorem fin_nan {x : Nat} (h : nanB .f32 x = true) : finB x = false := by
  unfold finB
  rw [ford_nan_l (fop_nan_l .sub x h)]; rfl
theorem over_nan {x : Nat} (h : nanB .f32 x = true) : overB x = false := by unfold overB; rw [fin_nan h]; rfl
theorem mul_zero_fin {x : Nat} (h : finB x = true) : zs (fop .mul .f32 0 x) = 0 := by
  show zs ((((F32.read 0).product (F32.read x)).map F32.write).getD (qnan .f32)) = 0
  rw [rd_pz]
  cases hx : F32.read x with
  | nan a b =>
    have : nanB .f32 x = true := by unfold nanB FloatKind.decode; rw [show FloatKind.f32.format.read x = F32.read x from rfl, hx]; rfl
    rw [fin_nan this] at h; cases h
  | infinity a =>
    exfalso
    have h2 : fop .sub .f32 x x = qnan .f32 := by
      show (((F32.read x).sum (F32.read x).opposite).map F32.write).getD (qnan .f32) = qnan .f32
      rw [hx]; cases a <;> rfl
    unfold finB at h
    rw [h2, ford_nan_l qnan_nan] at h
    cases h
  | number s m e =>
    simp only [Datum.product, Nat.zero_mul, Option.map_some, Option.getD_some, Format.write]
    rw [near_zero]
    cases s <;> decide +kernel
theorem mul_zero_inf {x : Nat} (h : finB x = false) : nanB .f32 (fop .mul .f32 0 x) = true := by
  show nanB .f32 ((((F32.read 0).product (F32.read x)).map F32.write).getD (qnan .f32)) = true
  rw [rd_pz]
  cases hx : F32.read x with
  | nan a b => exact qnan_nan
  | infinity a => cases a <;> exact qnan_nan
  | number s m e =>
    exfalso
    have hsub : fop .sub .f32 x x = 0 := by
      show (((F32.read x).sum (F32.read x).opposite).map F32.write).getD (qnan .f32) = 0
      rw [hx]
      simp only [Datum.sum, Datum.opposite, Option.map_some, Option.getD_some, Format.write]
      have hz : signed s m (e - min e e).toNat + signed (!s) m (e - min e e).toNat = 0 := by
        unfold signed
        generalize m <<< (e - min e e).toNat = A
        cases s <;> simp <;> omega
      rw [if_pos hz, hz]
      show F32.nearest (s && !s) 0 _ = 0
      rw [near_zero]
      cases s <;> decide +kernel
    unfold finB at h
    rw [hsub, gt_pz] at h
    cases h
theorem mul_zero_inf' {x : Nat} (h : finB x = false) : nanB .f32 (fop .mul .f32 2147483648 x) = true := by
  show nanB .f32 ((((F32.read 2147483648).product (F32.read x)).map F32.write).getD (qnan .f32)) = true
  have h0 : nanB .f32 ((((F32.read 0).product (F32.read x)).map F32.write).getD (qnan .f32)) = true := mul_zero_inf h
  rw [rd_pz] at h0
  rw [rd_nz]
  cases hx : F32.read x with
  | nan a b => exact qnan_nan
  | infinity a => cases a <;> exact qnan_nan
  | number s m e =>
    exfalso
    rw [hx] at h0
    simp only [Datum.product, Nat.zero_mul, Option.map_some, Option.getD_some, Format.write] at h0
    rw [near_zero] at h0
    cases s <;> exact absurd h0 (by decide +kernel)
theorem vz_zero {a : V} (h : vz a = (0, 0, 0)) : vz a = vz (0, 0, 0) := h
theorem scale_zero {a : V} {k : Nat} (ha : vz a = (0, 0, 0)) (hk : finB k = true) : vz (vscale a k) = (0, 0, 0) := by
  rw [vscale_z (vz_zero ha) (rfl : zs k = zs k)]
  simp only [vscale, vz, mul_zero_fin hk]
theorem zh_nrm {held : List Int} {x : List V} (h : Zh held x) (hk : nrmK x = true) : Zh held (nrmL x) := by
  have hk2 : finB (nrmF x) = true := by unfold nrmK at hk; simp at hk; exact hk.2
  intro p hp
  have h1 := h p hp
  unfold nrmL
  rw [List.getD_eq_getElem?_getD, List.getElem?_map]
  rw [List.getD_eq_getElem?_getD] at h1
  cases hx : x[p.toNat]? with
  | none => rfl
  | some a =>
    rw [hx] at h1
    exact scale_zero h1 hk2
theorem inn_nan {a b : List V} {p : Nat} (h : nanB .f32 (vinner (a.getD p (0, 0, 0)) (b.getD p (0, 0, 0))) = true) : ∀ k, p < k → nanB .f32 (innN a b k) = true
  | 0, hk => by omega
  | k + 1, hk => by
    have e1 : innN a b (k + 1) = fop .add .f32 (innN a b k) (vinner (a.getD k (0, 0, 0)) (b.getD k (0, 0, 0))) := by unfold innN; rw [foldr_succ]
    rw [e1]
    by_cases c : p = k
    · subst c; exact fop_nan_r .add _ h
    · exact fop_nan_l .add _ (inn_nan h k (by omega))
theorem zh_sof {b : Bod} {held : List Int} {v : List V} {step shift : Nat} (h : Zh held v) (hlt : ∀ p ∈ held, 0 ≤ p ∧ p < v.length) (hk : nrmK (sofB b held v step shift) = true) : Zh held (sofB b held v step shift) := by
  intro p hp
  have hpl := hlt p hp
  have h1 := h p hp
  have h2 := zh_tim b held v step p hp
  have e : (sofB b held v step shift).getD p.toNat (0, 0, 0) = vsub (vscale (v.getD p.toNat (0, 0, 0)) shift) ((timB b held v step).getD p.toNat (0, 0, 0)) := by
    unfold sofB sofN
    rw [List.getD_eq_getElem?_getD, List.getElem?_map, List.getElem?_range (by omega)]; rfl
  have h3 : (timB b held v step).getD p.toNat (0, 0, 0) = (0, 0, 0) := free_get _ hp
  rw [e, h3]
  cases hf : finB shift with
  | true =>
    rw [vsub_z ((scale_zero h1 hf).trans (by decide : ((0, 0, 0) : V) = vz (0, 0, 0))) (rfl : vz (0, 0, 0) = vz (0, 0, 0))]
    decide +kernel
  | false =>
    exfalso
    have hn : nanB .f32 ((sofB b held v step shift).getD p.toNat (0, 0, 0)).1 = true := by
      rw [e]
      refine fop_nan_l .sub _ ?_
      show nanB .f32 (fop .mul .f32 (v.getD p.toNat (0, 0, 0)).1 shift) = true
      have h4 : zs (v.getD p.toNat (0, 0, 0)).1 = 0 := by
        have := congrArg Prod.fst h1
        exact this
      rcases zs_cases (v.getD p.toNat (0, 0, 0)).1 with h5 | h5
      · rw [← h5, h4]; exact mul_zero_inf hf
      · rw [h5]; exact mul_zero_inf' hf
    have hi : nanB .f32 (innL (sofB b held v step shift) (sofB b held v step shift)) = true := by
      refine inn_nan (p := p.toNat) ?_ _ (by rw [sofB_len]; omega)
      exact fop_nan_l .add _ (fop_nan_l .add _ (fop_nan_l .mul _ hn))
    unfold nrmK at hk
    rw [over_nan hi] at hk
    cases hk
end Go.Proofs.YtnpflgeenecaeaaGreat
