/- What stiffness makes of lists of vectors. Rayleigh's quotient, lists that are normed: as the program and the reference reckon them.
Conditions: none. -/
import Derived.Test.YtnpflgeenecaeaaGreatVT7
namespace Go.Proofs.YtnpflgeenecaeaaGreat
set_option linter.all false
open Go Go.Awp
set_option maxRecDepth 100000
set_option maxHeartbeats 4000000
set_option pp.deepTerms true

theorem pins_mem {n : Int} : ∀ {l : List Int} {a : Int}, -1 ≤ a → pinsF n a l = true → ∀ p ∈ l, 0 ≤ p ∧ p < n
  | [], _, _, _, _, hp => by simp at hp
  | x :: l, a, ha, h, p, hp => by
    simp only [pinsF, inB, Bool.and_eq_true, decide_eq_true_eq] at h
    rcases List.mem_cons.1 hp with rfl | hp
    · omega
    · exact pins_mem (by omega) h.2 p hp
theorem pins_len {n : Int} : ∀ {l : List Int} {a : Int}, a < n → pinsF n a l = true → (l.length : Int) ≤ n - 1 - a
  | [], a, ha, h => by simp; omega
  | x :: l, a, ha, h => by
    simp only [pinsF, inB, Bool.and_eq_true, decide_eq_true_eq] at h
    have := pins_len (l := l) (a := x) (by omega) h.2
    simp; omega
def freeN (v : List V) (held : List Int) (k : Nat) : List V := (held.take k).foldl (fun o p => o.set p.toNat (0, 0, 0)) v
def freeL (v : List V) (held : List Int) : List V := freeN v held held.length
@[simp] theorem freeN_len (v : List V) (held : List Int) (k : Nat) : (freeN v held k).length = v.length := fold_len (fun o x => by simp) _ _
@[simp] theorem freeL_len (v : List V) (held : List Int) : (freeL v held).length = v.length := freeN_len ..
theorem freeN_succ {v : List V} {held : List Int} {k p : Nat} (c : k < held.length) (he : held[k] = (p : Int)) : freeN v held (k + 1) = (freeN v held k).set p (0, 0, 0) := by
  unfold freeN
  rw [fold_succ c, he, Int.toNat_natCast]
theorem freeN_zero (v : List V) (held : List Int) : freeN v held 0 = v := rfl
theorem c_freed (v : List V) (held : List Int) (hl : v.length ≤ 64) (hh : held.length ≤ 1048576) (hp : ∀ p ∈ held, 0 ≤ p ∧ p < v.length) : Fun Tryz.prog 64 [.view false (cVs v) v.length, .view false (cIs held) held.length] [] (.slc 0 0 v.length 3) [.blk true false 41 (cVs (freeL v held))] := by
  refine FnSpec.walk dr_ok Tryz.func64 rfl (by kernel_rfl) rfl rfl rfl (by simp) ?_
  simp
  refine ⟨by omega, by omega, ?_⟩
  refine loopG_of (α := Nat) (fun k => k ≤ held.length) (fun k => held.length - k) (fun k => [(13, .int .i64 k), (12, .int .i64 held.length), (11, .view false (cIs held) held.length), (5, .slc 0 0 v.length 3)])
    (fun k => [.blk true false 41 (cVs (freeN v held k))]) 0 (by simp) ?_ fun k hk => ?_
  · (refine weak_gc [(some 0, 0)] ?_ ?_ ?_ ?_ ?_ <;> simp [freeN_zero])
  have hw := nat_wrap (k := k) (by omega)
  by_cases c : k < held.length
  · have hpk := hp _ (List.getElem_mem c)
    obtain ⟨p, he⟩ : ∃ p : Nat, held[k] = (p : Int) := ⟨held[k].toNat, by omega⟩
    rw [he] at hpk
    have hpv : p < v.length := by omega
    have hsu := freeN_succ (v := v) c he
    have hll := freeN_len v held k
    generalize freeN v held k = O at *
    simp [c, he, hw, hpv, hll]
    refine ⟨by omega, loopK_next (k + 1) (by omega) (by omega) ?_⟩
    rw [hsu]
    (refine weak_gc [(some 0, 0)] ?_ ?_ ?_ ?_ ?_ <;> simp [hw])
  · obtain rfl : k = held.length := by omega
    simp
    (refine endG_keepT [(some 0, 0)] ?_ ?_ ?_ ?_ ?_ ?_ ?_ ⟨rfl, rfl⟩ ?_ <;> simp [freeL])
theorem c_l09Freed (v : List V) (held : List Int) (hl : v.length ≤ 64) (hh : held.length ≤ 1048576) (hp : ∀ p ∈ held, 0 ≤ p ∧ p < v.length) : Fun Tryz.prog 62 [.view false (cVs v) v.length, .view false (cIs held) held.length] [] (.slc 0 0 v.length 3) [.blk true false 41 (cVs (freeL v held))] := by
  refine FnSpec.walk dr_ok Tryz.func62 rfl (by kernel_rfl) rfl rfl rfl (by simp) ?_
  simp
  refine ⟨by omega, by omega, ?_⟩
  refine loopG_of (α := Nat) (fun k => k ≤ held.length) (fun k => held.length - k) (fun k => [(12, .int .i64 k), (11, .int .i64 held.length), (1, .view false (cIs held) held.length), (5, .slc 0 0 v.length 3)])
    (fun k => [.blk true false 41 (cVs (freeN v held k))]) 0 (by simp) ?_ fun k hk => ?_
  · (refine weak_gc [(some 0, 0)] ?_ ?_ ?_ ?_ ?_ <;> simp [freeN_zero])
  have hw := nat_wrap (k := k) (by omega)
  by_cases c : k < held.length
  · have hpk := hp _ (List.getElem_mem c)
    obtain ⟨p, he⟩ : ∃ p : Nat, held[k] = (p : Int) := ⟨held[k].toNat, by omega⟩
    rw [he] at hpk
    have hpv : p < v.length := by omega
    have hsu := freeN_succ (v := v) c he
    have hll := freeN_len v held k
    generalize freeN v held k = O at *
    simp [c, he, hw, hpv, hll]
    refine ⟨by omega, loopK_next (k + 1) (by omega) (by omega) ?_⟩
    rw [hsu]
    (refine weak_gc [(some 0, 0)] ?_ ?_ ?_ ?_ ?_ <;> simp [hw])
  · obtain rfl : k = held.length := by omega
    simp
    (refine endG_keepT [(some 0, 0)] ?_ ?_ ?_ ?_ ?_ ?_ ?_ ⟨rfl, rfl⟩ ?_ <;> simp [freeL])
def innN (a b : List V) (k : Nat) : Nat := (List.range k).foldl (fun x i => fop .add .f32 x (vinner (a.getD i (0, 0, 0)) (b.getD i (0, 0, 0)))) 0
def innL (a b : List V) : Nat := innN a b a.length
theorem innN_succ {a b : List V} {k : Nat} (h : k < a.length) (h2 : k < b.length) : innN a b (k + 1) = fop .add .f32 (innN a b k) (vinner a[k] b[k]) := by
  unfold innN
  rw [foldr_succ]
  simp only [List.getD_eq_getElem?_getD, List.getElem?_eq_getElem h, List.getElem?_eq_getElem h2, Option.getD_some]
theorem innN_zero (a b : List V) : innN a b 0 = 0 := rfl
theorem c_innerAll (a b : List V) (n : Nat) (hn : b.length = n) (h : a.length = n) (hl : n ≤ 64) : Fun Tryz.prog 96 [.view false (cVs a) n, .view false (cVs b) n] [] (.flt .f32 (innL a b)) [] := by
  subst hn
  refine FnSpec.walkF dr_ok Tryz.func96 rfl (by kernel_rfl) rfl rfl rfl (by simp) ?_
  simp
  refine loopG_of (α := Nat) (fun k => k ≤ a.length) (fun k => a.length - k) (fun k => [(10, .int .i64 k), (9, .int .i64 b.length), (8, .view false (cVs a) b.length), (1, .view false (cVs b) b.length), (5, .flt .f32 (innN a b k))])
    (fun k => []) 0 (by simp) ?_ fun k hk => ?_
  · (refine weak_gc [] ?_ ?_ ?_ ?_ ?_ <;> simp [innN_zero])
  have hw := nat_wrap (k := k) (by omega)
  by_cases c : k < a.length
  · have c2 : k < b.length := by omega
    have hsu := innN_succ c c2
    simp [c, c2, hw]
    (first | refine callG_r ?_ | refine callD_r ?_); simp; (first | refine callN_flat (by with_reducible first | exact c_inner _ _ _ _ _ _) rfl ?_ | refine callN_new (by with_reducible first | exact c_inner _ _ _ _ _ _) ?_ | refine callM_flat (by with_reducible first | exact c_inner _ _ _ _ _ _) rfl ?_ | refine callM_new (by with_reducible first | exact c_inner _ _ _ _ _ _) ?_)
    simp [hw]
    refine loopK_next (k + 1) (by omega) (by omega) ?_
    rw [hsu]
    (refine weak_gc [] ?_ ?_ ?_ ?_ ?_ <;> simp [hw])
  · obtain rfl : k = a.length := by omega
    simp [innL, h]
theorem c_l05Inner (a b : List V) (n : Nat) (hn : b.length = n) (h : a.length = n) (hl : n ≤ 64) : Fun Tryz.prog 95 [.view false (cVs a) n, .view false (cVs b) n] [] (.flt .f32 (innL a b)) [] := by
  subst hn
  refine FnSpec.walkF dr_ok Tryz.func95 rfl (by kernel_rfl) rfl rfl rfl (by simp) ?_
  simp
  refine loopG_of (α := Nat) (fun k => k ≤ a.length) (fun k => a.length - k) (fun k => [(9, .int .i64 k), (8, .int .i64 b.length), (0, .view false (cVs a) b.length), (1, .view false (cVs b) b.length), (5, .flt .f32 (innN a b k))])
    (fun k => []) 0 (by simp) ?_ fun k hk => ?_
  · (refine weak_gc [] ?_ ?_ ?_ ?_ ?_ <;> simp [innN_zero])
  have hw := nat_wrap (k := k) (by omega)
  by_cases c : k < a.length
  · have c2 : k < b.length := by omega
    have hsu := innN_succ c c2
    simp [c, c2, hw]
    (first | refine callG_r ?_ | refine callD_r ?_); simp; (first | refine callN_flat (by with_reducible first | exact c_l01Inner _ _ _ _ _ _) rfl ?_ | refine callN_new (by with_reducible first | exact c_l01Inner _ _ _ _ _ _) ?_ | refine callM_flat (by with_reducible first | exact c_l01Inner _ _ _ _ _ _) rfl ?_ | refine callM_new (by with_reducible first | exact c_l01Inner _ _ _ _ _ _) ?_)
    simp [hw]
    refine loopK_next (k + 1) (by omega) (by omega) ?_
    rw [hsu]
    (refine weak_gc [] ?_ ?_ ?_ ?_ ?_ <;> simp [hw])
  · obtain rfl : k = a.length := by omega
    simp [innL, h]
@[simp] theorem cVs_one (x y z : Nat) : splice (cVs [(0, 0, 0)]) 0 [.flt .f32 x, .flt .f32 y, .flt .f32 z] = cVs [(x, y, z)] := rfl
@[simp] theorem cVs_one_take (v : V) : (cVs [v]).take 3 = cVs [v] := rfl
def timN (f g : List V) (by_ : Nat) (k : Nat) : List V := (List.range k).map fun i => vscale (vsub (f.getD i (0, 0, 0)) (g.getD i (0, 0, 0))) by_
@[simp] theorem timN_len (f g : List V) (by_ k : Nat) : (timN f g by_ k).length = k := by simp [timN]
theorem timN_succ {f g : List V} {by_ k : Nat} (h : k < f.length) (h2 : k < g.length) : timN f g by_ (k + 1) = timN f g by_ k ++ [vscale (vsub f[k] g[k]) by_] := by
  unfold timN
  rw [List.range_succ, List.map_append]
  simp only [List.map_cons, List.map_nil, List.getD_eq_getElem?_getD, List.getElem?_eq_getElem h, List.getElem?_eq_getElem h2, Option.getD_some]
/-- What the stiffness of a body makes of a list. -/
def timB (b : Bod) (held : List Int) (v : List V) (step : Nat) : List V :=
  freeL (timN (frcB (movB b v (fneg .f32 step))) (frcB (movB b v step)) (fop .quo .f32 1065353216 (fop .mul .f32 1073741824 step)) v.length) held
@[simp] theorem timB_len (b : Bod) (held : List Int) (v : List V) (step : Nat) : (timB b held v step).length = v.length := by simp [timB]
theorem vldB_mov {b : Bod} {v : List V} {s : Nat} (hv : vldB b = true) (hl : v.length = b.me.pl.length) : vldB (movB b v s) = true := by
  have h := movP_len (s := s) hl
  unfold vldB vldM movB at *
  simp only [h]
  exact hv
theorem small_mov {b : Bod} {v : List V} {s : Nat} (hs : b.Small) (hl : v.length = b.me.pl.length) : (movB b v s).Small := by
  have h := movP_len (s := s) hl
  obtain ⟨⟨h1, h2⟩, h3, h4⟩ := hs
  exact ⟨⟨by simp only [movB]; omega, h2⟩, h3, h4⟩
theorem movB_pl {b : Bod} {v : List V} {s : Nat} (hl : v.length = b.me.pl.length) : (movB b v s).me.pl.length = b.me.pl.length := movP_len hl
theorem c_stiffTimes (b : Bod) (held : List Int) (v : List V) (step : Nat) (hs : b.Small) (hv : vldB b = true) (hl : v.length = b.me.pl.length) (hh : held.length ≤ 1048576) (hp : ∀ p ∈ held, 0 ≤ p ∧ p < b.me.pl.length) :
    Fun Tryz.prog 66 [b.av, .view false (cIs held) held.length, .view false (cVs v) v.length, .flt .f32 step] [] (.slc 0 0 v.length 3) [.blk true false 41 (cVs (timB b held v step))] := by
  obtain ⟨hm, hpl, htr, hsp, hww⟩ := vldB_of hv
  have m1 := movB_pl (b := b) (s := fneg .f32 step) hl
  have m2 := movB_pl (b := b) (s := step) hl
  refine FnSpec.walk dr_ok Tryz.func66 rfl (by kernel_rfl) rfl rfl rfl (by simp) ?_
  simp
  (first | refine callG_r ?_ | refine callD_r ?_); simp; (first | refine callN_flat (by with_reducible first | exact c_moved b v _ hs hpl htr hl) rfl ?_ | refine callN_new (by with_reducible first | exact c_moved b v _ hs hpl htr hl) ?_ | refine callM_flat (by with_reducible first | exact c_moved b v _ hs hpl htr hl) rfl ?_ | refine callM_new (by with_reducible first | exact c_moved b v _ hs hpl htr hl) ?_)
  simp
  (first | refine callG_r ?_ | refine callD_r ?_); simp; (first | refine callN_flat (by with_reducible first | exact c_forcesOf (movB b v (fneg .f32 step)) (small_mov hs hl) (vldB_mov hv hl)) rfl ?_ | refine callN_new (by with_reducible first | exact c_forcesOf (movB b v (fneg .f32 step)) (small_mov hs hl) (vldB_mov hv hl)) ?_ | refine callM_flat (by with_reducible first | exact c_forcesOf (movB b v (fneg .f32 step)) (small_mov hs hl) (vldB_mov hv hl)) rfl ?_ | refine callM_new (by with_reducible first | exact c_forcesOf (movB b v (fneg .f32 step)) (small_mov hs hl) (vldB_mov hv hl)) ?_)
  simp
  (first | refine callG_r ?_ | refine callD_r ?_); simp; (first | refine callN_flat (by with_reducible first | exact c_moved b v _ hs hpl htr hl) rfl ?_ | refine callN_new (by with_reducible first | exact c_moved b v _ hs hpl htr hl) ?_ | refine callM_flat (by with_reducible first | exact c_moved b v _ hs hpl htr hl) rfl ?_ | refine callM_new (by with_reducible first | exact c_moved b v _ hs hpl htr hl) ?_)
  simp
  (first | refine callG_r ?_ | refine callD_r ?_); simp; (first | refine callN_flat (by with_reducible first | exact c_forcesOf (movB b v step) (small_mov hs hl) (vldB_mov hv hl)) rfl ?_ | refine callN_new (by with_reducible first | exact c_forcesOf (movB b v step) (small_mov hs hl) (vldB_mov hv hl)) ?_ | refine callM_flat (by with_reducible first | exact c_forcesOf (movB b v step) (small_mov hs hl) (vldB_mov hv hl)) rfl ?_ | refine callM_new (by with_reducible first | exact c_forcesOf (movB b v step) (small_mov hs hl) (vldB_mov hv hl)) ?_)
  simp
  unfold timB
  have f1 : (frcB (movB b v (fneg .f32 step))).length = v.length := by rw [frcB_len]; omega
  have f2 : (frcB (movB b v step)).length = v.length := by rw [frcB_len]; omega
  rw [m1, m2]
  generalize frcB (movB b v (fneg .f32 step)) = F at *
  generalize frcB (movB b v step) = G at *
  generalize fop .quo .f32 1065353216 (fop .mul .f32 1073741824 step) = B at *
  refine loopG_of (α := Nat) (fun k => k ≤ v.length) (fun k => v.length - k) (fun k => [(31, .int .i64 k), (30, .int .i64 v.length), (29, .view false (cVs v) v.length), (12, .slc 3 0 k 3), (11, .flt .f32 B), (10, .slc 2 0 b.me.pl.length 3), (9, .slc 1 0 b.me.pl.length 3), (1, .view false (cIs held) held.length)])
    (fun k => [.blk true true 43 b.cells, .blk true false 41 (cVs F), .blk true false 41 (cVs G), .blk true false 41 (cVs (timN F G B k))]) 0 (by simp) ?_ fun k hk => ?_
  · (refine weak_gc [(some 0, 0), (some 5, 0), (some 10, 0), (none, 41)] ?_ ?_ ?_ ?_ ?_ <;> simp [timN])
  have hw := nat_wrap (k := k) (by omega)
  by_cases c : k < v.length
  · have c1 : k < F.length := by omega
    have c2 : k < G.length := by omega
    have c3 : k < b.me.pl.length := by omega
    have hsu := timN_succ (by_ := B) c1 c2
    have hll := timN_len F G B k
    generalize timN F G B k = O at *
    simp [c, c1, c2, c3, hw, hll, f1, f2]
    (first | refine callG_r ?_ | refine callD_r ?_); simp; (first | refine callN_flat (by with_reducible first | exact c_less _ _ _ _ _ _) rfl ?_ | refine callN_new (by with_reducible first | exact c_less _ _ _ _ _ _) ?_ | refine callM_flat (by with_reducible first | exact c_less _ _ _ _ _ _) rfl ?_ | refine callM_new (by with_reducible first | exact c_less _ _ _ _ _ _) ?_)
    simp [c, c1, c2, c3, hw, hll, f1, f2]
    (first | refine callG_r ?_ | refine callD_r ?_); simp; (first | refine callN_flat (by with_reducible first | exact c_scale _ _ _ _) rfl ?_ | refine callN_new (by with_reducible first | exact c_scale _ _ _ _) ?_ | refine callM_flat (by with_reducible first | exact c_scale _ _ _ _) rfl ?_ | refine callM_new (by with_reducible first | exact c_scale _ _ _ _) ?_)
    have htk : O.take k = O := List.take_of_length_le (by omega)
    simp [c, c1, c2, c3, hw, hll, f1, f2, htk]
    refine ⟨by omega, by omega, ?_⟩
    refine loopK_next (k + 1) (by omega) (by omega) ?_
    rw [hsu]
    (refine weak_gc [(some 0, 0), (some 1, 0), (some 2, 0), (some 5, 0)] ?_ ?_ ?_ ?_ ?_ <;> simp [hw])
  · obtain rfl : k = v.length := by omega
    simp
    have hnl : (timN F G B v.length).length = v.length := by simp
    generalize timN F G B v.length = O at *
    have key := c_freed O held (by omega) hh (by rw [hnl, hl]; exact hp)
    rw [hnl] at key
    have htk : O.take v.length = O := List.take_of_length_le (by omega)
    (first | refine callG_r ?_ | refine callD_r ?_)
    simp [htk]
    refine callN_new key ?_
    simp
    (refine endG_keepT [(some 4, 0)] ?_ ?_ ?_ ?_ ?_ ?_ ?_ ⟨rfl, rfl⟩ ?_ <;> simp)
theorem c_l09Times (b : Bod) (rest : List AV) (held : List Int) (v : List V) (step : Nat) (hs : b.Small) (hv : vldB b = true) (hl : v.length = b.me.pl.length) (hh : held.length ≤ 1048576) (hp : ∀ p ∈ held, 0 ≤ p ∧ p < b.me.pl.length) :
    Fun Tryz.prog 65 [b.vp rest, .view false (cIs held) held.length, .view false (cVs v) v.length, .flt .f32 step] [] (.slc 0 0 v.length 3) [.blk true false 41 (cVs (timB b held v step))] := by
  obtain ⟨hm, hpl, htr, hsp, hww⟩ := vldB_of hv
  have m1 := movB_pl (b := b) (s := fneg .f32 step) hl
  have m2 := movB_pl (b := b) (s := step) hl
  refine FnSpec.walk dr_ok Tryz.func65 rfl (by kernel_rfl) rfl rfl rfl (by simp) ?_
  simp
  (first | refine callG_r ?_ | refine callD_r ?_); simp; (first | refine callN_flat (by with_reducible first | exact c_l03Moved b _ v _ hs hpl htr hl) rfl ?_ | refine callN_new (by with_reducible first | exact c_l03Moved b _ v _ hs hpl htr hl) ?_ | refine callM_flat (by with_reducible first | exact c_l03Moved b _ v _ hs hpl htr hl) rfl ?_ | refine callM_new (by with_reducible first | exact c_l03Moved b _ v _ hs hpl htr hl) ?_)
  simp
  (first | refine callG_r ?_ | refine callD_r ?_); simp; (first | refine callN_flat (by with_reducible first | exact c_l03Moved b _ v _ hs hpl htr hl) rfl ?_ | refine callN_new (by with_reducible first | exact c_l03Moved b _ v _ hs hpl htr hl) ?_ | refine callM_flat (by with_reducible first | exact c_l03Moved b _ v _ hs hpl htr hl) rfl ?_ | refine callM_new (by with_reducible first | exact c_l03Moved b _ v _ hs hpl htr hl) ?_)
  simp
  (first | refine callG_r ?_ | refine callD_r ?_); simp; (first | refine callN_flat (by with_reducible first | exact c_l03Forces (movB b v (fneg .f32 step)) _ (small_mov hs hl) (vldB_mov hv hl)) rfl ?_ | refine callN_new (by with_reducible first | exact c_l03Forces (movB b v (fneg .f32 step)) _ (small_mov hs hl) (vldB_mov hv hl)) ?_ | refine callM_flat (by with_reducible first | exact c_l03Forces (movB b v (fneg .f32 step)) _ (small_mov hs hl) (vldB_mov hv hl)) rfl ?_ | refine callM_new (by with_reducible first | exact c_l03Forces (movB b v (fneg .f32 step)) _ (small_mov hs hl) (vldB_mov hv hl)) ?_)
  simp
  (first | refine callG_r ?_ | refine callD_r ?_); simp; (first | refine callN_flat (by with_reducible first | exact c_l03Forces (movB b v step) _ (small_mov hs hl) (vldB_mov hv hl)) rfl ?_ | refine callN_new (by with_reducible first | exact c_l03Forces (movB b v step) _ (small_mov hs hl) (vldB_mov hv hl)) ?_ | refine callM_flat (by with_reducible first | exact c_l03Forces (movB b v step) _ (small_mov hs hl) (vldB_mov hv hl)) rfl ?_ | refine callM_new (by with_reducible first | exact c_l03Forces (movB b v step) _ (small_mov hs hl) (vldB_mov hv hl)) ?_)
  simp
  unfold timB
  have f1 : (frcB (movB b v (fneg .f32 step))).length = v.length := by rw [frcB_len]; omega
  have f2 : (frcB (movB b v step)).length = v.length := by rw [frcB_len]; omega
  rw [m1, m2]
  generalize frcB (movB b v (fneg .f32 step)) = F at *
  generalize frcB (movB b v step) = G at *
  generalize fop .quo .f32 1065353216 (fop .mul .f32 1073741824 step) = B at *
  refine loopG_of (α := Nat) (fun k => k ≤ v.length) (fun k => v.length - k) (fun k => [(33, .int .i64 k), (32, .int .i64 b.me.pl.length), (14, .slc 2 0 k 3), (13, .flt .f32 B), (12, .slc 1 0 b.me.pl.length 3), (11, .slc 0 0 b.me.pl.length 3), (1, .view false (cIs held) held.length)])
    (fun k => [.blk true false 41 (cVs F), .blk true false 41 (cVs G), .blk true false 41 (cVs (timN F G B k))]) 0 (by simp) ?_ fun k hk => ?_
  · (refine weak_gc [(some 10, 0), (some 11, 0), (none, 41)] ?_ ?_ ?_ ?_ ?_ <;> simp [timN])
  have hw := nat_wrap (k := k) (by omega)
  by_cases c : k < v.length
  · have c1 : k < F.length := by omega
    have c2 : k < G.length := by omega
    have c3 : k < b.me.pl.length := by omega
    have hsu := timN_succ (by_ := B) c1 c2
    have hll := timN_len F G B k
    generalize timN F G B k = O at *
    simp [c, c1, c2, c3, hw, hll, f1, f2]
    (first | refine callG_r ?_ | refine callD_r ?_); simp; (first | refine callN_flat (by with_reducible first | exact c_l01Less _ _ _ _ _ _) rfl ?_ | refine callN_new (by with_reducible first | exact c_l01Less _ _ _ _ _ _) ?_ | refine callM_flat (by with_reducible first | exact c_l01Less _ _ _ _ _ _) rfl ?_ | refine callM_new (by with_reducible first | exact c_l01Less _ _ _ _ _ _) ?_)
    simp [c, c1, c2, c3, hw, hll, f1, f2]
    (first | refine callG_r ?_ | refine callD_r ?_); simp; (first | refine callN_flat (by with_reducible first | exact c_l01Scale _ _ _ _) rfl ?_ | refine callN_new (by with_reducible first | exact c_l01Scale _ _ _ _) ?_ | refine callM_flat (by with_reducible first | exact c_l01Scale _ _ _ _) rfl ?_ | refine callM_new (by with_reducible first | exact c_l01Scale _ _ _ _) ?_)
    have htk : O.take k = O := List.take_of_length_le (by omega)
    simp [c, c1, c2, c3, hw, hll, f1, f2, htk]
    refine ⟨by omega, by omega, ?_⟩
    refine loopK_next (k + 1) (by omega) (by omega) ?_
    rw [hsu]
    (refine weak_gc [(some 0, 0), (some 1, 0), (some 4, 0)] ?_ ?_ ?_ ?_ ?_ <;> simp [hw])
  · obtain rfl : k = v.length := by omega
    have c3 : ¬ (v.length < b.me.pl.length) := by omega
    simp [c3]
    have hnl : (timN F G B v.length).length = v.length := by simp
    generalize timN F G B v.length = O at *
    have key := c_l09Freed O held (by omega) hh (by rw [hnl, hl]; exact hp)
    rw [hnl] at key
    have htk : O.take v.length = O := List.take_of_length_le (by omega)
    (first | refine callG_r ?_ | refine callD_r ?_)
    simp [htk]
    refine callN_new key ?_
    simp
    (refine endG_keepT [(some 3, 0)] ?_ ?_ ?_ ?_ ?_ ?_ ?_ ⟨rfl, rfl⟩ ?_ <;> simp)
end Go.Proofs.YtnpflgeenecaeaaGreat
namespace Go.Proofs.YtnpflgeenecaeaaGreat
set_option linter.all false
open Go Go.Awp
set_option maxRecDepth 100000
set_option maxHeartbeats 4000000
set_option pp.deepTerms true

@[simp] theorem freeL_take (v : List V) (held : List Int) : (freeL v held).take v.length = freeL v held := List.take_of_length_le (by simp)
@[simp] theorem timB_take (b : Bod) (held : List Int) (v : List V) (step : Nat) : (timB b held v step).take v.length = timB b held v step := List.take_of_length_le (by simp)
@[simp] theorem timB_takeF (b : Bod) (held : List Int) (v : List V) (step : Nat) : (timB b held (freeL v held) step).take v.length = timB b held (freeL v held) step := List.take_of_length_le (by simp)
def canB (b : Bod) (held : List Int) (v : List V) (step : Nat) : Bool := vldH b held && decide (v.length = b.me.pl.length) && overB step
theorem c_areFor (b : Bod) (held : List Int) (v : List V) (step : Nat) (hs : b.Small) (hh : held.length ≤ 1048576) (hl : v.length ≤ 1048576) : Fun Tryz.prog 52 [b.av, .view false (cIs held) held.length, .view false (cVs v) v.length, .flt .f32 step] [] (.bool (canB b held v step)) [] := by
  refine FnSpec.walkF dr_ok Tryz.func52 rfl (by kernel_rfl) rfl rfl rfl (by simp) ?_
  simp
  (first | refine callG_r ?_ | refine callD_r ?_); simp; (first | refine callN_flat (by with_reducible first | exact c_IsHeld b held hs hh) rfl ?_ | refine callN_new (by with_reducible first | exact c_IsHeld b held hs hh) ?_ | refine callM_flat (by with_reducible first | exact c_IsHeld b held hs hh) rfl ?_ | refine callM_new (by with_reducible first | exact c_IsHeld b held hs hh) ?_)
  simp
  refine ⟨fun a1 => ⟨fun a2 => ?_, fun a2 => ?_⟩, fun a1 => ?_⟩
  · (first | refine callG_r ?_ | refine callD_r ?_); simp; (first | refine callN_flat (by with_reducible first | exact c_isOver _) rfl ?_ | refine callN_new (by with_reducible first | exact c_isOver _) ?_ | refine callM_flat (by with_reducible first | exact c_isOver _) rfl ?_ | refine callM_new (by with_reducible first | exact c_isOver _) ?_)
    simp [canB, a1]
    omega
  · simp [canB]
    omega
  · simp [canB, a1]
theorem c_l09Can (b : Bod) (rest : List AV) (held : List Int) (v : List V) (step : Nat) (hs : b.Small) (hh : held.length ≤ 1048576) (hl : v.length ≤ 1048576) : Fun Tryz.prog 44 [b.vp rest, .view false (cIs held) held.length, .view false (cVs v) v.length, .flt .f32 step] [] (.bool (canB b held v step)) [] := by
  refine FnSpec.walkF dr_ok Tryz.func44 rfl (by kernel_rfl) rfl rfl rfl (by simp) ?_
  simp
  (first | refine callG_r ?_ | refine callD_r ?_); simp; (first | refine callN_flat (by with_reducible first | exact c_l03Is b _ hs) rfl ?_ | refine callN_new (by with_reducible first | exact c_l03Is b _ hs) ?_ | refine callM_flat (by with_reducible first | exact c_l03Is b _ hs) rfl ?_ | refine callM_new (by with_reducible first | exact c_l03Is b _ hs) ?_)
  simp
  refine ⟨fun a1 => ?_, fun a1 => by simp [canB, vldH, a1]⟩
  (first | refine callG_r ?_ | refine callD_r ?_); simp; (first | refine callN_flat (by with_reducible first | exact c_l05Held b _ held (vldB_pl a1) hh) rfl ?_ | refine callN_new (by with_reducible first | exact c_l05Held b _ held (vldB_pl a1) hh) ?_ | refine callM_flat (by with_reducible first | exact c_l05Held b _ held (vldB_pl a1) hh) rfl ?_ | refine callM_new (by with_reducible first | exact c_l05Held b _ held (vldB_pl a1) hh) ?_)
  simp
  refine ⟨fun a2 => ⟨fun a3 => ?_, fun a3 => ?_⟩, fun a2 => ?_⟩
  · (first | refine callG_r ?_ | refine callD_r ?_); simp; (first | refine callN_flat (by with_reducible first | exact c_l03Positive _) rfl ?_ | refine callN_new (by with_reducible first | exact c_l03Positive _) ?_ | refine callM_flat (by with_reducible first | exact c_l03Positive _) rfl ?_ | refine callM_new (by with_reducible first | exact c_l03Positive _) ?_)
    simp [canB, vldH, a1, a2]
    omega
  · simp [canB, vldH, a1, a2]
    omega
  · simp [canB, vldH, a1, a2]
structure CanB (b : Bod) (held : List Int) (v : List V) (step : Nat) : Prop where
  vb : vldB b = true
  pins : ∀ p ∈ held, 0 ≤ p ∧ p < b.me.pl.length
  len : v.length = b.me.pl.length
  step : overB step = true
theorem canB_of {b : Bod} {held : List Int} {v : List V} {step : Nat} (h : canB b held v step = true) : CanB b held v step := by
  unfold canB vldH at h
  simp only [Bool.and_eq_true, decide_eq_true_eq] at h
  exact ⟨h.1.1.1, pins_mem (by omega) h.1.1.2, h.1.2, h.2⟩
def posB (x : Nat) : Bool := ford .f32 x 0 == some .gt
def rayL (b : Bod) (held : List Int) (v : List V) (step : Nat) : Nat := if posB (innL v v) then fop .quo .f32 (innL v (timB b held v step)) (innL v v) else 0
theorem c_rayleigh (b : Bod) (held : List Int) (v : List V) (step : Nat) (hs : b.Small) (hv : vldB b = true) (hl : v.length = b.me.pl.length) (hh : held.length ≤ 1048576) (hp : ∀ p ∈ held, 0 ≤ p ∧ p < b.me.pl.length) :
    Fun Tryz.prog 63 [b.av, .view false (cIs held) held.length, .view false (cVs v) v.length, .flt .f32 step] [] (.tup [.flt .f32 (rayL b held v step), .bool (posB (innL v v))]) [] := by
  have hpl := (vldB_of hv).pl
  refine FnSpec.walkF dr_ok Tryz.func63 rfl (by kernel_rfl) rfl rfl rfl (by simp) ?_
  simp
  (first | refine callG_r ?_ | refine callD_r ?_); simp; (first | refine callN_flat (by with_reducible first | exact c_innerAll v v _ rfl rfl (by omega)) rfl ?_ | refine callN_new (by with_reducible first | exact c_innerAll v v _ rfl rfl (by omega)) ?_ | refine callM_flat (by with_reducible first | exact c_innerAll v v _ rfl rfl (by omega)) rfl ?_ | refine callM_new (by with_reducible first | exact c_innerAll v v _ rfl rfl (by omega)) ?_)
  simp
  refine ⟨fun g => ?_, fun g => ?_⟩
  · have hg : posB (innL v v) = false := by simpa [posB] using g
    simp [rayL, hg]
  · have hg : posB (innL v v) = true := by simpa [posB] using g
    (first | refine callG_r ?_ | refine callD_r ?_); simp; (first | refine callN_flat (by with_reducible first | exact c_stiffTimes b held v step hs hv hl hh hp) rfl ?_ | refine callN_new (by with_reducible first | exact c_stiffTimes b held v step hs hv hl hh hp) ?_ | refine callM_flat (by with_reducible first | exact c_stiffTimes b held v step hs hv hl hh hp) rfl ?_ | refine callM_new (by with_reducible first | exact c_stiffTimes b held v step hs hv hl hh hp) ?_)
    simp
    (first | refine callG_r ?_ | refine callD_r ?_); simp; (first | refine callN_flat (by with_reducible first | exact c_innerAll v (timB b held v step) _ (by simp) rfl (by omega)) rfl ?_ | refine callN_new (by with_reducible first | exact c_innerAll v (timB b held v step) _ (by simp) rfl (by omega)) ?_ | refine callM_flat (by with_reducible first | exact c_innerAll v (timB b held v step) _ (by simp) rfl (by omega)) rfl ?_ | refine callM_new (by with_reducible first | exact c_innerAll v (timB b held v step) _ (by simp) rfl (by omega)) ?_)
    simp [rayL, hg]
theorem c_l09Rayleigh (b : Bod) (rest : List AV) (held : List Int) (v : List V) (step : Nat) (hs : b.Small) (hv : vldB b = true) (hl : v.length = b.me.pl.length) (hh : held.length ≤ 1048576) (hp : ∀ p ∈ held, 0 ≤ p ∧ p < b.me.pl.length) :
    Fun Tryz.prog 61 [b.vp rest, .view false (cIs held) held.length, .view false (cVs v) v.length, .flt .f32 step] [] (.tup [.flt .f32 (rayL b held v step), .bool (posB (innL v v))]) [] := by
  have hpl := (vldB_of hv).pl
  refine FnSpec.walkF dr_ok Tryz.func61 rfl (by kernel_rfl) rfl rfl rfl (by simp) ?_
  simp
  (first | refine callG_r ?_ | refine callD_r ?_); simp; (first | refine callN_flat (by with_reducible first | exact c_l05Inner v v _ rfl rfl (by omega)) rfl ?_ | refine callN_new (by with_reducible first | exact c_l05Inner v v _ rfl rfl (by omega)) ?_ | refine callM_flat (by with_reducible first | exact c_l05Inner v v _ rfl rfl (by omega)) rfl ?_ | refine callM_new (by with_reducible first | exact c_l05Inner v v _ rfl rfl (by omega)) ?_)
  simp
  refine ⟨fun g => ?_, fun g => ?_⟩
  · have hg : posB (innL v v) = false := by simpa [posB] using g
    simp [rayL, hg]
  · have hg : posB (innL v v) = true := by simpa [posB] using g
    (first | refine callG_r ?_ | refine callD_r ?_); simp; (first | refine callN_flat (by with_reducible first | exact c_l09Times b _ held v step hs hv hl hh hp) rfl ?_ | refine callN_new (by with_reducible first | exact c_l09Times b _ held v step hs hv hl hh hp) ?_ | refine callM_flat (by with_reducible first | exact c_l09Times b _ held v step hs hv hl hh hp) rfl ?_ | refine callM_new (by with_reducible first | exact c_l09Times b _ held v step hs hv hl hh hp) ?_)
    simp
    (first | refine callG_r ?_ | refine callD_r ?_); simp; (first | refine callN_flat (by with_reducible first | exact c_l05Inner v (timB b held v step) _ (by simp) rfl (by omega)) rfl ?_ | refine callN_new (by with_reducible first | exact c_l05Inner v (timB b held v step) _ (by simp) rfl (by omega)) ?_ | refine callM_flat (by with_reducible first | exact c_l05Inner v (timB b held v step) _ (by simp) rfl (by omega)) rfl ?_ | refine callM_new (by with_reducible first | exact c_l05Inner v (timB b held v step) _ (by simp) rfl (by omega)) ?_)
    simp [rayL, hg]
-- StiffTimes, RayleighOf
theorem c_StiffTimes (b : Bod) (held : List Int) (v : List V) (step : Nat) (hs : b.Small) (hh : held.length ≤ 1048576) (hl : v.length ≤ 1048576) (hc : canB b held v step = true) :
    Fun Tryz.prog 29 [b.av, .view false (cIs held) held.length, .view false (cVs v) v.length, .flt .f32 step] [] (.tup [.slc 0 0 v.length 3, .bool true]) [.blk true false 41 (cVs (timB b held (freeL v held) step))] := by
  obtain ⟨hv, hp, hlen, hst⟩ := canB_of hc
  have hpl := (vldB_of hv).pl
  refine FnSpec.walk dr_ok Tryz.func29 rfl (by kernel_rfl) rfl rfl rfl (by simp) ?_
  simp
  (first | refine callG_r ?_ | refine callD_r ?_); simp; (first | refine callN_flat (by with_reducible first | exact c_areFor b held v step hs hh hl) rfl ?_ | refine callN_new (by with_reducible first | exact c_areFor b held v step hs hh hl) ?_ | refine callM_flat (by with_reducible first | exact c_areFor b held v step hs hh hl) rfl ?_ | refine callM_new (by with_reducible first | exact c_areFor b held v step hs hh hl) ?_)
  simp [hc]
  (first | refine callG_r ?_ | refine callD_r ?_); simp; (first | refine callN_flat (by with_reducible first | exact c_freed v held (by omega) hh (by rw [hlen]; exact hp)) rfl ?_ | refine callN_new (by with_reducible first | exact c_freed v held (by omega) hh (by rw [hlen]; exact hp)) ?_ | refine callM_flat (by with_reducible first | exact c_freed v held (by omega) hh (by rw [hlen]; exact hp)) rfl ?_ | refine callM_new (by with_reducible first | exact c_freed v held (by omega) hh (by rw [hlen]; exact hp)) ?_)
  simp
  have key := c_stiffTimes b held (freeL v held) step hs hv (by simp [hlen]) hh hp
  rw [freeL_len] at key
  (first | refine callG_r ?_ | refine callD_r ?_); simp; (first | refine callN_flat (by with_reducible first | exact key) rfl ?_ | refine callN_new (by with_reducible first | exact key) ?_ | refine callM_flat (by with_reducible first | exact key) rfl ?_ | refine callM_new (by with_reducible first | exact key) ?_)
  simp
  (refine endG_keepT [(some 2, 0)] ?_ ?_ ?_ ?_ ?_ ?_ ?_ ⟨rfl, rfl⟩ ?_ <;> simp)
theorem c_StiffTimes0 (b : Bod) (held : List Int) (v : List V) (step : Nat) (hs : b.Small) (hh : held.length ≤ 1048576) (hl : v.length ≤ 1048576) (hc : canB b held v step = false) :
    Fun Tryz.prog 29 [b.av, .view false (cIs held) held.length, .view false (cVs v) v.length, .flt .f32 step] [] (.tup [.nils, .bool false]) [] := by
  refine FnSpec.walk dr_ok Tryz.func29 rfl (by kernel_rfl) rfl rfl rfl (by simp) ?_
  simp
  (first | refine callG_r ?_ | refine callD_r ?_); simp; (first | refine callN_flat (by with_reducible first | exact c_areFor b held v step hs hh hl) rfl ?_ | refine callN_new (by with_reducible first | exact c_areFor b held v step hs hh hl) ?_ | refine callM_flat (by with_reducible first | exact c_areFor b held v step hs hh hl) rfl ?_ | refine callM_new (by with_reducible first | exact c_areFor b held v step hs hh hl) ?_)
  simp [hc]
  (refine endG_keepT [] ?_ ?_ ?_ ?_ ?_ ?_ ?_ ⟨rfl, rfl⟩ ?_ <;> simp)
theorem c_specStiffTimes (b : Bod) (held : List Int) (v : List V) (step : Nat) (hs : b.Small) (hh : held.length ≤ 1048576) (hl : v.length ≤ 1048576) (hc : canB b held v step = true) :
    Fun Tryz.prog 28 [b.av, .view false (cIs held) held.length, .view false (cVs v) v.length, .flt .f32 step] [] (.tup [.slc 0 0 v.length 3, .bool true]) [.blk true false 41 (cVs (timB b held (freeL v held) step))] := by
  obtain ⟨hv, hp, hlen, hst⟩ := canB_of hc
  have hpl := (vldB_of hv).pl
  refine FnSpec.walk dr_ok Tryz.func28 rfl (by kernel_rfl) rfl rfl rfl (by simp) ?_
  simp
  (first | refine callG_r ?_ | refine callD_r ?_); simp; (first | refine callN_flat (by with_reducible first | exact c_l09Can b _ held v step hs hh hl) rfl ?_ | refine callN_new (by with_reducible first | exact c_l09Can b _ held v step hs hh hl) ?_ | refine callM_flat (by with_reducible first | exact c_l09Can b _ held v step hs hh hl) rfl ?_ | refine callM_new (by with_reducible first | exact c_l09Can b _ held v step hs hh hl) ?_)
  simp [hc]
  (first | refine callG_r ?_ | refine callD_r ?_); simp; (first | refine callN_flat (by with_reducible first | exact c_l09Freed v held (by omega) hh (by rw [hlen]; exact hp)) rfl ?_ | refine callN_new (by with_reducible first | exact c_l09Freed v held (by omega) hh (by rw [hlen]; exact hp)) ?_ | refine callM_flat (by with_reducible first | exact c_l09Freed v held (by omega) hh (by rw [hlen]; exact hp)) rfl ?_ | refine callM_new (by with_reducible first | exact c_l09Freed v held (by omega) hh (by rw [hlen]; exact hp)) ?_)
  simp
  have key := c_l09Times b [] held (freeL v held) step hs hv (by simp [hlen]) hh hp
  rw [freeL_len] at key
  (first | refine callG_r ?_ | refine callD_r ?_); simp; (first | refine callN_flat (by with_reducible first | exact key) rfl ?_ | refine callN_new (by with_reducible first | exact key) ?_ | refine callM_flat (by with_reducible first | exact key) rfl ?_ | refine callM_new (by with_reducible first | exact key) ?_)
  simp
  (refine endG_keepT [(some 2, 0)] ?_ ?_ ?_ ?_ ?_ ?_ ?_ ⟨rfl, rfl⟩ ?_ <;> simp)
theorem c_specStiffTimes0 (b : Bod) (held : List Int) (v : List V) (step : Nat) (hs : b.Small) (hh : held.length ≤ 1048576) (hl : v.length ≤ 1048576) (hc : canB b held v step = false) :
    Fun Tryz.prog 28 [b.av, .view false (cIs held) held.length, .view false (cVs v) v.length, .flt .f32 step] [] (.tup [.nils, .bool false]) [] := by
  refine FnSpec.walk dr_ok Tryz.func28 rfl (by kernel_rfl) rfl rfl rfl (by simp) ?_
  simp
  (first | refine callG_r ?_ | refine callD_r ?_); simp; (first | refine callN_flat (by with_reducible first | exact c_l09Can b _ held v step hs hh hl) rfl ?_ | refine callN_new (by with_reducible first | exact c_l09Can b _ held v step hs hh hl) ?_ | refine callM_flat (by with_reducible first | exact c_l09Can b _ held v step hs hh hl) rfl ?_ | refine callM_new (by with_reducible first | exact c_l09Can b _ held v step hs hh hl) ?_)
  simp [hc]
  (refine endG_keepT [] ?_ ?_ ?_ ?_ ?_ ?_ ?_ ⟨rfl, rfl⟩ ?_ <;> simp)
def rayO (b : Bod) (held : List Int) (v : List V) (step : Nat) : Nat := if canB b held v step then rayL b held (freeL v held) step else 0
def rayK (b : Bod) (held : List Int) (v : List V) (step : Nat) : Bool := canB b held v step && posB (innL (freeL v held) (freeL v held))
theorem c_RayleighOf (b : Bod) (held : List Int) (v : List V) (step : Nat) (hs : b.Small) (hh : held.length ≤ 1048576) (hl : v.length ≤ 1048576) :
    Fun Tryz.prog 25 [b.av, .view false (cIs held) held.length, .view false (cVs v) v.length, .flt .f32 step] [] (.tup [.flt .f32 (rayO b held v step), .bool (rayK b held v step)]) [] := by
  refine FnSpec.walkF dr_ok Tryz.func25 rfl (by kernel_rfl) rfl rfl rfl (by simp) ?_
  simp
  (first | refine callG_r ?_ | refine callD_r ?_); simp; (first | refine callN_flat (by with_reducible first | exact c_areFor b held v step hs hh hl) rfl ?_ | refine callN_new (by with_reducible first | exact c_areFor b held v step hs hh hl) ?_ | refine callM_flat (by with_reducible first | exact c_areFor b held v step hs hh hl) rfl ?_ | refine callM_new (by with_reducible first | exact c_areFor b held v step hs hh hl) ?_)
  simp
  refine ⟨fun hc => by simp [rayO, rayK, hc], fun hc => ?_⟩
  obtain ⟨hv, hp, hlen, hst⟩ := canB_of hc
  have hpl := (vldB_of hv).pl
  (first | refine callG_r ?_ | refine callD_r ?_); simp; (first | refine callN_flat (by with_reducible first | exact c_freed v held (by omega) hh (by rw [hlen]; exact hp)) rfl ?_ | refine callN_new (by with_reducible first | exact c_freed v held (by omega) hh (by rw [hlen]; exact hp)) ?_ | refine callM_flat (by with_reducible first | exact c_freed v held (by omega) hh (by rw [hlen]; exact hp)) rfl ?_ | refine callM_new (by with_reducible first | exact c_freed v held (by omega) hh (by rw [hlen]; exact hp)) ?_)
  simp
  have key := c_rayleigh b held (freeL v held) step hs hv (by simp [hlen]) hh hp
  rw [freeL_len] at key
  (first | refine callG_r ?_ | refine callD_r ?_); simp; (first | refine callN_flat (by with_reducible first | exact key) rfl ?_ | refine callN_new (by with_reducible first | exact key) ?_ | refine callM_flat (by with_reducible first | exact key) rfl ?_ | refine callM_new (by with_reducible first | exact key) ?_)
  simp [rayO, rayK, hc]
theorem c_specRayleighOf (b : Bod) (held : List Int) (v : List V) (step : Nat) (hs : b.Small) (hh : held.length ≤ 1048576) (hl : v.length ≤ 1048576) :
    Fun Tryz.prog 23 [b.av, .view false (cIs held) held.length, .view false (cVs v) v.length, .flt .f32 step] [] (.tup [.flt .f32 (rayO b held v step), .bool (rayK b held v step)]) [] := by
  refine FnSpec.walkF dr_ok Tryz.func23 rfl (by kernel_rfl) rfl rfl rfl (by simp) ?_
  simp
  (first | refine callG_r ?_ | refine callD_r ?_); simp; (first | refine callN_flat (by with_reducible first | exact c_l09Can b _ held v step hs hh hl) rfl ?_ | refine callN_new (by with_reducible first | exact c_l09Can b _ held v step hs hh hl) ?_ | refine callM_flat (by with_reducible first | exact c_l09Can b _ held v step hs hh hl) rfl ?_ | refine callM_new (by with_reducible first | exact c_l09Can b _ held v step hs hh hl) ?_)
  simp
  refine ⟨fun hc => by simp [rayO, rayK, hc], fun hc => ?_⟩
  obtain ⟨hv, hp, hlen, hst⟩ := canB_of hc
  have hpl := (vldB_of hv).pl
  (first | refine callG_r ?_ | refine callD_r ?_); simp; (first | refine callN_flat (by with_reducible first | exact c_l09Freed v held (by omega) hh (by rw [hlen]; exact hp)) rfl ?_ | refine callN_new (by with_reducible first | exact c_l09Freed v held (by omega) hh (by rw [hlen]; exact hp)) ?_ | refine callM_flat (by with_reducible first | exact c_l09Freed v held (by omega) hh (by rw [hlen]; exact hp)) rfl ?_ | refine callM_new (by with_reducible first | exact c_l09Freed v held (by omega) hh (by rw [hlen]; exact hp)) ?_)
  simp
  have key := c_l09Rayleigh b [] held (freeL v held) step hs hv (by simp [hlen]) hh hp
  rw [freeL_len] at key
  (first | refine callG_r ?_ | refine callD_r ?_); simp; (first | refine callN_flat (by with_reducible first | exact key) rfl ?_ | refine callN_new (by with_reducible first | exact key) ?_ | refine callM_flat (by with_reducible first | exact key) rfl ?_ | refine callM_new (by with_reducible first | exact key) ?_)
  simp [rayO, rayK, hc]
end Go.Proofs.YtnpflgeenecaeaaGreat
