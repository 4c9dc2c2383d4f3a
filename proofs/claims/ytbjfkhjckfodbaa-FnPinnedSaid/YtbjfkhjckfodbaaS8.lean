/- Contracts: copies of cloths. Contracts: cloths moved. Contracts: cloths that are handed on when they are valid; roots of which less is told. Contracts: pins; cloths over a floor. Contracts: cloths that fall. Contracts: threads that pull.
Conditions: none. -/
import Derived.Test.YtbjfkhjckfodbaaS7
import Derived.Test.YtbjfkhjckfodbaaNea
namespace Go.Proofs.Ytbjfkhjckfodbaa
set_option linter.all false
open Go Go.Awp
set_option maxRecDepth 100000
set_option maxHeartbeats 4000000
set_option pp.deepTerms false
set_option pp.deepTerms.threshold 8

theorem c_copyCloth (c : Clo) (hs : c.Small) : Fun Try.prog 50 [c.av] [] (c.own 0) c.mem := by
  obtain ⟨h1, h2, h3, h4⟩ := hs
  refine FnSpec.walk dr_ok Try.func50 rfl (by kernel_rfl) rfl rfl rfl (by simp) ?_
  simp
  refine ⟨by omega, by omega, by omega, by omega, by omega, by omega, by omega, by omega, ?_⟩
  (refine endG_keepT [(some 2, 0), (some 3, 0), (some 4, 0), (some 5, 0)] ?_ ?_ ?_ ?_ ?_ ?_ ?_ ⟨rfl, rfl⟩ ?_ <;> simp)
theorem c_l00Own (l : List Int) (h : l.length ≤ 1048576) : Fun Try.prog 96 [.view false (cIs l) l.length] [] (.slc 0 0 l.length 1) [.blk true false 2 (cIs l)] := by
  refine FnSpec.walk dr_ok Try.func96 rfl (by kernel_rfl) rfl rfl rfl (by simp) ?_
  simp
  refine ⟨by omega, by omega, ?_⟩
  (refine endG_keepT [(some 0, 0)] ?_ ?_ ?_ ?_ ?_ ?_ ?_ ⟨rfl, rfl⟩ ?_ <;> simp)
end Go.Proofs.Ytbjfkhjckfodbaa
namespace Go.Proofs.Ytbjfkhjckfodbaa
set_option linter.all false
open Go Go.Awp
set_option maxRecDepth 100000
set_option maxHeartbeats 4000000
set_option pp.deepTerms false
set_option pp.deepTerms.threshold 8

theorem vld_len {c : Clo} (h : vldC c = true) : c.pl.length ≤ 64 ∧ c.ol.length = c.pl.length ∧ c.th.length ≤ 256 := by
  unfold vldC at h
  simp at h
  omega
def moveC (c : Clo) (d : V) : Clo := { c with pl := c.pl.map (vadd · d), ol := c.ol.map (vadd · d) }
def noC : AV := .agg [.nils, .nils, .nils, .nils]
end Go.Proofs.Ytbjfkhjckfodbaa
namespace Go.Proofs.Ytbjfkhjckfodbaa
set_option linter.all false
open Go Go.Awp
set_option maxRecDepth 100000
set_option maxHeartbeats 4000000
set_option pp.deepTerms true

section
variable {P : Program}
/-- Roots of which less is told. -/
def Cut (H H' : Heap) : Prop := H'.length = H.length ∧ ∀ (r : Nat), (∀ new box e cells, H'[r]? = some (.blk new box e cells) → ∃ c0, H[r]? = some (.blk new box e c0) ∧ cells <+: c0 ∧ (box = true → cells = c0)) ∧
  (∀ new box e c0, H[r]? = some (.blk new box e c0) → ∃ cells, H'[r]? = some (.blk new box e cells))
theorem cut_one {n : Bool} {e : TypeId} {c t : List AV} : Cut [.blk n false e (c ++ t)] [.blk n false e c] := by
  refine ⟨rfl, fun r => ?_⟩
  cases r with
  | zero =>
    refine ⟨fun new box e' cells h => ?_, fun new box e' c0 h => ?_⟩
    · simp at h; obtain ⟨rfl, rfl, rfl, rfl⟩ := h
      exact ⟨_, rfl, List.prefix_append _ _, fun h => by cases h⟩
    · simp at h; obtain ⟨rfl, rfl, rfl, rfl⟩ := h
      exact ⟨_, rfl⟩
  | succ r => exact ⟨fun _ _ _ _ h => by simp at h, fun _ _ _ _ h => by simp at h⟩
theorem mut_cut {map : Nat → Option (Option (Nat × Nat))} {H H' : Heap} (h : Cut H H') : mutOf map H' = mutOf map H := by
  funext b
  refine propext ⟨?_, ?_⟩
  · rintro ⟨r, N, nw, bx, e, cells, h1, h2⟩
    obtain ⟨c0, h3, _⟩ := (h.2 r).1 _ _ _ _ h1
    exact ⟨r, N, nw, bx, e, c0, h3, h2⟩
  · rintro ⟨r, N, nw, bx, e, c0, h1, h2⟩
    obtain ⟨cells, h3⟩ := (h.2 r).2 _ _ _ _ h1
    exact ⟨r, N, nw, bx, e, cells, h3, h2⟩
theorem env_cut {map : Nat → Option (Option (Nat × Nat))} {H H' : Heap} {X : Nat → Prop} {B : Nat} (h : Cut H H') : env map H' X B = env map H X B := by
  unfold env; rw [mut_cut h]
theorem root_cut {w : World} {E : Env} {r : Nat} {nw bx : Bool} {e : TypeId} {c0 c : List AV} (hp : c <+: c0) (hb : bx = true → c = c0) (h : RootRel w E r nw bx e c0) : RootRel w E r nw bx e c := by
  cases bx with
  | true => rw [hb rfl]; exact h
  | false =>
  rcases h with ⟨h1, h2, h3⟩ | ⟨b, N, arr, h1, h2, h3, h4, h5, h6⟩
  · subst h2
    exact .inl ⟨h1, List.prefix_nil.1 hp, h3⟩
  · refine .inr ⟨b, N, arr, h1, h2, ?_, Nat.le_trans hp.length_le h4, h5, fun i a ha => h6 i a ?_⟩
    · cases N with
      | zero => exact absurd h3.1 (by simp)
      | succ N => exact h3
    obtain ⟨t, rfl⟩ := hp
    rw [List.getElem?_append_left (List.getElem?_eq_some_iff.1 ha).1]; exact ha
theorem FnSpec.cut {f : FuncId} {args : List AV} {Hin Hout : Heap} {r : AV} {R : AV → Heap → Prop} (h : FnSpec P f args Hin R) (hr : ∀ av H', R av H' → av = r ∧ Cut H' Hout) : Fun P f args Hin r Hout := by
  intro map w vs X h1 h2 h3 h4
  refine (h map w vs X h1 h2 h3 h4).mono ?_
  rintro v w' ⟨m, av, H', g, g1, g2, g3, g4, g5⟩
  obtain ⟨rfl, hc⟩ := hr _ _ g
  refine ⟨m, av, Hout, ⟨rfl, rfl⟩, by rw [env_cut hc]; exact g1, ?_, fun q nw bx e cells hq hx => ?_, fun q hq => ?_, ?_⟩
  · rw [env_cut hc]
    refine ⟨fun q nw bx e cells hx => ?_, fun q q' b N N' nw nw' bx bx' e e' cells cells' hx hx' => ?_, g2.glob⟩
    · obtain ⟨c0, h5, h6, h7⟩ := (hc.2 q).1 _ _ _ _ hx
      exact root_cut h6 h7 (g2.root _ _ _ _ _ h5)
    · obtain ⟨c0, h5, _⟩ := (hc.2 q).1 _ _ _ _ hx
      obtain ⟨c0', h5', _⟩ := (hc.2 q').1 _ _ _ _ hx'
      exact g2.inj _ _ _ _ _ _ _ _ _ _ _ _ _ h5 h5'
  · obtain ⟨c0, h5, h6, h7⟩ := (hc.2 q).1 _ _ _ _ hx
    obtain ⟨k1, k2⟩ := g3 q nw bx e c0 hq h5
    rw [env_cut hc]
    exact ⟨root_cut h6 h7 k1, k2⟩
  · obtain ⟨nw, bx, e, c0, hx⟩ := g4 q hq
    obtain ⟨cells, hx'⟩ := (hc.2 q).2 _ _ _ _ hx
    exact ⟨_, _, _, _, hx'⟩
  · exact { g5 with
      out := by rw [hc.1]; exact g5.out
      len := by rw [hc.1]; exact g5.len
      old := by rw [mut_cut hc]; exact g5.old }
end

theorem one_splice (x y : Int) (z : Nat) : splice (cTs [(0, 0, 0)]) 0 [.int .i64 x, .int .i64 y, .flt .f32 z] = cTs [(x, y, z)] := rfl
theorem one_take (t : Th) : (cTs [t]).take 3 = cTs [t] := rfl
/-- The four rows of a cloth. -/
abbrev Clo.rows (c : Clo) : Heap := [.blk false false 38 (cVs c.pl), .blk false false 38 (cVs c.ol), .blk false false 33 (cTs c.th), .blk false false 2 (cIs c.pin)]
attribute [simp] Clo.rows
theorem c_validCloth (c : Clo) (hs : c.Small) (hv : vldC c = true) : Fun Try.prog 79 [c.own 0] c.rows (.tup [c.own 0, .bool true]) c.rows := by
  refine FnSpec.walk dr_ok Try.func79 rfl (by kernel_rfl) rfl rfl rfl (by simp) ?_
  simp
  (first | refine callG_r ?_ | refine callD_r ?_); simp; (first | refine callN_flat (by with_reducible first | exact c_ValidCloth c hs) rfl ?_ | refine callN_new (by with_reducible first | exact c_ValidCloth c hs) ?_ | refine callM_flat (by with_reducible first | exact c_ValidCloth c hs) rfl ?_ | refine callM_new (by with_reducible first | exact c_ValidCloth c hs) ?_)
  simp [hv]
  (refine endG_keepT [] ?_ ?_ ?_ ?_ ?_ ?_ ?_ ⟨rfl, rfl⟩ ?_ <;> simp)
theorem c_validCloth0 (c : Clo) (hs : c.Small) (hv : vldC c = false) : Fun Try.prog 79 [c.own 0] c.rows (.tup [noC, .bool false]) c.rows := by
  refine FnSpec.walk dr_ok Try.func79 rfl (by kernel_rfl) rfl rfl rfl (by simp) ?_
  simp
  (first | refine callG_r ?_ | refine callD_r ?_); simp; (first | refine callN_flat (by with_reducible first | exact c_ValidCloth c hs) rfl ?_ | refine callN_new (by with_reducible first | exact c_ValidCloth c hs) ?_ | refine callM_flat (by with_reducible first | exact c_ValidCloth c hs) rfl ?_ | refine callM_new (by with_reducible first | exact c_ValidCloth c hs) ?_)
  simp [hv]
  (refine endG_keepT [] ?_ ?_ ?_ ?_ ?_ ?_ ?_ ⟨rfl, rfl⟩ ?_ <;> simp [noC])
end Go.Proofs.Ytbjfkhjckfodbaa
namespace Go.Proofs.Ytbjfkhjckfodbaa
set_option linter.all false
open Go Go.Awp
set_option maxRecDepth 100000
set_option maxHeartbeats 4000000
set_option pp.deepTerms true

theorem mixN_skip {α : Type} {l' l : List α} {k : Nat} (hl : l'.length = l.length) (h : k < l.length) (he : l'[k] = l[k]) : mixN l' l k = mixN l' l (k + 1) := by
  rw [← mixN_set (v := l'[k]) (by omega) hl rfl, he]
  have : (mixN l' l k)[k]'(by rw [mixN_length k hl]; exact h) = l[k] := mixN_get hl h
  rw [← this, List.set_getElem_self]
/-- For each of n places, whether it is listed. -/
def pinT (n : Nat) (l : List Int) : List Bool := (List.range n).map fun (i : Nat) => decide ((i : Int) ∈ l)
@[simp] theorem pinT_length (n : Nat) (l : List Int) : (pinT n l).length = n := by simp [pinT]
@[simp] theorem pinT_take (n : Nat) (l : List Int) : (pinT n l).take n = pinT n l := List.take_of_length_le (by simp)
theorem pinT_get {n : Nat} {l : List Int} {i : Nat} (h : i < n) : (pinT n l)[i]'(by simpa using h) = decide ((i : Int) ∈ l) := by simp [pinT]
theorem pinT_nil (n : Nat) : pinT n [] = List.replicate n false := by
  apply List.ext_getElem
  · simp
  · intro i h1 h2; simp [pinT]
theorem pinT_set {n : Nat} {l : List Int} {p : Int} (h0 : 0 ≤ p) (h1 : p < n) : (pinT n l).set p.toNat true = pinT n (l ++ [p]) := by
  apply List.ext_getElem
  · simp
  · intro i g1 g2
    rw [List.getElem_set]
    simp only [pinT, List.getElem_map, List.getElem_range, List.mem_append, List.mem_singleton]
    split
    · rename_i e; subst e
      simp; right; omega
    · rename_i e
      congr 1
      apply propext
      constructor
      · exact .inl
      · rintro (h | h)
        · exact h
        · omega
theorem pinsF_mem {n : Int} : ∀ {l : List Int} {a : Int}, -1 ≤ a → pinsF n a l = true → ∀ p ∈ l, 0 ≤ p ∧ p < n
  | [], _, _, _, p, hp => by cases hp
  | q :: l, a, h0, h, p, hp => by
    simp [pinsF, inB] at h
    rcases List.mem_cons.1 hp with rfl | hp
    · omega
    · exact pinsF_mem (a := q) (by omega) h.2 p hp
theorem vld_pins {c : Clo} (h : vldC c = true) : ∀ p ∈ c.pin, 0 ≤ p ∧ p < c.pl.length := by
  unfold vldC at h
  simp only [Bool.and_eq_true] at h
  exact pinsF_mem (Int.le_refl _) h.2
theorem c_pins (c : Clo) (hs : c.Small) (hn : c.pl.length ≤ 64) (hp : ∀ p ∈ c.pin, 0 ≤ p ∧ p < c.pl.length) : Fun Try.prog 52 [c.av] [] (.slc 0 0 c.pl.length 1) [.blk true false 4 (cBs (pinT c.pl.length c.pin))] := by
  obtain ⟨h1, h2, h3, h4⟩ := hs
  refine FnSpec.walk dr_ok Try.func52 rfl (by kernel_rfl) rfl rfl rfl (by simp) ?_
  simp
  refine ⟨by omega, by omega, ?_⟩
  refine loopG_of (α := Nat) (fun k => k ≤ c.pin.length) (fun k => c.pin.length - k) (fun k => [(13, .int .i64 k), (12, .int .i64 c.pin.length), (11, .view false (cIs c.pin) c.pin.length), (3, .slc 1 0 c.pl.length 1)])
    (fun k => [.gone, .blk true false 4 (cBs (pinT c.pl.length (c.pin.take k)))]) 0 (by simp) ?_ fun k hk => ?_
  · rw [List.take_zero, pinT_nil]; (refine weak_gc [(some 0, 0), (some 1, 0)] ?_ ?_ ?_ ?_ ?_ <;> simp)
  have hw := nat_wrap (k := k) (by omega)
  by_cases b : k < c.pin.length
  · obtain ⟨q1, q2⟩ := hp _ (List.getElem_mem b)
    simp [b, hw, q1, q2]
    refine ⟨by omega, loopK_next (k + 1) (by omega) (by omega) ?_⟩
    rw [pinT_set q1 q2, List.take_append_getElem b]
    (refine weak_gc [(some 0, 0), (some 1, 0)] ?_ ?_ ?_ ?_ ?_ <;> simp)
  · obtain rfl : k = c.pin.length := by omega
    simp
    (refine endG_keepT [(some 1, 0)] ?_ ?_ ?_ ?_ ?_ ?_ ?_ ⟨rfl, rfl⟩ ?_ <;> simp)
/-- A cloth over a floor. -/
def floorC (c : Clo) (h : Nat) : Clo := { c with pl := c.pl.mapIdx fun i p => if decide ((i : Int) ∈ c.pin) = false ∧ ford .f32 p.2.2 h = some .lt then (p.1, p.2.1, h) else p }
theorem floorC_small {c : Clo} {h : Nat} (hs : c.Small) : (floorC c h).Small := by
  obtain ⟨h1, h2, h3, h4⟩ := hs
  exact ⟨by simpa [floorC] using h1, h2, h3, h4⟩
end Go.Proofs.Ytbjfkhjckfodbaa
namespace Go.Proofs.Ytbjfkhjckfodbaa
set_option linter.all false
open Go Go.Awp
set_option maxRecDepth 100000
set_option maxHeartbeats 4000000
set_option pp.deepTerms true

/-- A cloth behind a pointer: the cloth's words and its four rows. -/
abbrev Clo.at (nw : Bool) (c : Clo) : Heap := [.blk nw true 28 [.slc 1 0 c.pl.length 3, .slc 2 0 c.ol.length 3, .slc 3 0 c.th.length 3, .slc 4 0 c.pin.length 1],
  .blk nw false 38 (cVs c.pl), .blk nw false 38 (cVs c.ol), .blk nw false 33 (cTs c.th), .blk nw false 2 (cIs c.pin)]
attribute [simp] Clo.at
def v000 : V := (0, 0, 0)
def fallV (c : Clo) (f : V) (k : Nat) (i : Nat) (p : V) : V := vadd (vadd p (vscale (vsub p (c.ol.getD i v000)) k)) f
def fallC (c : Clo) (f : V) (k : Nat) : Clo := { c with
  pl := c.pl.mapIdx fun i p => if decide ((i : Int) ∈ c.pin) = false then fallV c f k i p else p
  ol := c.ol.mapIdx fun i o => if decide ((i : Int) ∈ c.pin) = false then c.pl.getD i v000 else o }
theorem fallC_pl (c : Clo) (f : V) (k : Nat) : (fallC c f k).pl.length = c.pl.length := by simp [fallC]
theorem fallC_ol (c : Clo) (f : V) (k : Nat) : (fallC c f k).ol.length = c.ol.length := by simp [fallC]
theorem c_fall (c : Clo) (f : V) (q : Nat) (hs : c.Small) (hn : c.pl.length ≤ 64) (ho : c.ol.length = c.pl.length) (hp : ∀ p ∈ c.pin, 0 ≤ p ∧ p < c.pl.length) :
    Fun Try.prog 60 [.ptr 0 0, aV f, .flt .f32 q] (c.at false) (.tup []) ((fallC c f q).at false) := by
  refine FnSpec.walk dr_ok Try.func60 rfl (by kernel_rfl) rfl rfl rfl (by simp) ?_
  simp
  (first | refine callG_r ?_ | refine callD_r ?_); simp; (first | refine callN_flat (by with_reducible first | exact c_pins c hs hn hp) rfl ?_ | refine callN_new (by with_reducible first | exact c_pins c hs hn hp) ?_ | refine callM_flat (by with_reducible first | exact c_pins c hs hn hp) rfl ?_ | refine callM_new (by with_reducible first | exact c_pins c hs hn hp) ?_)
  simp
  have hlp := fallC_pl c f q
  have hlo := fallC_ol c f q
  refine loopG_of (α := Nat) (fun k => k ≤ c.pl.length) (fun k => c.pl.length - k) (fun k => [(14, .int .i64 k), (13, .int .i64 c.pl.length), (12, .slc 6 0 c.pl.length 1), (0, .ptr 0 0), (2, .flt .f32 q), (4, .ptr 5 0)])
    (fun k => [.blk false true 28 [.slc 1 0 c.pl.length 3, .slc 2 0 c.ol.length 3, .slc 3 0 c.th.length 3, .slc 4 0 c.pin.length 1],
      .blk false false 38 (cVs (mixN (fallC c f q).pl c.pl k)), .blk false false 38 (cVs (mixN (fallC c f q).ol c.ol k)), .blk false false 33 (cTs c.th), .blk false false 2 (cIs c.pin),
      .blk true true 38 [.flt .f32 f.1, .flt .f32 f.2.1, .flt .f32 f.2.2], .blk true false 4 (cBs (pinT c.pl.length c.pin))]) 0 (by simp) ?_ fun k hk => ?_
  · (refine weak_gc [(some 5, 0), (some 6, 0)] ?_ ?_ ?_ ?_ ?_ <;> simp)
  have hw := nat_wrap (k := k) (by omega)
  have hm := mixN_length k hlp
  have hm2 := mixN_length k hlo
  by_cases b : k < c.pl.length
  · have b2 : k < c.ol.length := by omega
    simp [b, b2, hw, hm, hm2, pinT_get, mixN_get hlp b, mixN_get hlo b2]
    refine ⟨fun e1 => ?_, fun e1 => loopK_next (k + 1) (by omega) (by omega) ?_⟩
    · (first | refine callG_r ?_ | refine callD_r ?_); simp; (first | refine callN_flat (by with_reducible first | exact c_less _ _ _ _ _ _) rfl ?_ | refine callN_new (by with_reducible first | exact c_less _ _ _ _ _ _) ?_ | refine callM_flat (by with_reducible first | exact c_less _ _ _ _ _ _) rfl ?_ | refine callM_new (by with_reducible first | exact c_less _ _ _ _ _ _) ?_)
      simp [b, b2, hw, hm, hm2, mixN_get hlp b, mixN_get hlo b2]
      (first | refine callG_r ?_ | refine callD_r ?_); simp; (first | refine callN_flat (by with_reducible first | exact c_scale _ _ _ _) rfl ?_ | refine callN_new (by with_reducible first | exact c_scale _ _ _ _) ?_ | refine callM_flat (by with_reducible first | exact c_scale _ _ _ _) rfl ?_ | refine callM_new (by with_reducible first | exact c_scale _ _ _ _) ?_)
      simp [b, b2, hw, hm, hm2, mixN_get hlp b, mixN_get hlo b2]
      (first | refine callG_r ?_ | refine callD_r ?_); simp; (first | refine callN_flat (by with_reducible first | exact c_add _ _ _ _ _ _) rfl ?_ | refine callN_new (by with_reducible first | exact c_add _ _ _ _ _ _) ?_ | refine callM_flat (by with_reducible first | exact c_add _ _ _ _ _ _) rfl ?_ | refine callM_new (by with_reducible first | exact c_add _ _ _ _ _ _) ?_)
      simp [b, b2, hw, hm, hm2, mixN_get hlp b, mixN_get hlo b2]
      (first | refine callG_r ?_ | refine callD_r ?_); simp; (first | refine callN_flat (by with_reducible first | exact c_add _ _ _ _ _ _) rfl ?_ | refine callN_new (by with_reducible first | exact c_add _ _ _ _ _ _) ?_ | refine callM_flat (by with_reducible first | exact c_add _ _ _ _ _ _) rfl ?_ | refine callM_new (by with_reducible first | exact c_add _ _ _ _ _ _) ?_)
      simp [b, b2, hw, hm, hm2, mixN_get hlp b, mixN_get hlo b2]
      refine ⟨by omega, by omega, loopK_next (k + 1) (by omega) (by omega) ?_⟩
      rw [mixN_set (by omega) hlp (by simp [fallC, fallV, e1, b2]), mixN_set (by omega) hlo (by simp [fallC, e1, b])]
      (refine weak_gc [(some 5, 0), (some 6, 0)] ?_ ?_ ?_ ?_ ?_ <;> simp)
    · rw [← mixN_skip hlp b (by simp [fallC, e1]), ← mixN_skip hlo b2 (by simp [fallC, e1])]
      (refine weak_gc [(some 5, 0), (some 6, 0)] ?_ ?_ ?_ ?_ ?_ <;> simp)
  · obtain rfl : k = c.pl.length := by omega
    rw [mixN_all (by omega) (by omega), mixN_all (by omega) (by omega)]
    simp
    (refine endG_keepT [] ?_ ?_ ?_ ?_ ?_ ?_ ?_ ⟨rfl, rfl⟩ ?_ <;> simp [fallC])
end Go.Proofs.Ytbjfkhjckfodbaa
namespace Go.Proofs.Ytbjfkhjckfodbaa
set_option linter.all false
open Go Go.Awp
set_option maxRecDepth 100000
set_option maxHeartbeats 4000000
set_option pp.deepTerms true

def two : Nat := 1073741824
/-- A thread pulls its places. -/
def pullA (c : Clo) (t : Th) : V := c.pl.getD t.1.toNat v000
def pullB (c : Clo) (t : Th) : V := c.pl.getD t.2.1.toNat v000
def pullV (c : Clo) (t : Th) : V := vsub (pullB c t) (pullA c t)
def pullS (c : Clo) (t : Th) : Nat := fop .quo .f32 (fop .sub .f32 (vlong (pullV c t)) t.2.2) (vlong (pullV c t))
def pullQ (c : Clo) (t : Th) : Nat := if t.1 ∉ c.pin ∧ t.2.1 ∉ c.pin then fop .mul .f32 1056964608 (pullS c t) else pullS c t
def pull1 (c : Clo) (t : Th) : List V := if t.1 ∉ c.pin then c.pl.set t.1.toNat (vadd (pullA c t) (vscale (pullV c t) (pullQ c t))) else c.pl
def pull2 (c : Clo) (t : Th) : List V := if t.2.1 ∉ c.pin then (pull1 c t).set t.2.1.toNat (vsub (pullB c t) (vscale (pullV c t) (pullQ c t))) else pull1 c t
def pullC (c : Clo) (t : Th) : Clo := if ford .f32 (vlong (pullV c t)) 0 = some .eq ∨ finB (pullS c t) = false then c else { c with pl := pull2 c t }
theorem pullC_pl (c : Clo) (t : Th) : (pullC c t).pl.length = c.pl.length := by
  unfold pullC pull2 pull1
  split
  · rfl
  · dsimp only
    split <;> split <;> simp
theorem pullC_rest (c : Clo) (t : Th) : (pullC c t).ol = c.ol ∧ (pullC c t).th = c.th ∧ (pullC c t).pin = c.pin := by
  unfold pullC
  split <;> exact ⟨rfl, rfl, rfl⟩
/-- A thread of places. -/
def ThOk (n : Nat) (t : Th) : Prop := 0 ≤ t.1 ∧ t.1 < n ∧ 0 ≤ t.2.1 ∧ t.2.1 < n ∧ t.1 ≠ t.2.1
theorem vld_th {c : Clo} (h : vldC c = true) : ∀ t ∈ c.th, ThOk c.pl.length t := by
  intro t ht
  unfold vldC at h
  simp only [Bool.and_eq_true, List.all_eq_true] at h
  have := h.1.2 t ht
  simp [thrB, inB] at this
  unfold ThOk
  omega
theorem pullC_at {c : Clo} {a b lg : Nat} (b1 : a < c.pl.length) (b2 : b < c.pl.length) : pullA c (a, b, lg) = c.pl[a] ∧ pullB c (a, b, lg) = c.pl[b] ∧ pullV c (a, b, lg) = vsub c.pl[b] c.pl[a] ∧
    pullS c (a, b, lg) = fop .quo .f32 (fop .sub .f32 (vlong (vsub c.pl[b] c.pl[a])) lg) (vlong (vsub c.pl[b] c.pl[a])) := by
  have h1 : pullA c (a, b, lg) = c.pl[a] := by simp [pullA, b1]
  have h2 : pullB c (a, b, lg) = c.pl[b] := by simp [pullB, b2]
  have h3 : pullV c (a, b, lg) = vsub c.pl[b] c.pl[a] := by simp [pullV, h1, h2]
  exact ⟨h1, h2, h3, by simp [pullS, h3]⟩
theorem c_pull (c : Clo) (t : Th) (n m : Nat) (hs : c.Small) (hn : n = c.pl.length) (hm : m = c.pl.length) (ht : ThOk c.pl.length t) :
    Fun Try.prog 51 [.ptr 0 0, aT t, .view false (cBs (pinT m c.pin)) n] (c.at false) (.tup []) ((pullC c t).at false) := by
  subst hn; subst hm
  obtain ⟨q1, q2, q3, q4, q5⟩ := ht
  obtain ⟨A, B, lg⟩ := t
  simp only at q1 q2 q3 q4 q5
  obtain ⟨a, rfl⟩ := Int.eq_ofNat_of_zero_le q1
  obtain ⟨b, rfl⟩ := Int.eq_ofNat_of_zero_le q3
  have b1 : a < c.pl.length := by omega
  have b2 : b < c.pl.length := by omega
  have ne : a ≠ b := by omega
  obtain ⟨e1, e2, e3, e4⟩ := pullC_at (lg := lg) b1 b2
  refine FnSpec.walk dr_ok Try.func51 rfl (by kernel_rfl) rfl rfl rfl (by simp) ?_
  simp [b1, b2]
  (first | refine callG_r ?_ | refine callD_r ?_); simp; (first | refine callN_flat (by with_reducible first | exact c_less _ _ _ _ _ _) rfl ?_ | refine callN_new (by with_reducible first | exact c_less _ _ _ _ _ _) ?_ | refine callM_flat (by with_reducible first | exact c_less _ _ _ _ _ _) rfl ?_ | refine callM_new (by with_reducible first | exact c_less _ _ _ _ _ _) ?_)
  simp [b1, b2]
  (first | refine callG_r ?_ | refine callD_r ?_); simp; (first | refine callN_flat (by with_reducible first | exact c_long _ _ _) rfl ?_ | refine callN_new (by with_reducible first | exact c_long _ _ _) ?_ | refine callM_flat (by with_reducible first | exact c_long _ _ _) rfl ?_ | refine callM_new (by with_reducible first | exact c_long _ _ _) ?_)
  simp [b1, b2]
  refine ⟨fun z => ?_, fun z => ?_⟩
  · (first | refine callG_r ?_ | refine callD_r ?_); simp; (first | refine callN_flat (by with_reducible first | exact c_isFinite _) rfl ?_ | refine callN_new (by with_reducible first | exact c_isFinite _) ?_ | refine callM_flat (by with_reducible first | exact c_isFinite _) rfl ?_ | refine callM_new (by with_reducible first | exact c_isFinite _) ?_)
    rw [← e4, ← e3]
    rw [← e3] at z
    simp [b1, b2, pinT_get]
    by_cases hf : finB (pullS c (a, b, lg)) = true
    · have hC : pullC c (a, b, lg) = { c with pl := pull2 c (a, b, lg) } := by
        unfold pullC; rw [if_neg (by rw [hf]; simp [z])]
      rw [hC]
      by_cases p1 : (a : Int) ∈ c.pin
      · by_cases p2 : (b : Int) ∈ c.pin
        · have hp : pull2 c (a, b, lg) = c.pl := by simp [pull2, pull1, p1, p2]
          rw [hp]
          simp [hf, p1, p2, b1, b2, pinT_get]
          (refine endG_keepT [] ?_ ?_ ?_ ?_ ?_ ?_ ?_ ⟨rfl, rfl⟩ ?_ <;> simp)
        · have hp : pull2 c (a, b, lg) = c.pl.set b (vsub c.pl[b] (vscale (pullV c (a, b, lg)) (pullS c (a, b, lg)))) := by simp [pull2, pull1, pullQ, p1, p2, e2]
          rw [hp]
          simp [hf, p1, p2, b1, b2, pinT_get]
          (first | refine callG_r ?_ | refine callD_r ?_); simp; (first | refine callN_flat (by with_reducible first | exact c_scale _ _ _ _) rfl ?_ | refine callN_new (by with_reducible first | exact c_scale _ _ _ _) ?_ | refine callM_flat (by with_reducible first | exact c_scale _ _ _ _) rfl ?_ | refine callM_new (by with_reducible first | exact c_scale _ _ _ _) ?_)
          simp [b1, b2]
          (first | refine callG_r ?_ | refine callD_r ?_); simp; (first | refine callN_flat (by with_reducible first | exact c_less _ _ _ _ _ _) rfl ?_ | refine callN_new (by with_reducible first | exact c_less _ _ _ _ _ _) ?_ | refine callM_flat (by with_reducible first | exact c_less _ _ _ _ _ _) rfl ?_ | refine callM_new (by with_reducible first | exact c_less _ _ _ _ _ _) ?_)
          simp [b1, b2]
          refine ⟨by omega, ?_⟩
          (refine endG_keepT [] ?_ ?_ ?_ ?_ ?_ ?_ ?_ ⟨rfl, rfl⟩ ?_ <;> simp)
      · by_cases p2 : (b : Int) ∈ c.pin
        · have hp : pull2 c (a, b, lg) = c.pl.set a (vadd c.pl[a] (vscale (pullV c (a, b, lg)) (pullS c (a, b, lg)))) := by simp [pull2, pull1, pullQ, p1, p2, e1]
          rw [hp]
          simp [hf, p1, p2, b1, b2, pinT_get]
          (first | refine callG_r ?_ | refine callD_r ?_); simp; (first | refine callN_flat (by with_reducible first | exact c_scale _ _ _ _) rfl ?_ | refine callN_new (by with_reducible first | exact c_scale _ _ _ _) ?_ | refine callM_flat (by with_reducible first | exact c_scale _ _ _ _) rfl ?_ | refine callM_new (by with_reducible first | exact c_scale _ _ _ _) ?_)
          simp [b1, b2]
          (first | refine callG_r ?_ | refine callD_r ?_); simp; (first | refine callN_flat (by with_reducible first | exact c_add _ _ _ _ _ _) rfl ?_ | refine callN_new (by with_reducible first | exact c_add _ _ _ _ _ _) ?_ | refine callM_flat (by with_reducible first | exact c_add _ _ _ _ _ _) rfl ?_ | refine callM_new (by with_reducible first | exact c_add _ _ _ _ _ _) ?_)
          simp [b1, b2, p1, p2, pinT_get]
          refine ⟨by omega, ?_⟩
          (refine endG_keepT [] ?_ ?_ ?_ ?_ ?_ ?_ ?_ ⟨rfl, rfl⟩ ?_ <;> simp)
        · have hp : pull2 c (a, b, lg) = (c.pl.set a (vadd c.pl[a] (vscale (pullV c (a, b, lg)) (fop .mul .f32 1056964608 (pullS c (a, b, lg)))))).set b (vsub c.pl[b] (vscale (pullV c (a, b, lg)) (fop .mul .f32 1056964608 (pullS c (a, b, lg))))) := by simp [pull2, pull1, pullQ, p1, p2, e1, e2]
          rw [hp]
          simp [hf, p1, p2, b1, b2, pinT_get, fop_half]
          (first | refine callG_r ?_ | refine callD_r ?_); simp; (first | refine callN_flat (by with_reducible first | exact c_scale _ _ _ _) rfl ?_ | refine callN_new (by with_reducible first | exact c_scale _ _ _ _) ?_ | refine callM_flat (by with_reducible first | exact c_scale _ _ _ _) rfl ?_ | refine callM_new (by with_reducible first | exact c_scale _ _ _ _) ?_)
          simp [b1, b2]
          (first | refine callG_r ?_ | refine callD_r ?_); simp; (first | refine callN_flat (by with_reducible first | exact c_add _ _ _ _ _ _) rfl ?_ | refine callN_new (by with_reducible first | exact c_add _ _ _ _ _ _) ?_ | refine callM_flat (by with_reducible first | exact c_add _ _ _ _ _ _) rfl ?_ | refine callM_new (by with_reducible first | exact c_add _ _ _ _ _ _) ?_)
          simp [b1, b2, p1, p2, pinT_get]
          refine ⟨by omega, ?_⟩
          (first | refine callG_r ?_ | refine callD_r ?_); simp; (first | refine callN_flat (by with_reducible first | exact c_scale _ _ _ _) rfl ?_ | refine callN_new (by with_reducible first | exact c_scale _ _ _ _) ?_ | refine callM_flat (by with_reducible first | exact c_scale _ _ _ _) rfl ?_ | refine callM_new (by with_reducible first | exact c_scale _ _ _ _) ?_)
          simp [b1, b2]
          (first | refine callG_r ?_ | refine callD_r ?_); simp; (first | refine callN_flat (by with_reducible first | exact c_less _ _ _ _ _ _) rfl ?_ | refine callN_new (by with_reducible first | exact c_less _ _ _ _ _ _) ?_ | refine callM_flat (by with_reducible first | exact c_less _ _ _ _ _ _) rfl ?_ | refine callM_new (by with_reducible first | exact c_less _ _ _ _ _ _) ?_)
          simp [b1, b2]
          refine ⟨by omega, ?_⟩
          (refine endG_keepT [] ?_ ?_ ?_ ?_ ?_ ?_ ?_ ⟨rfl, rfl⟩ ?_ <;> simp [fop_half])
    · have hC : pullC c (a, b, lg) = c := by
        unfold pullC; rw [if_pos (.inr (by simpa using hf))]
      rw [hC]
      simp [hf]
      (refine endG_keepT [] ?_ ?_ ?_ ?_ ?_ ?_ ?_ ⟨rfl, rfl⟩ ?_ <;> simp)
  · have hC : pullC c (a, b, lg) = c := by
      unfold pullC; rw [if_pos (.inl (by rw [e3]; exact z))]
    rw [hC]
    (refine endG_keepT [] ?_ ?_ ?_ ?_ ?_ ?_ ?_ ⟨rfl, rfl⟩ ?_ <;> simp)
end Go.Proofs.Ytbjfkhjckfodbaa
