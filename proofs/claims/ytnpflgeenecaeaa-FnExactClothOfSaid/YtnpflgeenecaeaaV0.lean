/- Contracts: copies of cloths. Contracts: cloths moved. Contracts: cloths that are handed on when they are valid; roots of which less is told.
Conditions: none. -/
import Derived.Test.YtnpflgeenecaeaaK2
namespace Go.Proofs.Ytnpflgeenecaeaa
set_option linter.all false
open Go Go.Awp
set_option maxRecDepth 100000
set_option maxHeartbeats 4000000
set_option pp.deepTerms false
set_option pp.deepTerms.threshold 8

end Go.Proofs.Ytnpflgeenecaeaa
namespace Go.Proofs.Ytnpflgeenecaeaa
set_option linter.all false
open Go Go.Awp
set_option maxRecDepth 100000
set_option maxHeartbeats 4000000
set_option pp.deepTerms false
set_option pp.deepTerms.threshold 8

theorem vld_len {c : Clo} (h : vldC c = true) : c.pl.length ≤ 64 ∧ c.ol.length = c.pl.length ∧ c.th.length ≤ 256 := by
  unfold vldC at h
  simp at h
  omega
def moveC (c : Clo) (d : V) : Clo := { c with pl := c.pl.map (vadd · d), ol := c.ol.map (vadd · d) }
def noC : AV := .agg [.nils, .nils, .nils, .nils]
end Go.Proofs.Ytnpflgeenecaeaa
namespace Go.Proofs.Ytnpflgeenecaeaa
set_option linter.all false
open Go Go.Awp
set_option maxRecDepth 100000
set_option maxHeartbeats 4000000
set_option pp.deepTerms true

section
variable {P : Program}
/-- Roots of which less is told. -/
def Cut (H H' : Heap) : Prop := H'.length = H.length ∧ ∀ (r : Nat), (∀ new box e cells, H'[r]? = some (.blk new box e cells) → ∃ c0, H[r]? = some (.blk new box e c0) ∧ cells <+: c0 ∧ (box = true → cells = c0)) ∧
  (∀ new box e c0, H[r]? = some (.blk new box e c0) → ∃ cells, H'[r]? = some (.blk new box e cells))
theorem cut_one {n : Bool} {e : TypeId} {c t : List AV} : Cut [.blk n false e (c ++ t)] [.blk n false e c] := by
  refine ⟨rfl, fun r => ?_⟩
  cases r with
  | zero =>
    refine ⟨fun new box e' cells h => ?_, fun new box e' c0 h => ?_⟩
    · simp at h; obtain ⟨rfl, rfl, rfl, rfl⟩ := h
      exact ⟨_, rfl, List.prefix_append _ _, fun h => by cases h⟩
    · simp at h; obtain ⟨rfl, rfl, rfl, rfl⟩ := h
      exact ⟨_, rfl⟩
  | succ r => exact ⟨fun _ _ _ _ h => by simp at h, fun _ _ _ _ h => by simp at h⟩
theorem mut_cut {map : Nat → Option (Option (Nat × Nat))} {H H' : Heap} (h : Cut H H') : mutOf map H' = mutOf map H := by
  funext b
  refine propext ⟨?_, ?_⟩
  · rintro ⟨r, N, nw, bx, e, cells, h1, h2⟩
    obtain ⟨c0, h3, _⟩ := (h.2 r).1 _ _ _ _ h1
    exact ⟨r, N, nw, bx, e, c0, h3, h2⟩
  · rintro ⟨r, N, nw, bx, e, c0, h1, h2⟩
    obtain ⟨cells, h3⟩ := (h.2 r).2 _ _ _ _ h1
    exact ⟨r, N, nw, bx, e, cells, h3, h2⟩
theorem env_cut {map : Nat → Option (Option (Nat × Nat))} {H H' : Heap} {X : Nat → Prop} {B : Nat} (h : Cut H H') : env map H' X B = env map H X B := by
  unfold env; rw [mut_cut h]
theorem root_cut {w : World} {E : Env} {r : Nat} {nw bx : Bool} {e : TypeId} {c0 c : List AV} (hp : c <+: c0) (hb : bx = true → c = c0) (h : RootRel w E r nw bx e c0) : RootRel w E r nw bx e c := by
  cases bx with
  | true => rw [hb rfl]; exact h
  | false =>
  rcases h with ⟨h1, h2, h3⟩ | ⟨b, N, arr, h1, h2, h3, h4, h5, h6⟩
  · subst h2
    exact .inl ⟨h1, List.prefix_nil.1 hp, h3⟩
  · refine .inr ⟨b, N, arr, h1, h2, ?_, Nat.le_trans hp.length_le h4, h5, fun i a ha => h6 i a ?_⟩
    · cases N with
      | zero => exact absurd h3.1 (by simp)
      | succ N => exact h3
    obtain ⟨t, rfl⟩ := hp
    rw [List.getElem?_append_left (List.getElem?_eq_some_iff.1 ha).1]; exact ha
theorem FnSpec.cut {f : FuncId} {args : List AV} {Hin Hout : Heap} {r : AV} {R : AV → Heap → Prop} (h : FnSpec P f args Hin R) (hr : ∀ av H', R av H' → av = r ∧ Cut H' Hout) : Fun P f args Hin r Hout := by
  intro map w vs X h1 h2 h3 h4
  refine (h map w vs X h1 h2 h3 h4).mono ?_
  rintro v w' ⟨m, av, H', g, g1, g2, g3, g4, g5⟩
  obtain ⟨rfl, hc⟩ := hr _ _ g
  refine ⟨m, av, Hout, ⟨rfl, rfl⟩, by rw [env_cut hc]; exact g1, ?_, fun q nw bx e cells hq hx => ?_, fun q hq => ?_, ?_⟩
  · rw [env_cut hc]
    refine ⟨fun q nw bx e cells hx => ?_, fun q q' b N N' nw nw' bx bx' e e' cells cells' hx hx' => ?_⟩
    · obtain ⟨c0, h5, h6, h7⟩ := (hc.2 q).1 _ _ _ _ hx
      exact root_cut h6 h7 (g2.root _ _ _ _ _ h5)
    · obtain ⟨c0, h5, _⟩ := (hc.2 q).1 _ _ _ _ hx
      obtain ⟨c0', h5', _⟩ := (hc.2 q').1 _ _ _ _ hx'
      exact g2.inj _ _ _ _ _ _ _ _ _ _ _ _ _ h5 h5'
  · obtain ⟨c0, h5, h6, h7⟩ := (hc.2 q).1 _ _ _ _ hx
    obtain ⟨k1, k2⟩ := g3 q nw bx e c0 hq h5
    rw [env_cut hc]
    exact ⟨root_cut h6 h7 k1, k2⟩
  · obtain ⟨nw, bx, e, c0, hx⟩ := g4 q hq
    obtain ⟨cells, hx'⟩ := (hc.2 q).2 _ _ _ _ hx
    exact ⟨_, _, _, _, hx'⟩
  · exact { g5 with
      out := by rw [hc.1]; exact g5.out
      len := by rw [hc.1]; exact g5.len
      old := by rw [mut_cut hc]; exact g5.old }
end

theorem one_splice (x y : Int) (z : Nat) : splice (cTs [(0, 0, 0)]) 0 [.int .i64 x, .int .i64 y, .flt .f32 z] = cTs [(x, y, z)] := rfl
theorem one_take (t : Th) : (cTs [t]).take 3 = cTs [t] := rfl
/-- The four rows of a cloth. -/
abbrev Clo.rows (c : Clo) : Heap := [.blk false false 57 (cVs c.pl), .blk false false 57 (cVs c.ol), .blk false false 77 (cTs c.th), .blk false false 2 (cIs c.pin)]
attribute [simp] Clo.rows
theorem c_validCloth (c : Clo) (hs : c.Small) (hv : vldC c = true) : Fun Try.prog 54 [c.own 0] c.rows (.tup [c.own 0, .bool true]) c.rows := by
  refine FnSpec.walk dr_ok Try.func54 rfl (by kernel_rfl) rfl rfl rfl (by simp) ?_
  simp
  (first | refine callG_r ?_ | refine callD_r ?_); simp; (first | refine callN_flat (by with_reducible first | exact c_ValidCloth c hs) rfl ?_ | refine callN_new (by with_reducible first | exact c_ValidCloth c hs) ?_ | refine callM_flat (by with_reducible first | exact c_ValidCloth c hs) rfl ?_ | refine callM_new (by with_reducible first | exact c_ValidCloth c hs) ?_)
  simp [hv]
  (refine endG_keepT [] ?_ ?_ ?_ ?_ ?_ ?_ ?_ ⟨rfl, rfl⟩ ?_ <;> simp)
theorem c_validCloth0 (c : Clo) (hs : c.Small) (hv : vldC c = false) : Fun Try.prog 54 [c.own 0] c.rows (.tup [noC, .bool false]) c.rows := by
  refine FnSpec.walk dr_ok Try.func54 rfl (by kernel_rfl) rfl rfl rfl (by simp) ?_
  simp
  (first | refine callG_r ?_ | refine callD_r ?_); simp; (first | refine callN_flat (by with_reducible first | exact c_ValidCloth c hs) rfl ?_ | refine callN_new (by with_reducible first | exact c_ValidCloth c hs) ?_ | refine callM_flat (by with_reducible first | exact c_ValidCloth c hs) rfl ?_ | refine callM_new (by with_reducible first | exact c_ValidCloth c hs) ?_)
  simp [hv]
  (refine endG_keepT [] ?_ ?_ ?_ ?_ ?_ ?_ ?_ ⟨rfl, rfl⟩ ?_ <;> simp [noC])
end Go.Proofs.Ytnpflgeenecaeaa
