/- Memory of the call's own that is given up to be read alone: rows, rows of rows, structs of them.
Conditions: none. -/
import Derived.Test.YtnjpigkijdnpkaaGreatCll
namespace Go.Awp
set_option linter.all false
open Go
variable {P : Program}

inductive Frz (H : Heap) (F : Nat → Prop) : Bool → AV → AV → Prop
  | row (p : Bool) (q n s : Nat) (bx : Bool) (e : TypeId) (c c' : List AV) (h : H[q]? = some (.blk true bx e c)) (hF : F q) (hl : c'.length = c.length)
      (h0 : bx = false → c' = c) (h1 : bx = true → ∀ (j : Nat) a b, c[j]? = some a → c'[j]? = some b → Frz H F true a b) : Frz H F p (.slc q 0 n s) (.view true c' n)
  | same (a : AV) : Frz H F false a a
  | pure (a : AV) (h : a.isPure = true) : Frz H F true a a
  | agg (p : Bool) (l l' : List AV) (hl : l'.length = l.length) (h : ∀ (j : Nat) a b, l[j]? = some a → l'[j]? = some b → Frz H F p a b) : Frz H F p (.agg l) (.agg l')

theorem weak_frz {H0 H H1 : Heap} {s s1 : List AV} (F : Nat → Prop) (hlen : H1.length = H.length)
    (hH : ∀ (q : Nat) nw bx e c1, H1[q]? = some (.blk nw bx e c1) → ¬ F q ∧ ∃ c, H[q]? = some (.blk nw bx e c) ∧ (c1 = c ∨ bx = true ∧ c1.length = c.length ∧ ∀ (j : Nat) a b, c[j]? = some a → c1[j]? = some b → Frz H F false a b))
    (hs : s1.length = s.length) (hsv : ∀ (i : Nat) b, s1[i]? = some b → b = .any ∨ ∃ a, s[i]? = some a ∧ Frz H F false a b) : Weak H0 s H s1 H1 := by
  rintro m0 w0 X a w hX hm0 ⟨map, h1, h2, h3, h4, h5⟩
  have hmut : ∀ b, mutOf map H1 b → mutOf map H b := by
    rintro b ⟨q, N, nw, bx, e, c, g1, g2⟩
    obtain ⟨_, c0, g3, _⟩ := hH q nw bx e c g1
    exact ⟨q, N, nw, bx, e, c0, g3, g2⟩
  have hL : Later (env map H X w0.heap.size) w (env map H1 X w0.heap.size) w := ⟨fun _ _ h => h, Nat.le_refl _, fun b _ g => g.imp (hmut b) id, Nat.le_refl _, fun _ _ _ => rfl⟩
  have hdead : ∀ (q : Nat) (nw bx : Bool) (e : TypeId) (c : List AV) (b N : Nat), F q → H[q]? = some (.blk nw bx e c) → map q = some (some (b, N)) → w0.heap.size ≤ b → ¬ (env map H1 X w0.heap.size).live b := by
    rintro q nw bx e c b N hF hq hm hb (⟨q', N', nw', bx', e', c', g1, g2⟩ | g)
    · obtain ⟨g4, c0, g3, _⟩ := hH q' _ _ _ _ g1
      have := h2.inj q' q b N' N _ _ _ _ _ _ _ _ g3 hq g2 hm
      exact g4 (by rw [this]; exact hF)
    · exact absurd (hX b g).1 (Nat.not_lt.2 hb)
  have hval : ∀ (p : Bool) (x y : AV), Frz H F p x y → ∀ (v : Value), VRel w (env map H X w0.heap.size) x v → VRel w (if p then (env map H1 X w0.heap.size).pure else env map H1 X w0.heap.size) y v := by
    intro p x y hf
    induction hf with
    | same a => exact fun v hr => hr.later hL
    | pure a h => exact fun v hr => (hr.to_pure h).later hL.pure
    | agg p l l' hl h ih =>
      intro v hr
      cases hr with
      | agg _ vs k1 k2 k3 =>
        refine .agg l' vs (by omega) k2 fun i b v hb hv => ?_
        have hlt := (List.getElem?_eq_some_iff.1 hb).1
        have hx : l[i]? = some (l[i]'(by omega)) := List.getElem?_eq_getElem (by omega)
        exact ih i _ b hx hb v (k3 i _ v hx hv)
    | row p q n s bx e c c' h hF hl h0 h1 ih =>
      intro v hr
      have key : VRel w (env map H1 X w0.heap.size).pure (.view true c' n) v := by
        cases hr with
        | slcv _ _ hm => exact .view0 _ _ _ _ (Nat.zero_le _)
        | slc _ _ _ _ b N cap hm k1 k2 k3 =>
          rcases h2.root q _ _ _ _ h with ⟨q1, _⟩ | ⟨b', N', arr, q1, q2, q3, q4, q6, q5⟩
          · rw [q1] at hm; cases hm
          · rw [q1] at hm; cases hm
            replace q2 := q2.cells
            refine .view true c' n b 0 cap k1 k2 (block_lt q2) (fun _ => q6 rfl) (hdead q _ _ _ _ b (N + 1) hF h q1 (q6 rfl)) (fun j => arr.getD j undef) (fun j a' ha' => ?_) (fun j a' ha' => ?_) (fun j a' ha' => ?_)
            all_goals
              have hlt := (List.getElem?_eq_some_iff.1 ha').1
              have hx : c[j]? = some (c[j]'(by omega)) := List.getElem?_eq_getElem (by omega)
              obtain ⟨u, u1, u2, u3⟩ := q5 j _ hx
              have hu : arr.getD j undef = u := by rw [Array.getD_eq_getD_getElem?, u1]; rfl
            · rw [cell_at q2, Nat.zero_add, u1, hu]
            · rw [hu]; exact u2
            · rw [hu]
              cases bx with
              | false =>
                rw [h0 rfl, hx] at ha'; cases ha'
                exact u3.later hL.pure
              | true => exact ih rfl j _ a' hx ha' u u3
      cases p
      · exact key.of_pure
      · exact key
  refine ⟨map, ⟨by rw [hs]; exact h1.1, fun i b v hb hv' => ?_⟩, ⟨fun q nw bx e c1 hq => ?_, fun q q' b N N' n1 n2 x1 x2 e1 e2 c1 c2 g1 g2 => ?_, h2.glob.later hL⟩,
    ⟨h3.os, h3.tape, h3.output, h3.size, h3.block, h3.same, fun q hq => h3.out q (by rw [hlen] at hq; exact hq), by rw [hlen]; exact h3.len, fun b hb g => h3.old b hb (hmut b g)⟩, fun q hq => h4 q (by omega), h5⟩
  · rcases hsv i b hb with rfl | ⟨a', g, hf⟩
    · exact .any v
    · exact hval false a' b hf v (h1.2 i a' v g hv')
  · obtain ⟨hnF, c, hc, hcc⟩ := hH q nw bx e c1 hq
    have hr := h2.root q _ _ _ _ hc
    rcases hcc with rfl | ⟨rfl, hlc, hcc⟩
    · exact hr.later hL fun _ _ _ => rfl
    · rcases hr with ⟨_, _, hb⟩ | ⟨b, N, arr, q1, q2, q3, q4, q6, q5⟩
      · cases hb
      · refine .inr ⟨b, N, arr, q1, q2, ?_, by omega, q6, fun i y hy => ?_⟩
        · cases N with
          | zero => exact ⟨rfl, by rw [hlc]; exact q3.2⟩
          | succ N => exact q3
        · have hlt := (List.getElem?_eq_some_iff.1 hy).1
          have hx : c[i]? = some (c[i]'(by omega)) := List.getElem?_eq_getElem (by omega)
          obtain ⟨u, u1, u2, u3⟩ := q5 i _ hx
          exact ⟨u, u1, u2, hval false _ y (hcc i _ y hx hy) u u3⟩
  · obtain ⟨_, d1, f1, _⟩ := hH q _ _ _ _ g1
    obtain ⟨_, d2, f2, _⟩ := hH q' _ _ _ _ g2
    exact h2.inj q q' b N N' _ _ _ _ _ _ _ _ f1 f2
theorem weak_frzU {H0 H H1 : Heap} {n : Nat} {l l1 : List (Nat × AV)} (F : Nat → Prop) (hlen : H1.length = H.length)
    (hH : ∀ (q : Nat) nw bx e c1, H1[q]? = some (.blk nw bx e c1) → ¬ F q ∧ ∃ c, H[q]? = some (.blk nw bx e c) ∧ (c1 = c ∨ bx = true ∧ c1.length = c.length ∧ ∀ (j : Nat) a b, c[j]? = some a → c1[j]? = some b → Frz H F false a b))
    (h : ∀ p ∈ l1, Frz H F false (look l p.1) p.2) : Weak H0 (U n l) H (U n l1) H1 := by
  refine weak_frz F hlen hH (by simp [U]) fun i b hb => ?_
  rw [U_get] at hb
  split at hb
  · rename_i hi
    cases hb
    have key : ∀ (l1 : List (Nat × AV)), (∀ p ∈ l1, Frz H F false (look l p.1) p.2) → look l1 i = .any ∨ Frz H F false (look l i) (look l1 i) := by
      intro l1
      induction l1 with
      | nil => exact fun _ => .inl rfl
      | cons p l1 ih =>
        intro h
        obtain ⟨d, v⟩ := p
        simp only [look]
        split
        · rename_i e; subst e
          exact .inr (h (d, v) (List.mem_cons_self ..))
        · exact ih fun p hp => h p (List.mem_cons_of_mem _ hp)
    rcases key l1 h with g | g
    · exact .inl g
    · exact .inr ⟨_, by rw [U_get, if_pos hi], g⟩
  · cases hb
end Go.Awp
