/- Plain law: runs of cloths can be cut, pinned places stay, draped places are not inside.
Conditions: none. -/
import Derived.Test.YtbjfkhjckfodbaaSD
import Derived.Test.YtbjfkhjckfodbaaDrp
namespace Go.Proofs.Ytbjfkhjckfodbaa
set_option linter.all false
open Go Go.Awp
set_option maxRecDepth 100000
set_option maxHeartbeats 4000000

theorem run_add (c : Clo) (x : Rn) (i : Nat) : ∀ j, runC (runC c x i) x j = runC c x (i + j)
  | 0 => rfl
  | j + 1 => by
    show drapeC (relC (fallC (runC (runC c x i) x j) x.f x.q) x.r) x.o x.rad = drapeC (relC (fallC (runC c x (i + j)) x.f x.q) x.r) x.o x.rad
    rw [run_add c x i j]
theorem Like.vld {d c : Clo} (h : Like d c) : vldC d = vldC c := by
  obtain ⟨h1, h2, h3, h4⟩ := h
  unfold vldC
  rw [h1, h2, h3, h4]
/-- Places that are pinned stay. -/
theorem fall_pin {c : Clo} {f : V} {q i : Nat} (h : (i : Int) ∈ c.pin) : (fallC c f q).pl[i]? = c.pl[i]? ∧ (fallC c f q).ol[i]? = c.ol[i]? := by
  unfold fallC
  simp only [List.getElem?_mapIdx]
  constructor
  · cases c.pl[i]? <;> simp [h]
  · cases c.ol[i]? <;> simp [h]
theorem drape_pin {c : Clo} {o : V} {r i : Nat} (h : (i : Int) ∈ c.pin) : (drapeC c o r).pl[i]? = c.pl[i]? := by
  unfold drapeC
  simp only [List.getElem?_mapIdx]
  cases c.pl[i]? <;> simp [h]
theorem pull_pin {c : Clo} {t : Th} {i : Nat} (h1 : 0 ≤ t.1) (h2 : 0 ≤ t.2.1) (h : (i : Int) ∈ c.pin) : (pullC c t).pl[i]? = c.pl[i]? := by
  have key : (pull2 c t)[i]? = c.pl[i]? := by
    have k1 : (pull1 c t)[i]? = c.pl[i]? := by
      unfold pull1
      split
      · rename_i hp
        rw [List.getElem?_set_ne (fun e => hp (by rw [show t.1 = (i : Int) by omega]; exact h))]
      · rfl
    unfold pull2
    split
    · rename_i hp
      rw [List.getElem?_set_ne (fun e => hp (by rw [show t.2.1 = (i : Int) by omega]; exact h))]
      exact k1
    · exact k1
  unfold pullC
  split
  · rfl
  · exact key
theorem part_pin {c : Clo} {i : Nat} (ht : ∀ t ∈ c.th, 0 ≤ t.1 ∧ 0 ≤ t.2.1) (h : (i : Int) ∈ c.pin) : ∀ (ts : List Th) (l : List V), (∀ t ∈ ts, t ∈ c.th) → (ts.foldl (pullL c) l)[i]? = l[i]?
  | [], l, _ => rfl
  | t :: ts, l, hs => by
    rw [List.foldl_cons, part_pin ht h ts _ fun u hu => hs u (List.mem_cons_of_mem _ hu)]
    have := ht t (hs t List.mem_cons_self)
    exact pull_pin (c := { c with pl := l }) this.1 this.2 h
theorem rel_pin {c : Clo} {i : Nat} (ht : ∀ t ∈ c.th, 0 ≤ t.1 ∧ 0 ≤ t.2.1) (h : (i : Int) ∈ c.pin) : ∀ r, (relL c r)[i]? = c.pl[i]?
  | 0 => rfl
  | r + 1 => by
    rw [relL, partL, part_pin ht h _ _ fun t hm => List.mem_of_mem_take hm, rel_pin ht h r]
theorem run_pin {c : Clo} {x : Rn} {i : Nat} (ht : ∀ t ∈ c.th, 0 ≤ t.1 ∧ 0 ≤ t.2.1) (h : (i : Int) ∈ c.pin) : ∀ n, (runC c x n).pl[i]? = c.pl[i]? ∧ (runC c x n).ol[i]? = c.ol[i]?
  | 0 => ⟨rfl, rfl⟩
  | n + 1 => by
    have hl := run_like c x n
    have ih := run_pin (x := x) ht h n
    have hp : (i : Int) ∈ (runC c x n).pin := by rw [hl.pin]; exact h
    have hf := fall_pin (f := x.f) (q := x.q) hp
    rw [runC]
    constructor
    · rw [drape_pin (c := relC (fallC (runC c x n) x.f x.q) x.r) hp]
      show (relL (fallC (runC c x n) x.f x.q) x.r)[i]? = _
      rw [rel_pin (c := fallC (runC c x n) x.f x.q) (by show ∀ t ∈ (runC c x n).th, _; rw [hl.th]; exact ht) hp, hf.1, ih.1]
    · show (fallC (runC c x n) x.f x.q).ol[i]? = _
      rw [hf.2, ih.2]
/-- The ball of the law. -/
abbrev oB : V := (1065353216, 1065353216, 3212836864)
theorem vl_p1 : Vl FloatKind.f32.format 1065353216 1 := vl_lit (n := 23) (s := false) (m := 8388608) (by decide +kernel) (by decide) (by decide +kernel)
theorem vl_m1 : Vl FloatKind.f32.format 3212836864 (-1) := vl_lit (n := 23) (s := true) (m := 8388608) (by decide +kernel) (by decide) (by decide +kernel)
abbrev radW (u : Nat) : Nat := fop .quo .f32 (fint .f32 (1 + (u : Int))) 1082130432
/-- What is checked of the six radii. -/
def radB (u : Nat) : Bool := (match FloatKind.f32.format.read (radW u) with
    | .number s m e => decide (e ≤ 0) && decide (-149 ≤ e) && decide (4 * sgi s m = (1 + (u : Int)) * ((2 ^ (-e).toNat : Nat) : Int))
    | _ => false) && overB (radW u) && overB (fop .mul .f32 1065336439 (radW u)) &&
  !(ford .f32 (vlong (vsub (vadd oB (0, 0, radW u)) oB)) (fop .mul .f32 1065336439 (radW u)) == some .lt)
theorem rad_all : ((List.range 6).all radB) = true := by decide +kernel
theorem vl_999 : Vl FloatKind.f32.format 1065336439 (16760439 / 16777216) := vl_lit (n := 24) (s := false) (m := 16760439) (by decide +kernel) (by decide) (by decide +kernel)
structure RadOk (u : Nat) : Prop where
  vl : Vl FloatKind.f32.format (radW u) ((1 + (u : Rat)) * (1 / 4))
  ov : overB (radW u) = true
  ov2 : overB (fop .mul .f32 1065336439 (radW u)) = true
  mid : ¬ ford .f32 (vlong (vsub (vadd oB (0, 0, radW u)) oB)) (fop .mul .f32 1065336439 (radW u)) = some .lt
theorem rad_ok {u : Nat} (hu : u < 6) : RadOk u := by
  have h := List.all_eq_true.1 rad_all u (List.mem_range.2 hu)
  unfold radB at h
  simp only [Bool.and_eq_true, Bool.not_eq_true', beq_eq_false_iff_ne] at h
  obtain ⟨⟨⟨h1, h2⟩, h3⟩, h4⟩ := h
  refine ⟨?_, h2, h3, h4⟩
  split at h1
  · rename_i s m e he
    simp only [Bool.and_eq_true, decide_eq_true_eq] at h1
    obtain ⟨⟨g1, g2⟩, g3⟩ := h1
    obtain ⟨k, hk⟩ : ∃ k : Nat, e = -(k : Int) := ⟨(-e).toNat, by omega⟩
    subst hk
    rw [show (- -(k : Int)).toNat = k by omega] at g3
    refine vl_lit (n := k) he (by show -149 ≤ _; omega) ?_
    have h4 : ((4 * sgi s m : Int) : Rat) = (((1 + (u : Int)) * ((2 ^ k : Nat) : Int) : Int) : Rat) := by rw [g3]
    rw [Rat.intCast_mul, Rat.intCast_mul, Rat.intCast_add] at h4
    have e4 : ((4 : Int) : Rat) = 4 := rfl
    have e1 : ((1 : Int) : Rat) = 1 := rfl
    have eu : (((u : Nat) : Int) : Rat) = (u : Rat) := rfl
    have e7 : ((((2 ^ k : Nat) : Int)) : Rat) = ((2 ^ k : Nat) : Rat) := rfl
    rw [e4, e1, eu, e7] at h4
    grind
  · cases h1
/-- A place that is draped is not inside. -/
theorem draped_out {u : Nat} (hu : u < 6) (p : V) : ¬ ford .f32 (vlong (vsub (drapeV oB (radW u) p) oB)) (fop .mul .f32 1065336439 (radW u)) = some .lt := by
  have R := rad_ok hu
  have u1 : ((0 : Nat) : Rat) ≤ (u : Rat) := Rat.natCast_le_natCast.2 (Nat.zero_le _)
  have u2 : (u : Rat) ≤ ((5 : Nat) : Rat) := Rat.natCast_le_natCast.2 (by omega)
  have e0 : ((0 : Nat) : Rat) = 0 := rfl
  have e5 : ((5 : Nat) : Rat) = 5 := rfl
  rw [e0] at u1
  rw [e5] at u2
  have hr := R.vl
  generalize hρ : (1 + (u : Rat)) * (1 / 4) = ρ at hr
  have r1 : 1 / 4 ≤ ρ := by grind
  have r2 : ρ ≤ 3 / 2 := by grind
  have c' := c120
  obtain ⟨t, ht, t1, t2⟩ := vl_mul (k := .f32) vl_999 hr (B := 2) (by grind) (by grind) (by grind)
  have e32 := er32_le (B := 2) (by decide +kernel)
  have tρ : t ≤ 9992 / 10000 * ρ := by grind
  unfold drapeV
  by_cases h1 : ford .f32 (vlong (vsub p oB)) (radW u) = some .lt
  · rw [if_pos h1]
    by_cases h2 : ford .f32 (vlong (vsub p oB)) 0 = some .eq
    · rw [if_pos h2]; exact R.mid
    · rw [if_neg h2]
      obtain ⟨px, py, pz⟩ := p
      have sp := small_parts (x := fop .sub .f32 px 1065353216) (y := fop .sub .f32 py 1065353216) (z := fop .sub .f32 pz 3212836864) hr (by grind) h1
      obtain ⟨a, ha, a1, a2⟩ := sp _ (.inl rfl)
      obtain ⟨b, hb, b1, b2⟩ := sp _ (.inr (.inl rfl))
      obtain ⟨c, hc, c1, c2⟩ := sp _ (.inr (.inr rfl))
      have ga := unit_gap vl_p1 (.inl rfl) ha a1 a2
      have gb := unit_gap vl_p1 (.inl rfl) hb b1 b2
      have gc := unit_gap vl_m1 (.inr rfl) hc c1 c2
      obtain ⟨v, hv, v1⟩ := drape_near hr r1 r2 ha hb hc ga gb gc ⟨a1, a2⟩ ⟨b1, b2⟩ ⟨c1, c2⟩ vl_p1 vl_p1 vl_m1 (.inl rfl) (.inl rfl) (.inr rfl) rfl h2 rfl rfl rfl rfl
      intro hlt
      have := lt_of_ford hv ht hlt
      grind
  · rw [if_neg h1]
    intro hlt
    refine h1 ?_
    -- what is less than the lesser is less than the greater
    have hn : nanB .f32 (vlong (vsub p oB)) = false := by
      cases hx : nanB .f32 (vlong (vsub p oB)) with
      | false => rfl
      | true => rw [ford_nan_l hx] at hlt; cases hlt
    have n2 := vl_nan (k := .f32) ht
    have n3 := vl_nan (k := .f32) hr
    have k1 := ford_key hn n2
    have k2 := ford_key n2 n3
    have k3 := ford_key hn n3
    have hlt2 : ford .f32 (fop .mul .f32 1065336439 (radW u)) (radW u) = some .lt := ford_lt_of ht hr (by grind)
    rw [hlt] at k1
    rw [hlt2] at k2
    have l1 : keyW .f32 (vlong (vsub p oB)) < keyW .f32 (fop .mul .f32 1065336439 (radW u)) := by
      have := Option.some.inj k1
      rcases Int.lt_trichotomy (keyW .f32 (vlong (vsub p oB))) (keyW .f32 (fop .mul .f32 1065336439 (radW u))) with c | c | c
      · exact c
      · rw [c] at this; simp [compare, compareOfLessAndEq] at this
      · have q1 : ¬ keyW .f32 (vlong (vsub p oB)) < keyW .f32 (fop .mul .f32 1065336439 (radW u)) := by omega
        have q2 : ¬ keyW .f32 (vlong (vsub p oB)) = keyW .f32 (fop .mul .f32 1065336439 (radW u)) := by omega
        simp [compare, compareOfLessAndEq, q1, q2] at this
    have l2 : keyW .f32 (fop .mul .f32 1065336439 (radW u)) < keyW .f32 (radW u) := by
      have := Option.some.inj k2
      rcases Int.lt_trichotomy (keyW .f32 (fop .mul .f32 1065336439 (radW u))) (keyW .f32 (radW u)) with c | c | c
      · exact c
      · rw [c] at this; simp [compare, compareOfLessAndEq] at this
      · have q1 : ¬ keyW .f32 (fop .mul .f32 1065336439 (radW u)) < keyW .f32 (radW u) := by omega
        have q2 : ¬ keyW .f32 (fop .mul .f32 1065336439 (radW u)) = keyW .f32 (radW u) := by omega
        simp [compare, compareOfLessAndEq, q1, q2] at this
    rw [k3]
    have l3 : keyW .f32 (vlong (vsub p oB)) < keyW .f32 (radW u) := by omega
    simp [compare, compareOfLessAndEq, l3]
/-- Inside are pinned places alone. -/
theorem ins_pin {E : Clo} {u : Nat} (hu : u < 6) : ∀ n, n ≤ E.pl.length → ∀ p ∈ insL (drapeC E oB (radW u)) oB (fop .mul .f32 1065336439 (radW u)) n, p ∈ E.pin
  | 0, _, p, hp => by simp [insL] at hp
  | n + 1, hn, p, hp => by
    unfold insL at hp
    split at hp
    · rename_i hb
      rcases List.mem_append.1 hp with h | h
      · exact ins_pin hu n (by omega) p h
      · rw [List.mem_singleton] at h
        subst h
        refine Classical.byContradiction fun hc => ?_
        have hn' : n < E.pl.length := by omega
        have e : (drapeC E oB (radW u)).pl.getD n v000 = drapeV oB (radW u) E.pl[n] := by
          unfold drapeC
          rw [List.getD_eq_getElem?_getD]
          simp only [List.getElem?_mapIdx, List.getElem?_eq_getElem hn', Option.map_some, Option.getD_some]
          simp [hc]
        unfold insB at hb
        rw [e] at hb
        exact draped_out hu _ hb
    · exact ins_pin hu n (by omega) p hp
end Go.Proofs.Ytbjfkhjckfodbaa
