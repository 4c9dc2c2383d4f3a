/- The pieces of a graph: two ways to number them come to the same numbers. No program here. Contracts: the pieces of a cloth, as the program reckons them. Contracts: the pieces of a cloth, as the program reckons them: the walk.
Conditions: none. -/
import Derived.Test.YtnjpigkijdnpkaaDat
import Derived.Test.YtnjpigkijdnpkaaZ0
namespace Go.Proofs.Ytnjpigkijdnpkaa
set_option linter.all false
open Go Go.Awp

def adj1 (t : Th) (p : Int) : List Int := (if t.1 = p then [t.2.1] else []) ++ (if t.2.1 = p then [t.1] else [])
/-- The neighbours of a place. -/
def adj (th : List Th) (p : Int) : List Int := th.flatMap fun t => adj1 t p
def nth (xs : List Int) (i : Nat) : Int := xs.getD i 0
/-- The ends of a thread are places. -/
structure ThOkP (n : Nat) (t : Th) : Prop where
  a0 : 0 ≤ t.1
  a1 : t.1 < n
  b0 : 0 ≤ t.2.1
  b1 : t.2.1 < n
def Ed (th : List Th) (v w : Nat) : Prop := ∃ t ∈ th, (t.1 = v ∧ t.2.1 = w) ∨ (t.2.1 = v ∧ t.1 = w)
theorem Ed.symm {th : List Th} {v w : Nat} (h : Ed th v w) : Ed th w v := by
  obtain ⟨t, ht, h | h⟩ := h
  · exact ⟨t, ht, .inr ⟨h.2, h.1⟩⟩
  · exact ⟨t, ht, .inl ⟨h.2, h.1⟩⟩
theorem mem_adj {th : List Th} {v : Nat} {x : Int} : x ∈ adj th v ↔ ∃ t ∈ th, (t.1 = v ∧ t.2.1 = x) ∨ (t.2.1 = v ∧ t.1 = x) := by
  unfold adj
  rw [List.mem_flatMap]
  constructor
  · rintro ⟨t, ht, h⟩
    refine ⟨t, ht, ?_⟩
    unfold adj1 at h
    rcases List.mem_append.1 h with h | h
    · split at h
      · rename_i e; exact .inl ⟨e, (List.mem_singleton.1 h).symm⟩
      · cases h
    · split at h
      · rename_i e; exact .inr ⟨e, (List.mem_singleton.1 h).symm⟩
      · cases h
  · rintro ⟨t, ht, h | h⟩
    · refine ⟨t, ht, ?_⟩
      unfold adj1
      rw [if_pos h.1, ← h.2]; simp
    · refine ⟨t, ht, ?_⟩
      unfold adj1
      rw [if_pos h.1, ← h.2]; simp
theorem ed_lt {n : Nat} {th : List Th} (hok : ∀ t ∈ th, ThOkP n t) {v w : Nat} (h : Ed th v w) : w < n := by
  obtain ⟨t, ht, h | h⟩ := h
  · have := (hok t ht).b1; omega
  · have := (hok t ht).a1; omega
inductive Pa (th : List Th) : Nat → Nat → Prop
  | refl (v : Nat) : Pa th v v
  | step {u v w : Nat} (h : Pa th u v) (e : Ed th v w) : Pa th u w
theorem Pa.trans {th : List Th} {u v w : Nat} (h : Pa th u v) (k : Pa th v w) : Pa th u w := by
  induction k with
  | refl => exact h
  | step _ e ih => exact .step ih e
theorem Pa.symm {th : List Th} {u v : Nat} (h : Pa th u v) : Pa th v u := by
  induction h with
  | refl => exact .refl _
  | step _ e ih => exact (Pa.step (.refl _) e.symm).trans ih
theorem Pa.lt {n : Nat} {th : List Th} (hok : ∀ t ∈ th, ThOkP n t) {u v : Nat} (h : Pa th u v) (hu : u < n) : v < n := by
  induction h with
  | refl => exact hu
  | step _ e _ => exact ed_lt hok e
theorem Pa.mono {th th' : List Th} (hs : ∀ t ∈ th, t ∈ th') {u v : Nat} (h : Pa th u v) : Pa th' u v := by
  induction h with
  | refl => exact .refl _
  | step _ e ih =>
    obtain ⟨t, ht, e⟩ := e
    exact .step ih ⟨t, hs t ht, e⟩
/-- What is the same at the ends of each edge is the same along paths. -/
theorem Pa.const {n : Nat} {th : List Th} (hok : ∀ t ∈ th, ThOkP n t) {f : Nat → Int} (hf : ∀ v w, v < n → w < n → Ed th v w → f v = f w) {u v : Nat} (h : Pa th u v) (hu : u < n) : f u = f v := by
  induction h with
  | refl => rfl
  | step h e ih => rw [ih, hf _ _ (h.lt hok hu) (ed_lt hok e) e]

/-- How counts go on. -/
def Goes (xs : List Int) (cnt : Nat → Int) (j : Nat) : Prop :=
  ((∃ k, k < j ∧ nth xs k = nth xs j) ∧ cnt (j + 1) = cnt j) ∨ ((¬ ∃ k, k < j ∧ nth xs k = nth xs j) ∧ nth xs j = cnt j ∧ cnt (j + 1) = cnt j + 1)
structure Char (n : Nat) (R : Nat → Nat → Prop) (xs : List Int) (m : Int) : Prop where
  len : xs.length = n
  same : ∀ i j, i < n → j < n → (nth xs i = nth xs j ↔ R i j)
  cnt : ∃ cnt : Nat → Int, cnt 0 = 0 ∧ cnt n = m ∧ ∀ j, j < n → Goes xs cnt j
theorem nth_at {xs : List Int} {i : Nat} (h : i < xs.length) : nth xs i = xs[i] := by unfold nth; rw [List.getD_eq_getElem?_getD, List.getElem?_eq_getElem h]; rfl
theorem char_unique {n : Nat} {R : Nat → Nat → Prop} {xs ys : List Int} {m k : Int} (hx : Char n R xs m) (hy : Char n R ys k) : xs = ys ∧ m = k := by
  obtain ⟨cx, x0, xn, xs'⟩ := hx.cnt
  obtain ⟨cy, y0, yn, ys'⟩ := hy.cnt
  have key : ∀ j, j ≤ n → cx j = cy j ∧ ∀ i, i < j → nth xs i = nth ys i := by
    intro j
    induction j with
    | zero => exact fun _ => ⟨by rw [x0, y0], fun i h => by omega⟩
    | succ j ih =>
      intro hj
      obtain ⟨h1, h2⟩ := ih (by omega)
      have hR : (∃ k, k < j ∧ nth xs k = nth xs j) ↔ ∃ k, k < j ∧ nth ys k = nth ys j :=
        ⟨fun ⟨k, hk, e⟩ => ⟨k, hk, (hy.same k j (by omega) (by omega)).2 ((hx.same k j (by omega) (by omega)).1 e)⟩,
          fun ⟨k, hk, e⟩ => ⟨k, hk, (hx.same k j (by omega) (by omega)).2 ((hy.same k j (by omega) (by omega)).1 e)⟩⟩
      have last : nth xs j = nth ys j ∧ cx (j + 1) = cy (j + 1) := by
        rcases xs' j (by omega) with ⟨⟨k, hk, e⟩, g⟩ | ⟨hn, e, g⟩
        · rcases ys' j (by omega) with ⟨_, g'⟩ | ⟨hn', _⟩
          · have e' := (hy.same k j (by omega) (by omega)).2 ((hx.same k j (by omega) (by omega)).1 e)
            exact ⟨by rw [← e, ← e', h2 k hk], by rw [g, g', h1]⟩
          · exact absurd (hR.1 ⟨k, hk, e⟩) hn'
        · rcases ys' j (by omega) with ⟨he, _⟩ | ⟨_, e', g'⟩
          · exact absurd (hR.2 he) hn
          · exact ⟨by rw [e, e', h1], by rw [g, g', h1]⟩
      refine ⟨last.2, fun i hi => ?_⟩
      by_cases c : i = j
      · rw [c]; exact last.1
      · exact h2 i (by omega)
  obtain ⟨h1, h2⟩ := key n (Nat.le_refl _)
  refine ⟨?_, by rw [← xn, ← yn, h1]⟩
  apply List.ext_getElem (by rw [hx.len, hy.len])
  intro i hi hi'
  rw [← nth_at hi, ← nth_at hi']
  exact h2 i (by rw [← hx.len]; exact hi)

-- the reference's way: numbers of groups
def relT (g : List Int) (t : Th) : List Int := g.map fun x => if x = max (nth g t.1.toNat) (nth g t.2.1.toNat) then min (nth g t.1.toNat) (nth g t.2.1.toNat) else x
def ids (n : Nat) : List Int := (List.range n).map fun i : Nat => (i : Int)
def groups (n : Nat) (th : List Th) : List Int := th.foldl relT (ids n)
structure GI (n : Nat) (th : List Th) (g : List Int) : Prop where
  len : g.length = n
  lo : ∀ i, i < n → 0 ≤ nth g i
  hi : ∀ i, i < n → nth g i ≤ i
  idem : ∀ i, i < n → nth g (nth g i).toNat = nth g i
  same : ∀ i j, i < n → j < n → (nth g i = nth g j ↔ Pa th i j)
theorem nth_map {g : List Int} {f : Int → Int} {i : Nat} (h : i < g.length) : nth (g.map f) i = f (nth g i) := by
  rw [nth_at (by simpa using h), nth_at h]; simp
theorem nth_ids {n i : Nat} (h : i < n) : nth (ids n) i = i := by
  rw [nth_at (by simpa [ids] using h)]; simp [ids]
theorem pa_nil {u v : Nat} (h : Pa [] u v) : u = v := by
  cases h with
  | refl => rfl
  | step _ e => obtain ⟨t, ht, _⟩ := e; cases ht
theorem gi_start (n : Nat) : GI n [] (ids n) where
  len := by simp [ids]
  lo i h := by rw [nth_ids h]; omega
  hi i h := by rw [nth_ids h]; omega
  idem i h := by rw [nth_ids h, Int.toNat_natCast, nth_ids h]
  same i j hi hj := by
    rw [nth_ids hi, nth_ids hj]
    exact ⟨fun e => by have : i = j := by omega
                       rw [this]; exact .refl _, fun h => by rw [pa_nil h]⟩
theorem gi_step {n : Nat} {th : List Th} {g : List Int} {t : Th} (h : GI n th g) (hok : ∀ t ∈ th, ThOkP n t) (ht : ThOkP n t) : GI n (th ++ [t]) (relT g t) := by
  obtain ⟨a0, a1, b0, b1⟩ := ht
  obtain ⟨A, hA⟩ : ∃ A : Nat, t.1 = A := ⟨t.1.toNat, by omega⟩
  obtain ⟨B, hB⟩ : ∃ B : Nat, t.2.1 = B := ⟨t.2.1.toNat, by omega⟩
  have hAn : A < n := by omega
  have hBn : B < n := by omega
  have lA := h.lo A hAn
  have lB := h.lo B hBn
  have uA := h.hi A hAn
  have uB := h.hi B hBn
  have iA := h.idem A hAn
  have iB := h.idem B hBn
  have len' : (relT g t).length = n := by simp [relT, h.len]
  have hg : ∀ i, i < n → nth (relT g t) i = if nth g i = max (nth g A) (nth g B) then min (nth g A) (nth g B) else nth g i := fun i hi => by
    unfold relT
    rw [nth_map (by rw [h.len]; exact hi), hA, hB, Int.toNat_natCast, Int.toNat_natCast]
  have same1 := h.same
  generalize ea : nth g A = a at *
  generalize eb : nth g B = b at *
  have mono : ∀ {u v}, Pa th u v → Pa (th ++ [t]) u v := fun h => h.mono fun t ht => List.mem_append_left _ ht
  have edge : Pa (th ++ [t]) A B := .step (.refl _) ⟨t, by simp, .inl ⟨hA, hB⟩⟩
  have idm : ∀ x : Nat, x < n → nth g (nth g x).toNat = nth g x := h.idem
  refine ⟨len', fun i hi => ?_, fun i hi => ?_, fun i hi => ?_, fun i j hi hj => ⟨fun e => ?_, fun hp => ?_⟩⟩
  · rw [hg i hi]; have := h.lo i hi; split <;> omega
  · rw [hg i hi]; have := h.hi i hi; split <;> omega
  · have li := h.lo i hi
    have ui := h.hi i hi
    have key : ∀ x : Int, 0 ≤ x → x < n → nth g x.toNat = x → (x = max a b → x = min a b) → nth (relT g t) x.toNat = x := fun x x0 xn hx hc => by
      rw [hg _ (by omega), hx]
      split
      · exact (hc ‹_›).symm
      · rfl
    rw [hg i hi]
    split
    · refine key _ (by omega) (by omega) ?_ (by omega)
      rcases Int.le_total a b with c | c
      · rw [Int.min_eq_left c]; exact iA
      · rw [Int.min_eq_right c]; exact iB
    · exact key _ li (by omega) (h.idem i hi) (fun c => absurd c ‹_›)
  · rw [hg i hi, hg j hj] at e
    have pij : nth g i = nth g j → Pa (th ++ [t]) i j := fun e => mono ((same1 i j hi hj).1 e)
    have pa : ∀ {x}, x < n → nth g x = a → Pa (th ++ [t]) x A := fun hx e => mono ((same1 _ A hx hAn).1 (by rw [e, ea]))
    have pb : ∀ {x}, x < n → nth g x = b → Pa (th ++ [t]) x B := fun hx e => mono ((same1 _ B hx hBn).1 (by rw [e, eb]))
    have cross : ∀ {x y}, x < n → y < n → nth g x = max a b → nth g y = min a b → Pa (th ++ [t]) x y := by
      intro x y hx hy e1 e2
      rcases Int.le_total a b with c | c
      · rw [Int.max_eq_right c] at e1; rw [Int.min_eq_left c] at e2
        exact ((pb hx e1).trans edge.symm).trans (pa hy e2).symm
      · rw [Int.max_eq_left c] at e1; rw [Int.min_eq_right c] at e2
        exact ((pa hx e1).trans edge).trans (pb hy e2).symm
    split at e
    · split at e
      · exact pij (by omega)
      · exact cross hi hj ‹_› e.symm
    · split at e
      · exact (cross hj hi ‹_› e).symm
      · exact pij e
  · have hok' : ∀ s ∈ th ++ [t], ThOkP n s := fun s hs => by
      rcases List.mem_append.1 hs with h1 | h1
      · exact hok s h1
      · rw [List.mem_singleton.1 h1]; exact ⟨a0, a1, b0, b1⟩
    refine hp.const hok' (fun v w hv hw he => ?_) hi
    obtain ⟨s, hs, he⟩ := he
    rcases List.mem_append.1 hs with h1 | h1
    · have : nth g v = nth g w := (same1 v w hv hw).2 (.step (.refl _) ⟨s, h1, he⟩)
      rw [hg v hv, hg w hw, this]
    · rw [List.mem_singleton.1 h1] at he
      rcases he with ⟨e1, e2⟩ | ⟨e1, e2⟩
      · have : v = A := by omega
        have : w = B := by omega
        subst v; subst w
        rw [hg A hv, hg B hw, ea, eb]
        split <;> split <;> omega
      · have : v = B := by omega
        have : w = A := by omega
        subst v; subst w
        rw [hg A hw, hg B hv, ea, eb]
        split <;> split <;> omega
theorem groups_snoc (n : Nat) (th : List Th) (t : Th) : groups n (th ++ [t]) = relT (groups n th) t := by simp [groups, List.foldl_append]
theorem gi_groups {n : Nat} : ∀ (k : Nat) {th : List Th}, k ≤ th.length → (∀ t ∈ th, ThOkP n t) → GI n (th.take k) (groups n (th.take k))
  | 0, th, _, _ => by simpa [groups] using gi_start n
  | k + 1, th, hk, hok => by
    have hk' : k < th.length := by omega
    rw [← List.take_append_getElem hk', groups_snoc]
    exact gi_step (gi_groups k (by omega) hok) (fun t ht => hok t (List.mem_of_mem_take ht)) (hok _ (List.getElem_mem hk'))
/-- The numbers of the groups, and how many there are. -/
def fin (g : List Int) : Nat → List Int × Int
  | 0 => ([], 0)
  | i + 1 => if nth g i = i then ((fin g i).1 ++ [(fin g i).2], (fin g i).2 + 1) else ((fin g i).1 ++ [nth (fin g i).1 (nth g i).toNat], (fin g i).2)
theorem fin_len (g : List Int) : ∀ i, (fin g i).1.length = i
  | 0 => rfl
  | i + 1 => by unfold fin; split <;> simp [fin_len g i]
theorem fin_cnt (g : List Int) : ∀ i, 0 ≤ (fin g i).2 ∧ (fin g i).2 ≤ i
  | 0 => by simp [fin]
  | i + 1 => by
    have := fin_cnt g i
    unfold fin; split <;> simp <;> omega
theorem nth_app {xs : List Int} {y : Int} {i : Nat} (h : i < xs.length) : nth (xs ++ [y]) i = nth xs i := by
  rw [nth_at (by simp; omega), nth_at h, List.getElem_append_left h]
theorem nth_last {xs : List Int} {y : Int} : nth (xs ++ [y]) xs.length = y := by
  rw [nth_at (by simp)]; simp
theorem fin_keep (g : List Int) {i : Nat} : ∀ {j : Nat}, i < j → nth (fin g j).1 i = nth (fin g (i + 1)).1 i
  | 0, h => by omega
  | j + 1, h => by
    by_cases c : i = j
    · rw [c]
    · rw [← fin_keep g (show i < j by omega)]
      have hl := fin_len g j
      show nth (if nth g j = j then _ else _ : List Int × Int).1 i = _
      split <;> exact nth_app (by omega)
theorem fin_mono (g : List Int) {i : Nat} : ∀ {j : Nat}, i ≤ j → (fin g i).2 ≤ (fin g j).2
  | 0, h => by rw [show i = 0 by omega]; exact Int.le_refl _
  | j + 1, h => by
    by_cases c : i = j + 1
    · rw [c]; exact Int.le_refl _
    · have := fin_mono g (show i ≤ j by omega)
      show _ ≤ (if nth g j = j then _ else _ : List Int × Int).2
      split <;> simp <;> omega
theorem fin_char {n : Nat} {th : List Th} {g : List Int} (h : GI n th g) : Char n (Pa th) (fin g n).1 (fin g n).2 := by
  have root : ∀ r, r < n → nth g r = r → nth (fin g n).1 r = (fin g r).2 ∧ (fin g (r + 1)).2 = (fin g r).2 + 1 := fun r hr e => by
    rw [fin_keep g hr]
    have hl := fin_len g r
    have : fin g (r + 1) = ((fin g r).1 ++ [(fin g r).2], (fin g r).2 + 1) := by
      show (if nth g r = r then _ else _ : List Int × Int) = _; rw [if_pos e]
    rw [this]
    refine ⟨?_, rfl⟩
    show nth ((fin g r).1 ++ [(fin g r).2]) r = _
    have := nth_last (xs := (fin g r).1) (y := (fin g r).2)
    rwa [hl] at this
  have rest : ∀ i, i < n → nth g i ≠ i → nth (fin g n).1 i = nth (fin g n).1 (nth g i).toNat ∧ (fin g (i + 1)).2 = (fin g i).2 := fun i hi e => by
    have lo := h.lo i hi
    have up := h.hi i hi
    rw [fin_keep g hi]
    have hl := fin_len g i
    have : fin g (i + 1) = ((fin g i).1 ++ [nth (fin g i).1 (nth g i).toNat], (fin g i).2) := by
      show (if nth g i = i then _ else _ : List Int × Int) = _; rw [if_neg e]
    rw [this]
    refine ⟨?_, rfl⟩
    have e1 := nth_last (xs := (fin g i).1) (y := nth (fin g i).1 (nth g i).toNat)
    rw [hl] at e1
    show nth ((fin g i).1 ++ [_]) i = _
    rw [e1, fin_keep g (show (nth g i).toNat < i by omega), fin_keep g (show (nth g i).toNat < n by omega)]
  have at_ : ∀ i, i < n → nth (fin g n).1 i = nth (fin g n).1 (nth g i).toNat := fun i hi => by
    by_cases e : nth g i = i
    · rw [e, Int.toNat_natCast]
    · exact (rest i hi e).1
  have rootlt : ∀ i, i < n → (nth g i).toNat < n ∧ nth g (nth g i).toNat = ((nth g i).toNat : Nat) := fun i hi => by
    have lo := h.lo i hi
    have up := h.hi i hi
    refine ⟨by omega, ?_⟩
    rw [h.idem i hi]; omega
  have inj : ∀ r s, r < n → s < n → nth g r = r → nth g s = s → nth (fin g n).1 r = nth (fin g n).1 s → r = s := by
    intro r s hr hs er es e
    obtain ⟨r1, r2⟩ := root r hr er
    obtain ⟨s1, s2⟩ := root s hs es
    rcases Nat.lt_trichotomy r s with c | c | c
    · have := fin_mono g (show r + 1 ≤ s by omega); omega
    · exact c
    · have := fin_mono g (show s + 1 ≤ r by omega); omega
  have same : ∀ i j, i < n → j < n → (nth (fin g n).1 i = nth (fin g n).1 j ↔ nth g i = nth g j) := fun i j hi hj => by
    obtain ⟨i1, i2⟩ := rootlt i hi
    obtain ⟨j1, j2⟩ := rootlt j hj
    have li := h.lo i hi
    have lj := h.lo j hj
    rw [at_ i hi, at_ j hj]
    exact ⟨fun e => by have := inj _ _ i1 j1 i2 j2 e; omega, fun e => by rw [e]⟩
  refine ⟨fin_len g n, fun i j hi hj => (same i j hi hj).trans (h.same i j hi hj), fun j => (fin g j).2, rfl, rfl, fun j hj => ?_⟩
  by_cases e : nth g j = j
  · obtain ⟨r1, r2⟩ := root j hj e
    refine .inr ⟨fun ⟨k, hk, hs⟩ => ?_, r1, r2⟩
    have := (same k j (by omega) hj).1 hs
    have := h.hi k (by omega)
    omega
  · obtain ⟨r1, r2⟩ := rest j hj e
    have lo := h.lo j hj
    have up := h.hi j hj
    exact .inl ⟨⟨(nth g j).toNat, by omega, r1.symm⟩, r2⟩

-- the program's way: a walk from each place that has no number yet
structure DF (n : Nat) (th : List Th) (i : Nat) (out : List Int) (m : Int) : Prop where
  len : out.length = n
  le : i ≤ n
  m0 : 0 ≤ m
  mi : m ≤ i
  lab : ∀ v, v < n → nth out v = -1 ∨ (0 ≤ nth out v ∧ nth out v < m)
  edge : ∀ v w, v < n → w < n → Ed th v w → nth out v = nth out w
  conn : ∀ v w, v < n → w < n → 0 ≤ nth out v → nth out v = nth out w → Pa th v w
  done : ∀ j, j < i → 0 ≤ nth out j
  rep : ∀ l, 0 ≤ l → l < m → ∃ j, j < i ∧ nth out j = l
  cnt : ∃ cnt : Nat → Int, cnt 0 = 0 ∧ cnt i = m ∧ ∀ j, j < i → Goes out cnt j
theorem nth_rep {n i : Nat} {x : Int} (h : i < n) : nth (List.replicate n x) i = x := by rw [nth_at (by simpa using h)]; simp
theorem df_start (n : Nat) (th : List Th) : DF n th 0 (List.replicate n (-1)) 0 where
  len := by simp
  le := Nat.zero_le _
  m0 := by omega
  mi := by omega
  lab v h := .inl (nth_rep h)
  edge v w hv hw _ := by rw [nth_rep hv, nth_rep hw]
  conn v w hv _ h := by rw [nth_rep hv] at h; omega
  done j h := by omega
  rep l h1 h2 := by omega
  cnt := ⟨fun _ => 0, rfl, rfl, fun j h => by omega⟩
theorem df_skip {n : Nat} {th : List Th} {i : Nat} {out : List Int} {m : Int} (h : DF n th i out m) (hi : i < n) (h0 : 0 ≤ nth out i) : DF n th (i + 1) out m := by
  have hl : nth out i < m := by rcases h.lab i hi with e | e <;> omega
  obtain ⟨j, hj, ej⟩ := h.rep _ h0 hl
  obtain ⟨cnt, c0, ci, cs⟩ := h.cnt
  obtain ⟨c', g1, g2⟩ : ∃ c' : Nat → Int, (∀ j, j ≤ i → c' j = cnt j) ∧ c' (i + 1) = m := ⟨fun j => if j ≤ i then cnt j else m, fun j hj => if_pos hj, if_neg (by omega)⟩
  refine { h with le := hi, mi := by have := h.mi; omega, done := fun j hj => ?_, rep := fun l h1 h2 => ?_, cnt := ⟨c', by rw [g1 0 (by omega), c0], g2, fun q hq => ?_⟩ }
  · by_cases c : j = i
    · rw [c]; exact h0
    · exact h.done j (by omega)
  · obtain ⟨k, hk, e⟩ := h.rep l h1 h2
    exact ⟨k, by omega, e⟩
  · by_cases c : q = i
    · subst c
      exact .inl ⟨⟨_, hj, ej⟩, by rw [g2, g1 q (by omega), ci]⟩
    · have := cs q (by omega)
      unfold Goes at *
      rw [g1 q (by omega), g1 (q + 1) (by omega)]; exact this
structure DI (n : Nat) (th : List Th) (i : Nat) (out0 : List Int) (m : Int) (out st : List Int) : Prop where
  len : out.length = n
  lab : ∀ v, v < n → nth out v = nth out0 v ∨ (nth out0 v = -1 ∧ nth out v = m)
  reach : ∀ v, v < n → nth out v = m → Pa th i v
  stk : ∀ p ∈ st, ∃ v : Nat, p = v ∧ v < n ∧ Pa th i v
  front : ∀ v w, v < n → w < n → nth out v = m → Ed th v w → nth out w = m ∨ (w : Int) ∈ st
  init : nth out i = m ∨ (i : Int) ∈ st
theorem di_start {n : Nat} {th : List Th} {i : Nat} {out : List Int} {m : Int} (h : DF n th i out m) (hi : i < n) : DI n th i out m out [(i : Int)] where
  len := h.len
  lab v hv := .inl rfl
  reach v hv e := by rcases h.lab v hv with g | g <;> have := h.m0 <;> omega
  stk p hp := ⟨i, List.mem_singleton.1 hp, hi, .refl _⟩
  front v w hv hw e := by rcases h.lab v hv with g | g <;> have := h.m0 <;> omega
  init := .inr (List.mem_singleton.2 rfl)
theorem di_label {n : Nat} {th : List Th} {i : Nat} {out0 out st : List Int} {m : Int} (hok : ∀ t ∈ th, ThOkP n t) (h : DF n th i out0 m) (hi : i < n) (hneg : nth out0 i < 0) (d : DI n th i out0 m out st) {v : Nat} (hv : v < n) (hp : Pa th i v) : nth out v = -1 ∨ nth out v = m := by
  have e : nth out0 i = nth out0 v := hp.const hok h.edge hi
  rcases d.lab v hv with g | g
  · rw [g, ← e]
    rcases h.lab i hi with k | k <;> omega
  · exact .inr g.2
theorem di_seen {n : Nat} {th : List Th} {i : Nat} {out0 out st : List Int} {m : Int} {p : Nat} (hok : ∀ t ∈ th, ThOkP n t) (h : DF n th i out0 m) (hi : i < n) (hneg : nth out0 i < 0) (d : DI n th i out0 m out (st ++ [(p : Int)])) (h0 : 0 ≤ nth out p) : DI n th i out0 m out st := by
  obtain ⟨v, ev, hv, hp⟩ := d.stk p (by simp)
  have : v = p := by omega
  subst this
  have hm : nth out v = m := by rcases di_label hok h hi hneg d hv hp with g | g <;> omega
  refine { d with stk := fun q hq => d.stk q (by simp [hq]), front := fun a b ha hb e he => ?_, init := ?_ }
  · rcases d.front a b ha hb e he with g | g
    · exact .inl g
    · rcases List.mem_append.1 g with g | g
      · exact .inr g
      · have : b = v := by have := List.mem_singleton.1 g; omega
        rw [this]; exact .inl hm
  · rcases d.init with g | g
    · exact .inl g
    · rcases List.mem_append.1 g with g | g
      · exact .inr g
      · have : i = v := by have := List.mem_singleton.1 g; omega
        rw [this]; exact .inl hm
theorem nth_set {xs : List Int} {p : Nat} {x : Int} (h : p < xs.length) (i : Nat) : nth (xs.set p x) i = if i = p then x else nth xs i := by
  unfold nth
  rw [List.getD_eq_getElem?_getD, List.getD_eq_getElem?_getD, List.getElem?_set]
  by_cases c : p = i
  · subst c; rw [if_pos rfl, if_pos h, if_pos rfl]; rfl
  · rw [if_neg c, if_neg (fun e => c e.symm)]
theorem di_new {n : Nat} {th : List Th} {i : Nat} {out0 out st : List Int} {m : Int} {p : Nat} (hok : ∀ t ∈ th, ThOkP n t) (h : DF n th i out0 m) (hi : i < n) (hneg : nth out0 i < 0) (d : DI n th i out0 m out (st ++ [(p : Int)])) (h0 : nth out p < 0) : DI n th i out0 m (out.set p m) (st ++ adj th p) := by
  obtain ⟨v, ev, hv, hp⟩ := d.stk p (by simp)
  have : v = p := by omega
  subst this
  have hm : nth out v = -1 := by have := h.m0; rcases di_label hok h hi hneg d hv hp with g | g <;> omega
  have hs := nth_set (xs := out) (p := v) (x := m) (by rw [d.len]; exact hv)
  have e0 : nth out0 v = -1 := by
    have := h.m0
    rcases d.lab v hv with g | g
    · rw [← g]; exact hm
    · exact g.1
  refine ⟨by simp [d.len], fun a ha => ?_, fun a ha e => ?_, fun q hq => ?_, fun a b ha hb e he => ?_, ?_⟩
  · rw [hs]
    split
    · rename_i c; subst c; exact .inr ⟨e0, rfl⟩
    · exact d.lab a ha
  · rw [hs] at e
    split at e
    · rename_i c; subst c; exact hp
    · exact d.reach a ha e
  · rcases List.mem_append.1 hq with g | g
    · exact d.stk q (by simp [g])
    · obtain ⟨t, ht, k⟩ := mem_adj.1 g
      have tk := hok t ht
      rcases k with ⟨k1, k2⟩ | ⟨k1, k2⟩
      · have := tk.b0; have := tk.b1
        exact ⟨q.toNat, by omega, by omega, .step hp ⟨t, ht, .inl ⟨k1, by omega⟩⟩⟩
      · have := tk.a0; have := tk.a1
        exact ⟨q.toNat, by omega, by omega, .step hp ⟨t, ht, .inr ⟨k1, by omega⟩⟩⟩
  · by_cases c : b = v
    · left; rw [hs, if_pos c]
    · rw [hs] at e ⊢
      rw [if_neg c]
      by_cases c2 : a = v
      · subst c2
        right
        exact List.mem_append_right _ (mem_adj.2 he)
      · rw [if_neg c2] at e
        rcases d.front a b ha hb e he with g | g
        · exact .inl g
        · rcases List.mem_append.1 g with g | g
          · exact .inr (List.mem_append_left _ g)
          · exact absurd (by have := List.mem_singleton.1 g; omega) c
  · by_cases c : i = v
    · left; rw [hs, if_pos c]
    · rw [hs, if_neg c]
      rcases d.init with g | g
      · exact .inl g
      · rcases List.mem_append.1 g with g | g
        · exact .inr (List.mem_append_left _ g)
        · exact absurd (by have := List.mem_singleton.1 g; omega) c
theorem di_end {n : Nat} {th : List Th} {i : Nat} {out0 out : List Int} {m : Int} (hok : ∀ t ∈ th, ThOkP n t) (h : DF n th i out0 m) (hi : i < n) (hneg : nth out0 i < 0) (d : DI n th i out0 m out []) : DF n th (i + 1) out (m + 1) := by
  have m0 := h.m0
  have mi := h.mi
  have him : nth out i = m := by rcases d.init with g | g; exact g; cases g
  have closed : ∀ v w, v < n → w < n → nth out v = m → Ed th v w → nth out w = m := fun v w hv hw e he => by
    rcases d.front v w hv hw e he with g | g
    · exact g
    · cases g
  have old : ∀ v, v < n → 0 ≤ nth out0 v → nth out v = nth out0 v := fun v hv g => by
    rcases d.lab v hv with k | k
    · exact k
    · omega
  have three : ∀ v, v < n → nth out v = m ∨ (nth out v = nth out0 v ∧ nth out v ≠ m) := fun v hv => by
    by_cases c : nth out v = m
    · exact .inl c
    · rcases d.lab v hv with k | k
      · exact .inr ⟨k, c⟩
      · exact absurd k.2 c
  obtain ⟨cnt, c0, ci, cs⟩ := h.cnt
  have keep : ∀ j, j < i → nth out j = nth out0 j := fun j hj => old j (by omega) (h.done j hj)
  obtain ⟨c', g1, g2⟩ : ∃ c' : Nat → Int, (∀ j, j ≤ i → c' j = cnt j) ∧ c' (i + 1) = m + 1 := ⟨fun j => if j ≤ i then cnt j else m + 1, fun j hj => if_pos hj, if_neg (by omega)⟩
  refine ⟨d.len, hi, by omega, by omega, fun v hv => ?_, fun v w hv hw he => ?_, fun v w hv hw g e => ?_, fun j hj => ?_, fun l h1 h2 => ?_, c', by rw [g1 0 (by omega), c0], g2, fun j hj => ?_⟩
  · rcases d.lab v hv with k | k
    · rw [k]; rcases h.lab v hv with q | q
      · exact .inl q
      · exact .inr ⟨q.1, by omega⟩
    · exact .inr ⟨by omega, by omega⟩
  · rcases three v hv with k | ⟨k1, k2⟩
    · rw [k, closed v w hv hw k he]
    · rcases three w hw with q | ⟨q1, q2⟩
      · exact absurd (closed w v hw hv q he.symm) k2
      · rw [k1, q1]; exact h.edge v w hv hw he
  · rcases three v hv with k | ⟨k1, k2⟩
    · exact (d.reach v hv k).symm.trans (d.reach w hw (by rw [← e]; exact k))
    · rcases three w hw with q | ⟨q1, q2⟩
      · exact absurd (by rw [e]; exact q) k2
      · exact h.conn v w hv hw (by rw [← k1]; exact g) (by rw [← k1, ← q1]; exact e)
  · by_cases c : j = i
    · rw [c, him]; exact m0
    · rw [keep j (by omega)]; exact h.done j (by omega)
  · by_cases c : l = m
    · exact ⟨i, by omega, by rw [him, c]⟩
    · obtain ⟨j, hj, e⟩ := h.rep l h1 (by omega)
      exact ⟨j, by omega, by rw [keep j hj]; exact e⟩
  · by_cases c : j = i
    · subst c
      refine .inr ⟨fun ⟨k, hk, e⟩ => ?_, by rw [g1 j (by omega), ci, him], by rw [g2, g1 j (by omega), ci]⟩
      rw [keep k hk, him] at e
      rcases h.lab k (by omega) with q | q <;> omega
    · have hj' : j < i := by omega
      have := cs j hj'
      unfold Goes at *
      rw [g1 j (by omega), g1 (j + 1) (by omega), keep j hj']
      have ex : (∃ k, k < j ∧ nth out k = nth out0 j) ↔ ∃ k, k < j ∧ nth out0 k = nth out0 j := ⟨fun ⟨k, hk, e⟩ => ⟨k, hk, by rw [← keep k (by omega)]; exact e⟩, fun ⟨k, hk, e⟩ => ⟨k, hk, by rw [keep k (by omega)]; exact e⟩⟩
      rw [ex]; exact this
theorem df_char {n : Nat} {th : List Th} {out : List Int} {m : Int} (hok : ∀ t ∈ th, ThOkP n t) (h : DF n th n out m) : Char n (Pa th) out m :=
  ⟨h.len, fun i j hi hj => ⟨fun e => h.conn i j hi hj (h.done i hi) e, fun hp => hp.const hok h.edge hi⟩, h.cnt⟩
end Go.Proofs.Ytnjpigkijdnpkaa
namespace Go.Proofs.Ytnjpigkijdnpkaa
set_option linter.all false
open Go Go.Awp
set_option maxRecDepth 100000
set_option maxHeartbeats 4000000
set_option pp.deepTerms true

-- roots behind others
@[simp] theorem app_at (H t : Heap) : (H ++ t)[H.length]? = t[0]? := by rw [List.getElem?_append_right (Nat.le_refl _), Nat.sub_self]
@[simp] theorem app_atk (H t : Heap) (k : Nat) : (H ++ t)[H.length + k]? = t[k]? := by rw [List.getElem?_append_right (by omega), Nat.add_sub_cancel_left]
@[simp] theorem app_set (H t : Heap) (x : Root) : (H ++ t).set H.length x = H ++ t.set 0 x := by simp
@[simp] theorem app_setk (H t : Heap) (k : Nat) (x : Root) : (H ++ t).set (H.length + k) x = H ++ t.set k x := by simp
@[simp] theorem app_take (H t : Heap) (k : Nat) : (H ++ t).take (H.length + k) = H ++ t.take k := List.take_length_add_append k
@[simp] theorem app_take0 (H t : Heap) : (H ++ t).take H.length = H := List.take_left
theorem setL_app {H t : Heap} {r : Nat} (x : Root) (h : r < H.length) : setL (H ++ t) r x = setL H r x ++ t := by
  apply List.ext_getElem?
  intro j
  rw [setL_get, List.getElem?_append, List.getElem?_append, setL_get, setL_length]
  by_cases c : j < H.length
  · rw [if_pos c, if_pos c]
  · rw [if_neg c, if_neg c, if_neg (by omega)]
theorem setL_app2 {H t : Heap} (k : Nat) (x : Root) : setL (H ++ t) (H.length + k) x = H ++ setL t k x := by
  apply List.ext_getElem?
  intro j
  rw [setL_get, List.getElem?_append, List.getElem?_append, setL_get]
  by_cases c : j < H.length
  · rw [if_pos c, if_pos c, if_neg (by omega)]
  · rw [if_neg c, if_neg c]
    by_cases c2 : j = H.length + k
    · rw [if_pos c2, if_pos (by omega)]
    · rw [if_neg c2, if_neg (by omega)]
@[simp] theorem setL_appk (H t : Heap) (k : Nat) (x : Root) : setL (H ++ t) (H.length + k) x = H ++ setL t k x := setL_app2 k x
@[simp] theorem setL_app0 (H t : Heap) (x : Root) : setL (H ++ t) H.length x = H ++ setL t 0 x := setL_app2 0 x

/-- Entries of a map of rows: the key, the row's root, the row. -/
abbrev Ent := Int × Nat × List Int
def entK (es : List Ent) : List (List Int) := es.map fun x => [x.1]
def entS (es : List Ent) : List AV := es.map fun x => .slc x.2.1 0 x.2.2.length 1
def entW (es : List Ent) : List AV := es.map fun x => .view true (cIs x.2.2) x.2.2.length
structure Rows (H : Heap) (m : Nat) (es : List Ent) : Prop where
  map : H[m]? = some (.blk true true 0 (rowA (entK es) (entS es)))
  row : ∀ x ∈ es, H[x.2.1]? = some (.blk true false 2 (cIs x.2.2))
  off : ∀ x ∈ es, x.2.1 ≠ m
  apart : (es.map (·.2.1)).Nodup
  keys : (es.map (·.1)).Nodup
  wf : ∀ x ∈ es, I64 x.1
def rowOf (es : List Ent) (p : Int) : List Int := ((es.find? fun x => x.1 == p).map (·.2.2)).getD []
abbrev cloB (c : Clo) : Root := .blk true true 51 [.view false (cVs c.pl) c.pl.length, .view false (cVs c.ol) c.ol.length, .view false (cTs c.th) c.th.length, .view false (cIs c.pin) c.pin.length]
structure Inv1 (c : Clo) (x : Nat × Heap × List Ent) : Prop where
  le : x.1 ≤ c.th.length
  box : x.2.1[0]? = some (cloB c)
  rows : Rows x.2.1 1 x.2.2
  adj : ∀ p, rowOf x.2.2 p = adj (c.th.take x.1) p
theorem List.nodup_map_of_inj {α β : Type} {l : List α} (f : α → β) (hf : ∀ a b, f a = f b → a = b) (h : l.Nodup) : (l.map f).Nodup := by
  unfold List.Nodup at *
  rw [List.pairwise_map]
  exact h.imp fun hne e => hne (hf _ _ e)
theorem getM_ent : ∀ (es : List Ent) (p : Int), getM (entK es) (entS es) [p] .nils = match es.find? (fun x => x.1 == p) with
    | some x => .slc x.2.1 0 x.2.2.length 1
    | none => .nils
  | [], p => rfl
  | x :: es, p => by
    show (if [x.1] = [p] then _ else getM (entK es) (entS es) [p] .nils) = _
    by_cases c : x.1 = p
    · subst c; simp
    · simp [c, getM_ent es p]
theorem getM_entW : ∀ (es : List Ent) (p : Int), getM (entK es) (entW es) [p] .nils = match es.find? (fun x => x.1 == p) with
    | some x => .view true (cIs x.2.2) x.2.2.length
    | none => .nils
  | [], p => rfl
  | x :: es, p => by
    show (if [x.1] = [p] then _ else getM (entK es) (entW es) [p] .nils) = _
    by_cases c : x.1 = p
    · subst c; simp
    · simp [c, getM_entW es p]
theorem Rows.at {H : Heap} {m : Nat} {es : List Ent} (h : Rows H m es) (t : Heap) : MapAt (H ++ t) m true true 0 (entK es) (entS es) := by
  have hl := (List.getElem?_eq_some_iff.1 h.map).1
  refine ⟨by rw [List.getElem?_append_left hl]; exact h.map, by simp [entK, entS], ⟨fun k hk => ?_, fun k hk => ?_, ?_⟩⟩
  · obtain ⟨x, _, rfl⟩ := List.mem_map.1 hk; rfl
  · obtain ⟨x, hx, rfl⟩ := List.mem_map.1 hk
    intro y hy
    rw [List.mem_singleton.1 hy]
    have := h.wf x hx
    unfold I64 at this; omega
  · have : entK es = (es.map (·.1)).map fun x => [x] := by simp [entK]
    rw [this]
    exact List.nodup_map_of_inj _ (fun a b e => by simpa using e) h.keys
theorem map_key : KeyOk Try.prog 2 0 := keyOk_int Try.underlying2
theorem zero_row : zeroOne Try.prog 38 = some .nils := by kernel_rfl

def updE (p : Int) (r : Nat) (q : Int) (es : List Ent) : List Ent := es.map fun y => if y.1 = p then (p, r, y.2.2 ++ [q]) else y
theorem updE_id {p : Int} {r : Nat} {q : Int} : ∀ {es : List Ent}, (∀ y ∈ es, y.1 ≠ p) → updE p r q es = es
  | [], _ => rfl
  | y :: es, h => by
    show (if y.1 = p then _ else y) :: updE p r q es = _
    rw [if_neg (h y (List.mem_cons_self ..)), updE_id fun z hz => h z (List.mem_cons_of_mem _ hz)]
theorem entK_cons (y : Ent) (es : List Ent) : entK (y :: es) = [y.1] :: entK es := rfl
theorem entS_cons (y : Ent) (es : List Ent) : entS (y :: es) = .slc y.2.1 0 y.2.2.length 1 :: entS es := rfl
theorem updE_cons (p : Int) (r : Nat) (q : Int) (y : Ent) (es : List Ent) : updE p r q (y :: es) = (if y.1 = p then (p, r, y.2.2 ++ [q]) else y) :: updE p r q es := rfl
theorem putK_cons (k' k : List Int) (ks : List (List Int)) : putK (k' :: ks) k = if k' = k then k' :: ks else k' :: putK ks k := rfl
theorem putV_cons (k' k : List Int) (ks : List (List Int)) (v' v : AV) (vs : List AV) : putV (k' :: ks) (v' :: vs) k v = if k' = k then v :: vs else v' :: putV ks vs k v := rfl
theorem inj_of_nodup {α β : Type} {f : α → β} : ∀ {l : List α}, (l.map f).Nodup → ∀ {a b : α}, a ∈ l → b ∈ l → f a = f b → a = b
  | [], _, a, _, ha, _, _ => by simp at ha
  | x :: l, h, a, b, ha, hb, e => by
    have h' : f x ∉ l.map f ∧ (l.map f).Nodup := by simpa using h
    by_cases ca : a = x
    · by_cases cb : b = x
      · rw [ca, cb]
      · exact absurd (List.mem_map.2 ⟨b, (List.mem_cons.1 hb).resolve_left cb, by rw [← e, ca]⟩) h'.1
    · by_cases cb : b = x
      · exact absurd (List.mem_map.2 ⟨a, (List.mem_cons.1 ha).resolve_left ca, by rw [e, cb]⟩) h'.1
      · exact inj_of_nodup h'.2 ((List.mem_cons.1 ha).resolve_left ca) ((List.mem_cons.1 hb).resolve_left cb) e
theorem put_upd {p : Int} {r : Nat} {q : Int} : ∀ {es : List Ent} {x : Ent}, (es.map (·.1)).Nodup → es.find? (fun y => y.1 == p) = some x →
    putK (entK es) [p] = entK (updE p r q es) ∧ putV (entK es) (entS es) [p] (.slc r 0 (x.2.2.length + 1) 1) = entS (updE p r q es)
  | [], x, _, h => by simp at h
  | y :: es, x, hn, h => by
    have hn' : y.1 ∉ es.map (·.1) ∧ (es.map (·.1)).Nodup := by simpa using hn
    rw [entK_cons, entS_cons, updE_cons, putK_cons, putV_cons]
    by_cases c : y.1 = p
    · rw [List.find?_cons_of_pos (by simpa using c)] at h
      cases h
      have hid : updE p r q es = es := updE_id fun z hz e => hn'.1 (List.mem_map.2 ⟨z, hz, by rw [e, c]⟩)
      have c' : [y.1] = [p] := by rw [c]
      rw [hid, if_pos c', if_pos c', if_pos c, entK_cons, entS_cons]
      exact ⟨by rw [c], by simp⟩
    · rw [List.find?_cons_of_neg (by simpa using c)] at h
      obtain ⟨g1, g2⟩ := put_upd (r := r) (q := q) hn'.2 h
      have c' : ¬ [y.1] = [p] := fun e => c (by simpa using e)
      rw [if_neg c', if_neg c', if_neg c, entK_cons, entS_cons, g1, g2]
      exact ⟨rfl, rfl⟩
theorem put_add {p : Int} {r : Nat} {q : Int} : ∀ {es : List Ent}, es.find? (fun y => y.1 == p) = none →
    putK (entK es) [p] = entK (es ++ [(p, r, [q])]) ∧ putV (entK es) (entS es) [p] (.slc r 0 1 1) = entS (es ++ [(p, r, [q])])
  | [], _ => ⟨rfl, rfl⟩
  | y :: es, h => by
    have c : ¬ y.1 = p := by simpa using List.find?_eq_none.1 h y (List.mem_cons_self ..)
    rw [List.find?_cons_of_neg (by simpa using c)] at h
    obtain ⟨g1, g2⟩ := put_add (r := r) (q := q) h
    have c' : ¬ [y.1] = [p] := fun e => c (by simpa using e)
    rw [List.cons_append, entK_cons, entS_cons, entK_cons, entS_cons, putK_cons, putV_cons, if_neg c', if_neg c', g1, g2]
    exact ⟨rfl, rfl⟩
theorem find_upd {p z : Int} {r : Nat} {q : Int} : ∀ {es : List Ent}, (updE p r q es).find? (fun y => y.1 == z) = (es.find? (fun y => y.1 == z)).map fun y => if y.1 = p then (p, r, y.2.2 ++ [q]) else y
  | [] => rfl
  | y :: es => by
    have key : (if y.1 = p then (p, r, y.2.2 ++ [q]) else y).1 = y.1 := by split <;> simp_all
    show ((if y.1 = p then (p, r, y.2.2 ++ [q]) else y) :: updE p r q es).find? _ = _
    rw [List.find?_cons, List.find?_cons, key]
    cases y.1 == z with
    | true => rfl
    | false => exact find_upd
theorem map_laid {H : Heap} {r q : Nat} {nw bx : Bool} {e : Nat} {ks : List (List Int)} {vs : List AV} {x : Root} (h : MapAt H r nw bx e ks vs) (hne : r ≠ q) : MapAt (setL H q x) r nw bx e ks vs :=
  ⟨by rw [setL_get, if_neg hne]; exact h.1, h.2⟩
theorem map_liv {H : Heap} {r : Nat} {nw bx : Bool} {e : Nat} {ks : List (List Int)} {vs : List AV} (h : MapAt H r nw bx e ks vs) : Go.Awp.liv H[r]? = true := by
  rw [h.1]; rfl
/-- What is known behind an entry's new row. -/
structure Pushed (c : Clo) (H t H' : Heap) (es es' : List Ent) (p q : Int) : Prop where
  rows : Rows H' 1 es'
  row : ∀ z, rowOf es' z = if z = p then rowOf es z ++ [q] else rowOf es z
  box : H'[0]? = some (cloB c)
  at_ : ∀ i, H'[H.length + i]? = t[i]?
  len : H'.length = H.length + t.length
theorem push_upd {c : Clo} {H t : Heap} {es : List Ent} {p q : Int} {x : Ent} {j : Nat} (hR : Rows H 1 es) (hb : H[0]? = some (cloB c)) (hf : es.find? (fun y => y.1 == p) = some x) (ht : t[j]? = some (.blk true false 2 (cIs (x.2.2 ++ [q])))) :
    ∃ es', Pushed c H t (setL (setL (H ++ t) x.2.1 .gone) 1 (.blk true true 0 (rowA (putK (entK es) [p]) (putV (entK es) (entS es) [p] (.slc (H.length + j) 0 (x.2.2.length + 1) 1))))) es es' p q := by
  have hx := List.mem_of_find?_eq_some hf
  have hxp : x.1 = p := by simpa using List.find?_some hf
  have hl := (List.getElem?_eq_some_iff.1 hR.map).1
  have hxl := (List.getElem?_eq_some_iff.1 (hR.row x hx)).1
  have hx1 := hR.off x hx
  have get : ∀ i, i ≠ 1 → i ≠ x.2.1 → (setL (setL (H ++ t) x.2.1 .gone) 1 (.blk true true 0 (rowA (putK (entK es) [p]) (putV (entK es) (entS es) [p] (.slc (H.length + j) 0 (x.2.2.length + 1) 1)))))[i]? = (H ++ t)[i]? := fun i h1 h2 => by
    rw [setL_get, if_neg h1, setL_get, if_neg h2]
  have hx0 : x.2.1 ≠ 0 := fun e => by
    have := hR.row x hx
    rw [e, hb] at this; cases this
  obtain ⟨g1, g2⟩ := put_upd (r := H.length + j) (q := q) hR.keys hf
  have kz : ∀ y ∈ es, y.1 ≠ p → y.2.1 ≠ x.2.1 := fun y hy hne e => hne (by rw [inj_of_nodup (f := fun x : Ent => x.2.1) hR.apart hy hx e, hxp])
  refine ⟨updE p (H.length + j) q es, ⟨?_, fun y hy => ?_, fun y hy => ?_, ?_, ?_, fun y hy => ?_⟩, fun z => ?_, ?_, fun i => ?_, by simp [setL_length]⟩
  · rw [setL_get, if_pos rfl, setL_get, if_neg (fun e => hx1 e.symm), List.getElem?_append_left hl, hR.map, g1, g2]; rfl
  · obtain ⟨y0, hy0, rfl⟩ := List.mem_map.1 hy
    by_cases e : y0.1 = p
    · have : y0 = x := inj_of_nodup (f := fun x : Ent => x.1) hR.keys hy0 hx (by rw [e, hxp])
      subst this
      rw [if_pos e]
      show (_ : Heap)[H.length + j]? = some (Root.blk true false 2 (cIs (y0.2.2 ++ [q])))
      rw [get _ (by omega) (by omega), List.getElem?_append_right (by omega), Nat.add_sub_cancel_left]; exact ht
    · rw [if_neg e, get _ (hR.off y0 hy0) (kz y0 hy0 e), List.getElem?_append_left (List.getElem?_eq_some_iff.1 (hR.row y0 hy0)).1]
      exact hR.row y0 hy0
  · obtain ⟨y0, hy0, rfl⟩ := List.mem_map.1 hy
    split
    · show H.length + j ≠ 1; omega
    · exact hR.off y0 hy0
  · unfold List.Nodup updE
    rw [List.map_map, List.pairwise_map]
    have hpw : es.Pairwise fun a b => a.2.1 ≠ b.2.1 := by have := hR.apart; unfold List.Nodup at this; rwa [List.pairwise_map] at this
    have hpk : es.Pairwise fun a b => a.1 ≠ b.1 := by have := hR.keys; unfold List.Nodup at this; rwa [List.pairwise_map] at this
    refine ((hpw.and hpk).imp_of_mem fun {a b} ha hb' hab => ?_)
    have la := (List.getElem?_eq_some_iff.1 (hR.row a ha)).1
    have lb := (List.getElem?_eq_some_iff.1 (hR.row b hb')).1
    show (if a.1 = p then (p, H.length + j, a.2.2 ++ [q]) else a).2.1 ≠ (if b.1 = p then (p, H.length + j, b.2.2 ++ [q]) else b).2.1
    by_cases e1 : a.1 = p
    · by_cases e2 : b.1 = p
      · exact absurd (e1.trans e2.symm) hab.2
      · rw [if_pos e1, if_neg e2]; show H.length + j ≠ _; omega
    · by_cases e2 : b.1 = p
      · rw [if_neg e1, if_pos e2]; show _ ≠ H.length + j; omega
      · rw [if_neg e1, if_neg e2]; exact hab.1
  · have : (updE p (H.length + j) q es).map (·.1) = es.map (·.1) := by
      unfold updE
      rw [List.map_map]
      refine List.map_congr_left fun y _ => ?_
      show (if y.1 = p then _ else y).1 = y.1
      split <;> simp_all
    rw [this]; exact hR.keys
  · obtain ⟨y0, hy0, rfl⟩ := List.mem_map.1 hy
    split
    · rename_i e; show I64 p; rw [← e]; exact hR.wf y0 hy0
    · exact hR.wf y0 hy0
  · unfold rowOf
    rw [find_upd]
    by_cases e : z = p
    · subst e
      rw [if_pos rfl, hf]
      simp [hxp]
    · rw [if_neg e]
      cases h : es.find? (fun y => y.1 == z) with
      | none => rfl
      | some y =>
        have : y.1 = z := by simpa using List.find?_some h
        simp only [Option.map_some, Option.getD_some]
        rw [if_neg (by rw [this]; exact e)]
  · rw [get 0 (by omega) (fun e => hx0 e.symm), List.getElem?_append_left (by omega)]; exact hb
  · rw [get _ (by omega) (by omega), List.getElem?_append_right (by omega), Nat.add_sub_cancel_left]
theorem push_add {c : Clo} {H t : Heap} {es : List Ent} {p q : Int} {j : Nat} (hR : Rows H 1 es) (hb : H[0]? = some (cloB c)) (hp : I64 p) (hf : es.find? (fun y => y.1 == p) = none) (ht : t[j]? = some (.blk true false 2 (cIs [q]))) :
    ∃ es', Pushed c H t (setL (H ++ t) 1 (.blk true true 0 (rowA (putK (entK es) [p]) (putV (entK es) (entS es) [p] (.slc (H.length + j) 0 1 1))))) es es' p q := by
  have hl := (List.getElem?_eq_some_iff.1 hR.map).1
  have get : ∀ i, i ≠ 1 → (setL (H ++ t) 1 (.blk true true 0 (rowA (putK (entK es) [p]) (putV (entK es) (entS es) [p] (.slc (H.length + j) 0 1 1)))))[i]? = (H ++ t)[i]? := fun i h1 => by
    rw [setL_get, if_neg h1]
  have hno : ∀ y ∈ es, y.1 ≠ p := fun y hy => by simpa using List.find?_eq_none.1 hf y hy
  obtain ⟨g1, g2⟩ := put_add (r := H.length + j) (q := q) hf
  refine ⟨es ++ [(p, H.length + j, [q])], ⟨?_, fun y hy => ?_, fun y hy => ?_, ?_, ?_, fun y hy => ?_⟩, fun z => ?_, ?_, fun i => ?_, by simp [setL_length]⟩
  · rw [setL_get, if_pos rfl, List.getElem?_append_left hl, hR.map, g1, g2]; rfl
  · rcases List.mem_append.1 hy with h | h
    · rw [get _ (hR.off y h), List.getElem?_append_left (List.getElem?_eq_some_iff.1 (hR.row y h)).1]; exact hR.row y h
    · rw [List.mem_singleton.1 h]
      show (_ : Heap)[H.length + j]? = _
      rw [get _ (by omega), List.getElem?_append_right (by omega), Nat.add_sub_cancel_left]; exact ht
  · rcases List.mem_append.1 hy with h | h
    · exact hR.off y h
    · rw [List.mem_singleton.1 h]; show H.length + j ≠ 1; omega
  · rw [List.map_append, List.nodup_append]
    refine ⟨hR.apart, by simp, fun a ha b hb' => ?_⟩
    obtain ⟨y, hy, rfl⟩ := List.mem_map.1 ha
    have := (List.getElem?_eq_some_iff.1 (hR.row y hy)).1
    simp at hb'; subst hb'; omega
  · rw [List.map_append, List.nodup_append]
    refine ⟨hR.keys, by simp, fun a ha b hb' => ?_⟩
    obtain ⟨y, hy, rfl⟩ := List.mem_map.1 ha
    simp at hb'; subst hb'; exact hno y hy
  · rcases List.mem_append.1 hy with h | h
    · exact hR.wf y h
    · rw [List.mem_singleton.1 h]; exact hp
  · unfold rowOf
    rw [List.find?_append]
    by_cases e : z = p
    · subst e
      rw [if_pos rfl, hf]; simp
    · rw [if_neg e]
      have e' : ¬ p = z := fun h => e h.symm
      cases es.find? (fun y => y.1 == z) with
      | none => simp [List.find?_cons_of_neg, e']
      | some y => rfl
  · rw [get 0 (by omega), List.getElem?_append_left (by omega)]; exact hb
  · rw [get _ (by omega), List.getElem?_append_right (by omega), Nat.add_sub_cancel_left]
theorem adj_take {th : List Th} {k : Nat} (h : k < th.length) (p : Int) : adj (th.take (k + 1)) p = adj (th.take k) p ++ adj1 th[k] p := by
  unfold adj
  rw [← List.take_append_getElem h, List.flatMap_append]; simp
end Go.Proofs.Ytnjpigkijdnpkaa
namespace Go.Proofs.Ytnjpigkijdnpkaa
set_option linter.all false
open Go Go.Awp
set_option maxRecDepth 100000
set_option maxHeartbeats 4000000
set_option pp.deepTerms true

structure Vld (c : Clo) : Prop where
  pl : c.pl.length ≤ 64
  th : c.th.length ≤ 256
  ok : ∀ t ∈ c.th, ThOkP c.pl.length t
theorem vld_of {c : Clo} (h : vldC c = true) : Vld c := by
  unfold vldC at h
  simp only [Bool.and_eq_true, decide_eq_true_eq, List.all_eq_true] at h
  obtain ⟨⟨⟨⟨h1, h2⟩, h3⟩, h4⟩, h5⟩ := h
  refine ⟨h1, h3, fun t ht => ?_⟩
  have := h4 t ht
  simp only [thrB, inB, Bool.and_eq_true, decide_eq_true_eq] at this
  exact ⟨by omega, by omega, by omega, by omega⟩
theorem adj1_len (t : Th) (p : Int) : (adj1 t p).length ≤ 2 := by
  unfold adj1
  split <;> split <;> simp
theorem adj_len (p : Int) : ∀ (th : List Th), (adj th p).length ≤ 2 * th.length
  | [] => by simp [adj]
  | t :: th => by
    have h1 := adj_len p th
    have h2 := adj1_len t p
    unfold adj at *
    simp only [List.flatMap_cons, List.length_append, List.length_cons]
    omega
theorem row_at {es : List Ent} {p : Int} {x : Ent} (h : es.find? (fun y => y.1 == p) = some x) : rowOf es p = x.2.2 := by
  unfold rowOf; rw [h]; rfl

/-- How many places have no number yet. -/
def negs (xs : List Int) : Nat := xs.countP (· < 0)
theorem negs_le (xs : List Int) : negs xs ≤ xs.length := List.countP_le_length
theorem negs_set {xs : List Int} {p : Nat} {m : Int} (h : p < xs.length) (h0 : nth xs p < 0) (hm : 0 ≤ m) : negs (xs.set p m) + 1 = negs xs := by
  rw [nth_at h] at h0
  unfold negs
  rw [List.countP_set h]
  have h1 : 0 < xs.countP (· < 0) := List.countP_pos_iff.2 ⟨xs[p], List.getElem_mem h, by simpa using h0⟩
  have e1 : decide (xs[p] < 0) = true := decide_eq_true h0
  have e2 : decide (m < 0) = false := decide_eq_false (by omega)
  simp only [e1, e2, if_true]
  simp
  omega
theorem cIs_mid (a b : List Int) (x : Int) : (cIs (a ++ x :: b))[a.length]? = some (.int .i64 x) := by
  unfold cIs
  rw [List.getElem?_map, List.getElem?_append_right (Nat.le_refl _), Nat.sub_self]; rfl
structure Inv4 (n : Nat) (th : List Th) (i : Nat) (out0 : List Int) (m : Int) (x : List Int × List Int × List Int) : Prop where
  di : DI n th i out0 m x.1 x.2.1
  small : negs x.1 * 600 + x.2.1.length ≤ 38401
theorem c_Pieces (c : Clo) (hs : c.Small) (hv : vldC c = true) {xs : List Int} {kk : Int} (hc : Char c.pl.length (Pa c.th) xs kk) : Fun Try.prog 27 [c.av] [] (.tup [.slc 0 0 c.pl.length 1, .int .i64 kk, .bool true]) [.blk true false 2 (cIs xs)] := by
  have hV := vld_of hv
  refine FnSpec.walkW dr_ok Try.func27 rfl (by kernel_rfl) rfl rfl rfl (by simp) ?_
  simp
  (first | refine callG_r ?_ | refine callD_r ?_); simp; (first | refine callN_flat (by with_reducible first | exact c_ValidCloth c hs) rfl ?_ | refine callN_new (by with_reducible first | exact c_ValidCloth c hs) ?_ | refine callM_flat (by with_reducible first | exact c_ValidCloth c hs) rfl ?_ | refine callM_new (by with_reducible first | exact c_ValidCloth c hs) ?_)
  simp [hv]
  obtain ⟨h1, h2, h3, h4⟩ := hs
  refine make_r 0 Try.underlying99 ?_
  simp
  refine loopG_of (α := Nat × Heap × List Ent) (Inv1 c) (fun x => c.th.length - x.1) (fun x => [(1, .ptr 0 0), (5, .mp 1), (19, .view false (cTs c.th) c.th.length), (20, .int .i64 c.th.length), (21, .int .i64 x.1)]) (fun x => x.2.1)
    (0, [cloB c, .blk true true 0 []], []) ?_ ?_ fun x hx => ?_
  · exact ⟨by simp, by simp, ⟨by simp [rowA, entK, entS], by simp, by simp, by simp, by simp, by simp⟩, fun p => by simp [rowOf, adj]⟩
  · exact weak_UH rfl (by simp)
  obtain ⟨k, H, es⟩ := x
  obtain ⟨i1, i2, i3, i4⟩ := hx
  simp only at i1 i2 i3 i4
  have hw := nat_wrap (k := k) (by omega)
  by_cases b : k < c.th.length
  · obtain ⟨t1, t2, t3, t4⟩ := hV.ok _ (List.getElem_mem b)
    have hpl := hV.pl
    have hth := hV.th
    have ha := adj_take b
    simp [b, hw]
    generalize c.th[k] = T at *
    obtain ⟨A, B, L⟩ := T
    simp only at t1 t2 t3 t4
    have IA : I64 A := by unfold I64; omega
    have IB : I64 B := by unfold I64; omega
    have w1 : WfK [A] := fun y hy => by rw [List.mem_singleton.1 hy]; omega
    have w2 : WfK [B] := fun y hy => by rw [List.mem_singleton.1 hy]; omega
    refine lookD_r Try.underlying99 map_key (k := [A]) rfl w1 zero_row (i3.at _) rfl rfl ?_
    rw [getM_ent]
    cases hf : es.find? (fun x => x.1 == A) with
    | some x =>
      have hx := List.mem_of_find?_eq_some hf
      have hr := i3.row x hx
      have hrl : x.2.1 < H.length := (List.getElem?_eq_some_iff.1 hr).1
      have hra : ∀ t : Heap, (H ++ t)[x.2.1]? = some (.blk true false 2 (cIs x.2.2)) := fun t => by rw [List.getElem?_append_left hrl]; exact hr
      have hxl : x.2.2.length ≤ 512 := by
        have := adj_len A (c.th.take k)
        rw [← i4, row_at hf, List.length_take] at this; omega
      have hx1 := i3.off x hx
      obtain ⟨es1, hp⟩ := push_upd (c := c) (t := [.blk true true 96 [.int .i64 A, .int .i64 B, .flt .f32 L], .blk true false 2 (cIs [B]), .blk true false 2 (cIs (x.2.2 ++ [B]))]) (j := 2) i3 i2 hf rfl
      simp [hra]
      refine ⟨by omega, by omega, by omega, ?_⟩
      have hm := map_laid (q := x.2.1) (x := .gone) (i3.at [.blk true true 96 [.int .i64 A, .int .i64 B, .flt .f32 L], .blk true false 2 (cIs [B]), .blk true false 2 (cIs (x.2.2 ++ [B]))]) (fun e => hx1 e.symm)
      refine putD_r Try.underlying99 map_key (k := [A]) rfl w1 hm rfl rfl rfl rfl ?_
      simp
      refine ⟨map_liv hm, ?_⟩
      generalize setL (setL (H ++ _) _ _) _ _ = H1 at hp ⊢
      have e0 : H1[H.length]? = some (.blk true true 96 [.int .i64 A, .int .i64 B, .flt .f32 L]) := hp.at_ 0
      have el : H.length < H1.length := by rw [hp.len]; simp
      have eT : ∀ t : Heap, (H1 ++ t)[H.length]? = some (.blk true true 96 [.int .i64 A, .int .i64 B, .flt .f32 L]) := fun t => by rw [List.getElem?_append_left el]; exact e0
      have j3 := hp.rows
      simp [e0, eT]
      refine lookD_r Try.underlying99 map_key (k := [B]) rfl w2 zero_row (by simpa using j3.at []) rfl rfl ?_
      rw [getM_ent]
      cases hg : es1.find? (fun x => x.1 == B) with
      | some y =>
        have hy := List.mem_of_find?_eq_some hg
        have gr := j3.row y hy
        have grl : y.2.1 < H1.length := (List.getElem?_eq_some_iff.1 gr).1
        have gra : ∀ t : Heap, (H1 ++ t)[y.2.1]? = some (.blk true false 2 (cIs y.2.2)) := fun t => by rw [List.getElem?_append_left grl]; exact gr
        have gyl : y.2.2.length ≤ 513 := by
          have := adj_len B (c.th.take k)
          rw [← row_at hg, hp.row, i4]
          rw [List.length_take] at this
          split <;> simp <;> omega
        have gne : ¬ y.2.1 = H.length := fun e => by rw [e, e0] at gr; cases gr
        obtain ⟨es2, hq⟩ := push_upd (c := c) (t := [.blk true false 2 (cIs [A]), .blk true false 2 (cIs (y.2.2 ++ [A]))]) (j := 1) j3 hp.box hg rfl
        have gy1 := j3.off y hy
        simp [e0, eT, gra, gr, gne]
        refine ⟨by omega, by omega, ?_⟩
        have hm2 := map_laid (q := y.2.1) (x := .gone) (j3.at [.blk true false 2 (cIs [A]), .blk true false 2 (cIs (y.2.2 ++ [A]))]) (fun e => gy1 e.symm)
        refine putD_r Try.underlying99 map_key (k := [B]) rfl w2 hm2 rfl rfl rfl rfl ?_
        simp
        refine ⟨map_liv hm2, ?_⟩
        generalize setL (setL (H1 ++ _) _ _) _ _ = H2 at hq ⊢
        have hfin : Inv1 c (k + 1, H2, es2) := by
          refine ⟨by simp; omega, hq.box, hq.rows, fun z => ?_⟩
          show rowOf es2 z = adj (c.th.take (k + 1)) z
          rw [ha, hq.row, hp.row, i4]
          unfold adj1
          by_cases eA : z = A
          · by_cases eB : z = B
            · subst eA; subst eB; simp
            · have : ¬ B = z := fun e => eB e.symm
              subst eA; simp [eB, this]
          · have eA' : ¬ A = z := fun e => eA e.symm
            by_cases eB : z = B
            · subst eB; simp [eA, eA']
            · have eB' : ¬ B = z := fun e => eB e.symm
              simp [eA, eB, eA', eB']
        refine loopK_next (k + 1, H2, es2) (by simp; omega) hfin (weak_UH rfl (by simp [hw]))
      | none =>
        obtain ⟨es2, hq⟩ := push_add (c := c) (t := [.blk true false 2 (cIs [A]), .blk true false 2 (cIs [A])]) (j := 1) j3 hp.box IB hg rfl
        simp [e0, eT]
        have hm2 := j3.at [.blk true false 2 (cIs [A]), .blk true false 2 (cIs [A])]
        refine putD_r Try.underlying99 map_key (k := [B]) rfl w2 hm2 rfl rfl rfl rfl ?_
        simp
        refine ⟨by have := map_liv hm2; simpa using this, ?_⟩
        generalize setL (H1 ++ _) _ _ = H2 at hq ⊢
        have hfin : Inv1 c (k + 1, H2, es2) := by
          refine ⟨by simp; omega, hq.box, hq.rows, fun z => ?_⟩
          show rowOf es2 z = adj (c.th.take (k + 1)) z
          rw [ha, hq.row, hp.row, i4]
          unfold adj1
          by_cases eA : z = A
          · by_cases eB : z = B
            · subst eA; subst eB; simp
            · have : ¬ B = z := fun e => eB e.symm
              subst eA; simp [eB, this]
          · have eA' : ¬ A = z := fun e => eA e.symm
            by_cases eB : z = B
            · subst eB; simp [eA, eA']
            · have eB' : ¬ B = z := fun e => eB e.symm
              simp [eA, eB, eA', eB']
        refine loopK_next (k + 1, H2, es2) (by simp; omega) hfin (weak_UH rfl (by simp [hw]))
    | none =>
      obtain ⟨es1, hp⟩ := push_add (c := c) (t := [.blk true true 96 [.int .i64 A, .int .i64 B, .flt .f32 L], .blk true false 2 (cIs [B]), .blk true false 2 (cIs [B])]) (j := 2) i3 i2 IA hf rfl
      simp
      have hm := i3.at [.blk true true 96 [.int .i64 A, .int .i64 B, .flt .f32 L], .blk true false 2 (cIs [B]), .blk true false 2 (cIs [B])]
      refine putD_r Try.underlying99 map_key (k := [A]) rfl w1 hm rfl rfl rfl rfl ?_
      simp
      refine ⟨by have := map_liv hm; simpa using this, ?_⟩
      generalize setL (H ++ _) _ _ = H1 at hp ⊢
      have e0 : H1[H.length]? = some (.blk true true 96 [.int .i64 A, .int .i64 B, .flt .f32 L]) := hp.at_ 0
      have el : H.length < H1.length := by rw [hp.len]; simp
      have eT : ∀ t : Heap, (H1 ++ t)[H.length]? = some (.blk true true 96 [.int .i64 A, .int .i64 B, .flt .f32 L]) := fun t => by rw [List.getElem?_append_left el]; exact e0
      have j3 := hp.rows
      simp [e0, eT]
      refine lookD_r Try.underlying99 map_key (k := [B]) rfl w2 zero_row (by simpa using j3.at []) rfl rfl ?_
      rw [getM_ent]
      cases hg : es1.find? (fun x => x.1 == B) with
      | some y =>
        have hy := List.mem_of_find?_eq_some hg
        have gr := j3.row y hy
        have grl : y.2.1 < H1.length := (List.getElem?_eq_some_iff.1 gr).1
        have gra : ∀ t : Heap, (H1 ++ t)[y.2.1]? = some (.blk true false 2 (cIs y.2.2)) := fun t => by rw [List.getElem?_append_left grl]; exact gr
        have gyl : y.2.2.length ≤ 513 := by
          have := adj_len B (c.th.take k)
          rw [← row_at hg, hp.row, i4]
          rw [List.length_take] at this
          split <;> simp <;> omega
        have gne : ¬ y.2.1 = H.length := fun e => by rw [e, e0] at gr; cases gr
        obtain ⟨es2, hq⟩ := push_upd (c := c) (t := [.blk true false 2 (cIs [A]), .blk true false 2 (cIs (y.2.2 ++ [A]))]) (j := 1) j3 hp.box hg rfl
        have gy1 := j3.off y hy
        simp [e0, eT, gra, gr, gne]
        refine ⟨by omega, by omega, ?_⟩
        have hm2 := map_laid (q := y.2.1) (x := .gone) (j3.at [.blk true false 2 (cIs [A]), .blk true false 2 (cIs (y.2.2 ++ [A]))]) (fun e => gy1 e.symm)
        refine putD_r Try.underlying99 map_key (k := [B]) rfl w2 hm2 rfl rfl rfl rfl ?_
        simp
        refine ⟨map_liv hm2, ?_⟩
        generalize setL (setL (H1 ++ _) _ _) _ _ = H2 at hq ⊢
        have hfin : Inv1 c (k + 1, H2, es2) := by
          refine ⟨by simp; omega, hq.box, hq.rows, fun z => ?_⟩
          show rowOf es2 z = adj (c.th.take (k + 1)) z
          rw [ha, hq.row, hp.row, i4]
          unfold adj1
          by_cases eA : z = A
          · by_cases eB : z = B
            · subst eA; subst eB; simp
            · have : ¬ B = z := fun e => eB e.symm
              subst eA; simp [eB, this]
          · have eA' : ¬ A = z := fun e => eA e.symm
            by_cases eB : z = B
            · subst eB; simp [eA, eA']
            · have eB' : ¬ B = z := fun e => eB e.symm
              simp [eA, eB, eA', eB']
        refine loopK_next (k + 1, H2, es2) (by simp; omega) hfin (weak_UH rfl (by simp [hw]))
      | none =>
        obtain ⟨es2, hq⟩ := push_add (c := c) (t := [.blk true false 2 (cIs [A]), .blk true false 2 (cIs [A])]) (j := 1) j3 hp.box IB hg rfl
        simp [e0, eT]
        have hm2 := j3.at [.blk true false 2 (cIs [A]), .blk true false 2 (cIs [A])]
        refine putD_r Try.underlying99 map_key (k := [B]) rfl w2 hm2 rfl rfl rfl rfl ?_
        simp
        refine ⟨by have := map_liv hm2; simpa using this, ?_⟩
        generalize setL (H1 ++ _) _ _ = H2 at hq ⊢
        have hfin : Inv1 c (k + 1, H2, es2) := by
          refine ⟨by simp; omega, hq.box, hq.rows, fun z => ?_⟩
          show rowOf es2 z = adj (c.th.take (k + 1)) z
          rw [ha, hq.row, hp.row, i4]
          unfold adj1
          by_cases eA : z = A
          · by_cases eB : z = B
            · subst eA; subst eB; simp
            · have : ¬ B = z := fun e => eB e.symm
              subst eA; simp [eB, this]
          · have eA' : ¬ A = z := fun e => eA e.symm
            by_cases eB : z = B
            · subst eB; simp [eA, eA']
            · have eB' : ¬ B = z := fun e => eB e.symm
              simp [eA, eB, eA', eB']
        refine loopK_next (k + 1, H2, es2) (by simp; omega) hfin (weak_UH rfl (by simp [hw]))
  · obtain rfl : k = c.th.length := by omega
    have hpl := hV.pl
    rw [List.take_length] at i4
    have hmap := i3.at [.blk true false 2 (cIs (List.replicate c.pl.length 0))]
    have hH1 := (List.getElem?_eq_some_iff.1 i3.map).1
    simp [i2]
    refine ⟨by omega, by omega, ?_⟩
    refine loopG_of (α := Nat) (fun j => j ≤ c.pl.length) (fun j => c.pl.length - j) (fun j => [(5, .mview true 0 (entK es) (entW es)), (8, .slc 0 0 c.pl.length 1), (9, .int .i64 0), (53, .int .i64 c.pl.length), (54, .int .i64 j)])
      (fun j => [.blk true false 2 (cIs (mixN (List.replicate c.pl.length (-1)) (List.replicate c.pl.length 0) j))]) 0 (by simp) ?_ fun j hj => ?_
    · refine Weak.trans (weak_freezeU (ws := entW es) (l1 := [(5, .mview true 0 (entK es) (entW es)), (8, .slc H.length 0 c.pl.length 1), (9, .int .i64 0), (53, .int .i64 c.pl.length), (54, .int .i64 0)]) (H1 := List.replicate H.length .gone ++ [.blk true false 2 (cIs (List.replicate c.pl.length 0))])
        (fun q => q < H.length) hmap hH1 (by simp [entW, entS]) (fun q a b ha hb => ?_) (by simp) (fun q nw bx e cc hq => ?_) (by simp)) ?_
      · unfold entS at ha; unfold entW at hb
        rw [List.getElem?_map] at ha hb
        cases hx : es[q]? with
        | none => rw [hx] at ha; cases ha
        | some x =>
          rw [hx] at ha hb
          simp only [Option.map_some, Option.some.injEq] at ha hb
          subst ha; subst hb
          have hxm := List.mem_of_getElem? hx
          have hr := i3.row x hxm
          have hrl := (List.getElem?_eq_some_iff.1 hr).1
          have := Froz.row (H := H ++ [.blk true false 2 (cIs (List.replicate c.pl.length 0))]) (F := fun q => q < H.length) x.2.1 x.2.2.length 2 (cIs x.2.2) (by rw [List.getElem?_append_left hrl]; exact hr) (by simp) hrl
          rwa [List.take_of_length_le (by simp)] at this
      · rw [List.getElem?_append] at hq ⊢
        simp only [List.length_replicate] at hq
        split at hq
        · rw [List.getElem?_replicate] at hq; split at hq <;> cases hq
        · rw [if_neg (by assumption)]; exact ⟨hq, by assumption⟩
      · refine weak_gc [(some H.length, 0)] ?_ ?_ ?_ ?_ ?_ <;> simp
    have hl : (List.replicate c.pl.length (-1 : Int)).length = (List.replicate c.pl.length (0 : Int)).length := by simp
    have hw2 := nat_wrap (k := j) (by omega)
    have hm := mixN_length j hl
    simp only [List.length_replicate] at hm
    by_cases b2 : j < c.pl.length
    · simp [b2, hw2, hm]
      refine ⟨by omega, loopK_next (j + 1) (by omega) (by omega) (weak_UH ?_ (by simp))⟩
      rw [mixN_set (by simpa using b2) hl (by simp)]
    · obtain rfl : j = c.pl.length := by omega
      rw [mixN_all (by simp) (by simp)]
      simp
      refine loopG_of (α := Nat × List Int × Int) (fun x => DF c.pl.length c.th x.1 x.2.1 x.2.2) (fun x => c.pl.length - x.1) (fun x => [(5, .mview true 0 (entK es) (entW es)), (8, .slc 0 0 c.pl.length 1), (9, .int .i64 x.2.2), (62, .int .i64 c.pl.length), (63, .int .i64 x.1)])
        (fun x => [.blk true false 2 (cIs x.2.1)]) (0, List.replicate c.pl.length (-1), 0) (df_start _ _) ?_ fun x hx => ?_
      · exact weak_UH rfl (by simp)
      obtain ⟨i, out, m⟩ := x
      simp only at hx
      have hle := hx.le
      have hlen := hx.len
      have hw3 := nat_wrap (k := i) (by omega)
      by_cases b3 : i < c.pl.length
      · have e3 : nth out i = out[i]'(by omega) := nth_at (by omega)
        simp [b3, hw3, hlen]
        have hwm : IntKind.i64.wrap (m + 1) = m + 1 := by have := hx.m0; have := hx.mi; exact wrap64 (by omega) (by omega)
        refine ⟨fun p0 => ?_, fun p0 => ?_⟩
        · rw [← e3] at p0
          exact loopK_next (i + 1, out, m) (by simp; omega) (df_skip hx b3 p0) (weak_UH rfl (by simp [hw3]))
        · rw [← e3] at p0
          refine loopG_of (α := List Int × List Int × List Int) (Inv4 c.pl.length c.th i out m) (fun x => negs x.1 * 600 + x.2.1.length) (fun x => [(5, .mview true 0 (entK es) (entW es)), (8, .slc 0 0 c.pl.length 1), (9, .int .i64 m), (11, .int .i64 i), (12, .slc 1 0 x.2.1.length 1), (62, .int .i64 c.pl.length), (63, .int .i64 i)])
            (fun x => [.blk true false 2 (cIs x.1), .blk true false 2 (cIs (x.2.1 ++ x.2.2))]) (out, [(i : Int)], []) ⟨di_start hx b3, ?_⟩ ?_ fun y hy => ?_
          · have := negs_le out; simp; omega
          · exact weak_UH rfl (by simp)
          obtain ⟨ou, st, jk⟩ := y
          obtain ⟨d, sm⟩ := hy
          simp only at d sm
          have hdl := d.len
          rcases List.eq_nil_or_concat st with rfl | ⟨st', p, rfl⟩
          · simp [hw3, hwm]
            refine loopK_next (i + 1, ou, m + 1) (by simp; omega) (di_end hV.ok hx b3 (by omega) d) ?_
            (refine weak_gc [(some 0, 0)] ?_ ?_ ?_ ?_ ?_ <;> simp)
          · rw [List.concat_eq_append] at d sm ⊢
            obtain ⟨v, rfl, hv0, hp0⟩ := d.stk p (by simp)
            simp at sm
            have hw4 : IntKind.i64.wrap (st'.length : Int) = st'.length := wrap64 (by omega) (by omega)
            have hmid := cIs_mid st' jk v
            have e4 : nth ou v = ou[v]'(by omega) := nth_at (by omega)
            simp [hw4, hdl, hv0, hmid]
            have hneg : nth out i < 0 := by omega
            refine ⟨by omega, by omega, fun q0 => ?_, fun q0 => ?_⟩
            · rw [← e4] at q0
              have hd' := di_new hV.ok hx b3 hneg d q0
              have hng := negs_set (xs := ou) (p := v) (m := m) (by omega) q0 hx.m0
              have hadj := adj_len (v : Int) c.th
              have hth := hV.th
              refine ⟨by omega, look_v Try.underlying99 map_key (k := [(v : Int)]) rfl (fun y hy => by rw [List.mem_singleton.1 hy]; omega) zero_row hmap.2.2 rfl rfl ?_⟩
              rw [getM_entW]
              have hrow := i4 (v : Int)
              cases hf : es.find? (fun x => x.1 == (v : Int)) with
              | some x =>
                rw [row_at hf] at hrow
                simp [hrow]
                refine ⟨by omega, by omega, ?_⟩
                refine loopK_next (ou.set v m, st' ++ adj c.th v, []) (by simp; omega) ⟨hd', by simp; omega⟩ ?_
                (refine weak_gc [(some 0, 0), (some 2, 0)] ?_ ?_ ?_ ?_ ?_ <;> simp)
              | none =>
                have hrow' : adj c.th v = [] := by rw [← hrow]; unfold rowOf; rw [hf]; rfl
                rw [hrow', List.append_nil] at hd'
                simp
                refine ⟨by omega, by omega, ?_⟩
                refine loopK_next (ou.set v m, st', []) (by simp; omega) ⟨hd', by simp; omega⟩ ?_
                (refine weak_gc [(some 0, 0), (some 2, 0)] ?_ ?_ ?_ ?_ ?_ <;> simp)
            · rw [← e4] at q0
              refine loopK_next (ou, st', (v : Int) :: jk) (by simp) ⟨di_seen hV.ok hx b3 hneg d q0, by simp; omega⟩ ?_
              exact weak_UH rfl (by simp)
      · obtain rfl : i = c.pl.length := by omega
        obtain ⟨rfl, rfl⟩ := char_unique (df_char hV.ok hx) hc
        simp
        refine endGW_of ?_
        (refine endG_keepT [(some 0, 0)] ?_ ?_ ?_ ?_ ?_ ?_ ?_ ⟨rfl, rfl⟩ ?_ <;> simp)
end Go.Proofs.Ytnjpigkijdnpkaa
