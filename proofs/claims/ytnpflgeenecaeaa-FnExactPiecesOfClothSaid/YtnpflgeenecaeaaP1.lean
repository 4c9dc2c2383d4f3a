/- The pieces of a graph: two ways to number them come to the same numbers. No program here.
Conditions: none. -/
import Derived.Test.YtnpflgeenecaeaaDat
namespace Go.Proofs.Ytnpflgeenecaeaa
set_option linter.all false
open Go Go.Awp

def adj1 (t : Th) (p : Int) : List Int := (if t.1 = p then [t.2.1] else []) ++ (if t.2.1 = p then [t.1] else [])
/-- The neighbours of a place. -/
def adj (th : List Th) (p : Int) : List Int := th.flatMap fun t => adj1 t p
def nth (xs : List Int) (i : Nat) : Int := xs.getD i 0
/-- The ends of a thread are places. -/
structure ThOk (n : Nat) (t : Th) : Prop where
  a0 : 0 ≤ t.1
  a1 : t.1 < n
  b0 : 0 ≤ t.2.1
  b1 : t.2.1 < n
def Ed (th : List Th) (v w : Nat) : Prop := ∃ t ∈ th, (t.1 = v ∧ t.2.1 = w) ∨ (t.2.1 = v ∧ t.1 = w)
theorem Ed.symm {th : List Th} {v w : Nat} (h : Ed th v w) : Ed th w v := by
  obtain ⟨t, ht, h | h⟩ := h
  · exact ⟨t, ht, .inr ⟨h.2, h.1⟩⟩
  · exact ⟨t, ht, .inl ⟨h.2, h.1⟩⟩
theorem mem_adj {th : List Th} {v : Nat} {x : Int} : x ∈ adj th v ↔ ∃ t ∈ th, (t.1 = v ∧ t.2.1 = x) ∨ (t.2.1 = v ∧ t.1 = x) := by
  unfold adj
  rw [List.mem_flatMap]
  constructor
  · rintro ⟨t, ht, h⟩
    refine ⟨t, ht, ?_⟩
    unfold adj1 at h
    rcases List.mem_append.1 h with h | h
    · split at h
      · rename_i e; exact .inl ⟨e, (List.mem_singleton.1 h).symm⟩
      · cases h
    · split at h
      · rename_i e; exact .inr ⟨e, (List.mem_singleton.1 h).symm⟩
      · cases h
  · rintro ⟨t, ht, h | h⟩
    · refine ⟨t, ht, ?_⟩
      unfold adj1
      rw [if_pos h.1, ← h.2]; simp
    · refine ⟨t, ht, ?_⟩
      unfold adj1
      rw [if_pos h.1, ← h.2]; simp
theorem ed_lt {n : Nat} {th : List Th} (hok : ∀ t ∈ th, ThOk n t) {v w : Nat} (h : Ed th v w) : w < n := by
  obtain ⟨t, ht, h | h⟩ := h
  · have := (hok t ht).b1; omega
  · have := (hok t ht).a1; omega
inductive Pa (th : List Th) : Nat → Nat → Prop
  | refl (v : Nat) : Pa th v v
  | step {u v w : Nat} (h : Pa th u v) (e : Ed th v w) : Pa th u w
theorem Pa.trans {th : List Th} {u v w : Nat} (h : Pa th u v) (k : Pa th v w) : Pa th u w := by
  induction k with
  | refl => exact h
  | step _ e ih => exact .step ih e
theorem Pa.symm {th : List Th} {u v : Nat} (h : Pa th u v) : Pa th v u := by
  induction h with
  | refl => exact .refl _
  | step _ e ih => exact (Pa.step (.refl _) e.symm).trans ih
theorem Pa.lt {n : Nat} {th : List Th} (hok : ∀ t ∈ th, ThOk n t) {u v : Nat} (h : Pa th u v) (hu : u < n) : v < n := by
  induction h with
  | refl => exact hu
  | step _ e _ => exact ed_lt hok e
theorem Pa.mono {th th' : List Th} (hs : ∀ t ∈ th, t ∈ th') {u v : Nat} (h : Pa th u v) : Pa th' u v := by
  induction h with
  | refl => exact .refl _
  | step _ e ih =>
    obtain ⟨t, ht, e⟩ := e
    exact .step ih ⟨t, hs t ht, e⟩
/-- What is the same at the ends of each edge is the same along paths. -/
theorem Pa.const {n : Nat} {th : List Th} (hok : ∀ t ∈ th, ThOk n t) {f : Nat → Int} (hf : ∀ v w, v < n → w < n → Ed th v w → f v = f w) {u v : Nat} (h : Pa th u v) (hu : u < n) : f u = f v := by
  induction h with
  | refl => rfl
  | step h e ih => rw [ih, hf _ _ (h.lt hok hu) (ed_lt hok e) e]

/-- How counts go on. -/
def Goes (xs : List Int) (cnt : Nat → Int) (j : Nat) : Prop :=
  ((∃ k, k < j ∧ nth xs k = nth xs j) ∧ cnt (j + 1) = cnt j) ∨ ((¬ ∃ k, k < j ∧ nth xs k = nth xs j) ∧ nth xs j = cnt j ∧ cnt (j + 1) = cnt j + 1)
structure Char (n : Nat) (R : Nat → Nat → Prop) (xs : List Int) (m : Int) : Prop where
  len : xs.length = n
  same : ∀ i j, i < n → j < n → (nth xs i = nth xs j ↔ R i j)
  cnt : ∃ cnt : Nat → Int, cnt 0 = 0 ∧ cnt n = m ∧ ∀ j, j < n → Goes xs cnt j
theorem nth_at {xs : List Int} {i : Nat} (h : i < xs.length) : nth xs i = xs[i] := by unfold nth; rw [List.getD_eq_getElem?_getD, List.getElem?_eq_getElem h]; rfl
theorem char_unique {n : Nat} {R : Nat → Nat → Prop} {xs ys : List Int} {m k : Int} (hx : Char n R xs m) (hy : Char n R ys k) : xs = ys ∧ m = k := by
  obtain ⟨cx, x0, xn, xs'⟩ := hx.cnt
  obtain ⟨cy, y0, yn, ys'⟩ := hy.cnt
  have key : ∀ j, j ≤ n → cx j = cy j ∧ ∀ i, i < j → nth xs i = nth ys i := by
    intro j
    induction j with
    | zero => exact fun _ => ⟨by rw [x0, y0], fun i h => by omega⟩
    | succ j ih =>
      intro hj
      obtain ⟨h1, h2⟩ := ih (by omega)
      have hR : (∃ k, k < j ∧ nth xs k = nth xs j) ↔ ∃ k, k < j ∧ nth ys k = nth ys j :=
        ⟨fun ⟨k, hk, e⟩ => ⟨k, hk, (hy.same k j (by omega) (by omega)).2 ((hx.same k j (by omega) (by omega)).1 e)⟩,
          fun ⟨k, hk, e⟩ => ⟨k, hk, (hx.same k j (by omega) (by omega)).2 ((hy.same k j (by omega) (by omega)).1 e)⟩⟩
      have last : nth xs j = nth ys j ∧ cx (j + 1) = cy (j + 1) := by
        rcases xs' j (by omega) with ⟨⟨k, hk, e⟩, g⟩ | ⟨hn, e, g⟩
        · rcases ys' j (by omega) with ⟨_, g'⟩ | ⟨hn', _⟩
          · have e' := (hy.same k j (by omega) (by omega)).2 ((hx.same k j (by omega) (by omega)).1 e)
            exact ⟨by rw [← e, ← e', h2 k hk], by rw [g, g', h1]⟩
          · exact absurd (hR.1 ⟨k, hk, e⟩) hn'
        · rcases ys' j (by omega) with ⟨he, _⟩ | ⟨_, e', g'⟩
          · exact absurd (hR.2 he) hn
          · exact ⟨by rw [e, e', h1], by rw [g, g', h1]⟩
      refine ⟨last.2, fun i hi => ?_⟩
      by_cases c : i = j
      · rw [c]; exact last.1
      · exact h2 i (by omega)
  obtain ⟨h1, h2⟩ := key n (Nat.le_refl _)
  refine ⟨?_, by rw [← xn, ← yn, h1]⟩
  apply List.ext_getElem (by rw [hx.len, hy.len])
  intro i hi hi'
  rw [← nth_at hi, ← nth_at hi']
  exact h2 i (by rw [← hx.len]; exact hi)

-- the reference's way: numbers of groups
def relT (g : List Int) (t : Th) : List Int := g.map fun x => if x = max (nth g t.1.toNat) (nth g t.2.1.toNat) then min (nth g t.1.toNat) (nth g t.2.1.toNat) else x
def ids (n : Nat) : List Int := (List.range n).map fun i : Nat => (i : Int)
def groups (n : Nat) (th : List Th) : List Int := th.foldl relT (ids n)
structure GI (n : Nat) (th : List Th) (g : List Int) : Prop where
  len : g.length = n
  lo : ∀ i, i < n → 0 ≤ nth g i
  hi : ∀ i, i < n → nth g i ≤ i
  idem : ∀ i, i < n → nth g (nth g i).toNat = nth g i
  same : ∀ i j, i < n → j < n → (nth g i = nth g j ↔ Pa th i j)
theorem nth_map {g : List Int} {f : Int → Int} {i : Nat} (h : i < g.length) : nth (g.map f) i = f (nth g i) := by
  rw [nth_at (by simpa using h), nth_at h]; simp
theorem nth_ids {n i : Nat} (h : i < n) : nth (ids n) i = i := by
  rw [nth_at (by simpa [ids] using h)]; simp [ids]
theorem pa_nil {u v : Nat} (h : Pa [] u v) : u = v := by
  cases h with
  | refl => rfl
  | step _ e => obtain ⟨t, ht, _⟩ := e; cases ht
theorem gi_start (n : Nat) : GI n [] (ids n) where
  len := by simp [ids]
  lo i h := by rw [nth_ids h]; omega
  hi i h := by rw [nth_ids h]; omega
  idem i h := by rw [nth_ids h, Int.toNat_natCast, nth_ids h]
  same i j hi hj := by
    rw [nth_ids hi, nth_ids hj]
    exact ⟨fun e => by have : i = j := by omega
                       rw [this]; exact .refl _, fun h => by rw [pa_nil h]⟩
theorem gi_step {n : Nat} {th : List Th} {g : List Int} {t : Th} (h : GI n th g) (hok : ∀ t ∈ th, ThOk n t) (ht : ThOk n t) : GI n (th ++ [t]) (relT g t) := by
  obtain ⟨a0, a1, b0, b1⟩ := ht
  obtain ⟨A, hA⟩ : ∃ A : Nat, t.1 = A := ⟨t.1.toNat, by omega⟩
  obtain ⟨B, hB⟩ : ∃ B : Nat, t.2.1 = B := ⟨t.2.1.toNat, by omega⟩
  have hAn : A < n := by omega
  have hBn : B < n := by omega
  have lA := h.lo A hAn
  have lB := h.lo B hBn
  have uA := h.hi A hAn
  have uB := h.hi B hBn
  have iA := h.idem A hAn
  have iB := h.idem B hBn
  have len' : (relT g t).length = n := by simp [relT, h.len]
  have hg : ∀ i, i < n → nth (relT g t) i = if nth g i = max (nth g A) (nth g B) then min (nth g A) (nth g B) else nth g i := fun i hi => by
    unfold relT
    rw [nth_map (by rw [h.len]; exact hi), hA, hB, Int.toNat_natCast, Int.toNat_natCast]
  have same1 := h.same
  generalize ea : nth g A = a at *
  generalize eb : nth g B = b at *
  have mono : ∀ {u v}, Pa th u v → Pa (th ++ [t]) u v := fun h => h.mono fun t ht => List.mem_append_left _ ht
  have edge : Pa (th ++ [t]) A B := .step (.refl _) ⟨t, by simp, .inl ⟨hA, hB⟩⟩
  have idm : ∀ x : Nat, x < n → nth g (nth g x).toNat = nth g x := h.idem
  refine ⟨len', fun i hi => ?_, fun i hi => ?_, fun i hi => ?_, fun i j hi hj => ⟨fun e => ?_, fun hp => ?_⟩⟩
  · rw [hg i hi]; have := h.lo i hi; split <;> omega
  · rw [hg i hi]; have := h.hi i hi; split <;> omega
  · have li := h.lo i hi
    have ui := h.hi i hi
    have key : ∀ x : Int, 0 ≤ x → x < n → nth g x.toNat = x → (x = max a b → x = min a b) → nth (relT g t) x.toNat = x := fun x x0 xn hx hc => by
      rw [hg _ (by omega), hx]
      split
      · exact (hc ‹_›).symm
      · rfl
    rw [hg i hi]
    split
    · refine key _ (by omega) (by omega) ?_ (by omega)
      rcases Int.le_total a b with c | c
      · rw [Int.min_eq_left c]; exact iA
      · rw [Int.min_eq_right c]; exact iB
    · exact key _ li (by omega) (h.idem i hi) (fun c => absurd c ‹_›)
  · rw [hg i hi, hg j hj] at e
    have pij : nth g i = nth g j → Pa (th ++ [t]) i j := fun e => mono ((same1 i j hi hj).1 e)
    have pa : ∀ {x}, x < n → nth g x = a → Pa (th ++ [t]) x A := fun hx e => mono ((same1 _ A hx hAn).1 (by rw [e, ea]))
    have pb : ∀ {x}, x < n → nth g x = b → Pa (th ++ [t]) x B := fun hx e => mono ((same1 _ B hx hBn).1 (by rw [e, eb]))
    have cross : ∀ {x y}, x < n → y < n → nth g x = max a b → nth g y = min a b → Pa (th ++ [t]) x y := by
      intro x y hx hy e1 e2
      rcases Int.le_total a b with c | c
      · rw [Int.max_eq_right c] at e1; rw [Int.min_eq_left c] at e2
        exact ((pb hx e1).trans edge.symm).trans (pa hy e2).symm
      · rw [Int.max_eq_left c] at e1; rw [Int.min_eq_right c] at e2
        exact ((pa hx e1).trans edge).trans (pb hy e2).symm
    split at e
    · split at e
      · exact pij (by omega)
      · exact cross hi hj ‹_› e.symm
    · split at e
      · exact (cross hj hi ‹_› e).symm
      · exact pij e
  · have hok' : ∀ s ∈ th ++ [t], ThOk n s := fun s hs => by
      rcases List.mem_append.1 hs with h1 | h1
      · exact hok s h1
      · rw [List.mem_singleton.1 h1]; exact ⟨a0, a1, b0, b1⟩
    refine hp.const hok' (fun v w hv hw he => ?_) hi
    obtain ⟨s, hs, he⟩ := he
    rcases List.mem_append.1 hs with h1 | h1
    · have : nth g v = nth g w := (same1 v w hv hw).2 (.step (.refl _) ⟨s, h1, he⟩)
      rw [hg v hv, hg w hw, this]
    · rw [List.mem_singleton.1 h1] at he
      rcases he with ⟨e1, e2⟩ | ⟨e1, e2⟩
      · have : v = A := by omega
        have : w = B := by omega
        subst v; subst w
        rw [hg A hv, hg B hw, ea, eb]
        split <;> split <;> omega
      · have : v = B := by omega
        have : w = A := by omega
        subst v; subst w
        rw [hg A hw, hg B hv, ea, eb]
        split <;> split <;> omega
theorem groups_snoc (n : Nat) (th : List Th) (t : Th) : groups n (th ++ [t]) = relT (groups n th) t := by simp [groups, List.foldl_append]
theorem gi_groups {n : Nat} : ∀ (k : Nat) {th : List Th}, k ≤ th.length → (∀ t ∈ th, ThOk n t) → GI n (th.take k) (groups n (th.take k))
  | 0, th, _, _ => by simpa [groups] using gi_start n
  | k + 1, th, hk, hok => by
    have hk' : k < th.length := by omega
    rw [← List.take_append_getElem hk', groups_snoc]
    exact gi_step (gi_groups k (by omega) hok) (fun t ht => hok t (List.mem_of_mem_take ht)) (hok _ (List.getElem_mem hk'))
/-- The numbers of the groups, and how many there are. -/
def fin (g : List Int) : Nat → List Int × Int
  | 0 => ([], 0)
  | i + 1 => if nth g i = i then ((fin g i).1 ++ [(fin g i).2], (fin g i).2 + 1) else ((fin g i).1 ++ [nth (fin g i).1 (nth g i).toNat], (fin g i).2)
theorem fin_len (g : List Int) : ∀ i, (fin g i).1.length = i
  | 0 => rfl
  | i + 1 => by unfold fin; split <;> simp [fin_len g i]
theorem fin_cnt (g : List Int) : ∀ i, 0 ≤ (fin g i).2 ∧ (fin g i).2 ≤ i
  | 0 => by simp [fin]
  | i + 1 => by
    have := fin_cnt g i
    unfold fin; split <;> simp <;> omega
theorem nth_app {xs : List Int} {y : Int} {i : Nat} (h : i < xs.length) : nth (xs ++ [y]) i = nth xs i := by
  rw [nth_at (by simp; omega), nth_at h, List.getElem_append_left h]
theorem nth_last {xs : List Int} {y : Int} : nth (xs ++ [y]) xs.length = y := by
  rw [nth_at (by simp)]; simp
theorem fin_keep (g : List Int) {i : Nat} : ∀ {j : Nat}, i < j → nth (fin g j).1 i = nth (fin g (i + 1)).1 i
  | 0, h => by omega
  | j + 1, h => by
    by_cases c : i = j
    · rw [c]
    · rw [← fin_keep g (show i < j by omega)]
      have hl := fin_len g j
      show nth (if nth g j = j then _ else _ : List Int × Int).1 i = _
      split <;> exact nth_app (by omega)
theorem fin_mono (g : List Int) {i : Nat} : ∀ {j : Nat}, i ≤ j → (fin g i).2 ≤ (fin g j).2
  | 0, h => by rw [show i = 0 by omega]; exact Int.le_refl _
  | j + 1, h => by
    by_cases c : i = j + 1
    · rw [c]; exact Int.le_refl _
    · have := fin_mono g (show i ≤ j by omega)
      show _ ≤ (if nth g j = j then _ else _ : List Int × Int).2
      split <;> simp <;> omega
theorem fin_char {n : Nat} {th : List Th} {g : List Int} (h : GI n th g) : Char n (Pa th) (fin g n).1 (fin g n).2 := by
  have root : ∀ r, r < n → nth g r = r → nth (fin g n).1 r = (fin g r).2 ∧ (fin g (r + 1)).2 = (fin g r).2 + 1 := fun r hr e => by
    rw [fin_keep g hr]
    have hl := fin_len g r
    have : fin g (r + 1) = ((fin g r).1 ++ [(fin g r).2], (fin g r).2 + 1) := by
      show (if nth g r = r then _ else _ : List Int × Int) = _; rw [if_pos e]
    rw [this]
    refine ⟨?_, rfl⟩
    show nth ((fin g r).1 ++ [(fin g r).2]) r = _
    have := nth_last (xs := (fin g r).1) (y := (fin g r).2)
    rwa [hl] at this
  have rest : ∀ i, i < n → nth g i ≠ i → nth (fin g n).1 i = nth (fin g n).1 (nth g i).toNat ∧ (fin g (i + 1)).2 = (fin g i).2 := fun i hi e => by
    have lo := h.lo i hi
    have up := h.hi i hi
    rw [fin_keep g hi]
    have hl := fin_len g i
    have : fin g (i + 1) = ((fin g i).1 ++ [nth (fin g i).1 (nth g i).toNat], (fin g i).2) := by
      show (if nth g i = i then _ else _ : List Int × Int) = _; rw [if_neg e]
    rw [this]
    refine ⟨?_, rfl⟩
    have e1 := nth_last (xs := (fin g i).1) (y := nth (fin g i).1 (nth g i).toNat)
    rw [hl] at e1
    show nth ((fin g i).1 ++ [_]) i = _
    rw [e1, fin_keep g (show (nth g i).toNat < i by omega), fin_keep g (show (nth g i).toNat < n by omega)]
  have at_ : ∀ i, i < n → nth (fin g n).1 i = nth (fin g n).1 (nth g i).toNat := fun i hi => by
    by_cases e : nth g i = i
    · rw [e, Int.toNat_natCast]
    · exact (rest i hi e).1
  have rootlt : ∀ i, i < n → (nth g i).toNat < n ∧ nth g (nth g i).toNat = ((nth g i).toNat : Nat) := fun i hi => by
    have lo := h.lo i hi
    have up := h.hi i hi
    refine ⟨by omega, ?_⟩
    rw [h.idem i hi]; omega
  have inj : ∀ r s, r < n → s < n → nth g r = r → nth g s = s → nth (fin g n).1 r = nth (fin g n).1 s → r = s := by
    intro r s hr hs er es e
    obtain ⟨r1, r2⟩ := root r hr er
    obtain ⟨s1, s2⟩ := root s hs es
    rcases Nat.lt_trichotomy r s with c | c | c
    · have := fin_mono g (show r + 1 ≤ s by omega); omega
    · exact c
    · have := fin_mono g (show s + 1 ≤ r by omega); omega
  have same : ∀ i j, i < n → j < n → (nth (fin g n).1 i = nth (fin g n).1 j ↔ nth g i = nth g j) := fun i j hi hj => by
    obtain ⟨i1, i2⟩ := rootlt i hi
    obtain ⟨j1, j2⟩ := rootlt j hj
    have li := h.lo i hi
    have lj := h.lo j hj
    rw [at_ i hi, at_ j hj]
    exact ⟨fun e => by have := inj _ _ i1 j1 i2 j2 e; omega, fun e => by rw [e]⟩
  refine ⟨fin_len g n, fun i j hi hj => (same i j hi hj).trans (h.same i j hi hj), fun j => (fin g j).2, rfl, rfl, fun j hj => ?_⟩
  by_cases e : nth g j = j
  · obtain ⟨r1, r2⟩ := root j hj e
    refine .inr ⟨fun ⟨k, hk, hs⟩ => ?_, r1, r2⟩
    have := (same k j (by omega) hj).1 hs
    have := h.hi k (by omega)
    omega
  · obtain ⟨r1, r2⟩ := rest j hj e
    have lo := h.lo j hj
    have up := h.hi j hj
    exact .inl ⟨⟨(nth g j).toNat, by omega, r1.symm⟩, r2⟩

-- the program's way: a walk from each place that has no number yet
structure DF (n : Nat) (th : List Th) (i : Nat) (out : List Int) (m : Int) : Prop where
  len : out.length = n
  le : i ≤ n
  m0 : 0 ≤ m
  mi : m ≤ i
  lab : ∀ v, v < n → nth out v = -1 ∨ (0 ≤ nth out v ∧ nth out v < m)
  edge : ∀ v w, v < n → w < n → Ed th v w → nth out v = nth out w
  conn : ∀ v w, v < n → w < n → 0 ≤ nth out v → nth out v = nth out w → Pa th v w
  done : ∀ j, j < i → 0 ≤ nth out j
  rep : ∀ l, 0 ≤ l → l < m → ∃ j, j < i ∧ nth out j = l
  cnt : ∃ cnt : Nat → Int, cnt 0 = 0 ∧ cnt i = m ∧ ∀ j, j < i → Goes out cnt j
theorem nth_rep {n i : Nat} {x : Int} (h : i < n) : nth (List.replicate n x) i = x := by rw [nth_at (by simpa using h)]; simp
theorem df_start (n : Nat) (th : List Th) : DF n th 0 (List.replicate n (-1)) 0 where
  len := by simp
  le := Nat.zero_le _
  m0 := by omega
  mi := by omega
  lab v h := .inl (nth_rep h)
  edge v w hv hw _ := by rw [nth_rep hv, nth_rep hw]
  conn v w hv _ h := by rw [nth_rep hv] at h; omega
  done j h := by omega
  rep l h1 h2 := by omega
  cnt := ⟨fun _ => 0, rfl, rfl, fun j h => by omega⟩
theorem df_skip {n : Nat} {th : List Th} {i : Nat} {out : List Int} {m : Int} (h : DF n th i out m) (hi : i < n) (h0 : 0 ≤ nth out i) : DF n th (i + 1) out m := by
  have hl : nth out i < m := by rcases h.lab i hi with e | e <;> omega
  obtain ⟨j, hj, ej⟩ := h.rep _ h0 hl
  obtain ⟨cnt, c0, ci, cs⟩ := h.cnt
  obtain ⟨c', g1, g2⟩ : ∃ c' : Nat → Int, (∀ j, j ≤ i → c' j = cnt j) ∧ c' (i + 1) = m := ⟨fun j => if j ≤ i then cnt j else m, fun j hj => if_pos hj, if_neg (by omega)⟩
  refine { h with le := hi, mi := by have := h.mi; omega, done := fun j hj => ?_, rep := fun l h1 h2 => ?_, cnt := ⟨c', by rw [g1 0 (by omega), c0], g2, fun q hq => ?_⟩ }
  · by_cases c : j = i
    · rw [c]; exact h0
    · exact h.done j (by omega)
  · obtain ⟨k, hk, e⟩ := h.rep l h1 h2
    exact ⟨k, by omega, e⟩
  · by_cases c : q = i
    · subst c
      exact .inl ⟨⟨_, hj, ej⟩, by rw [g2, g1 q (by omega), ci]⟩
    · have := cs q (by omega)
      unfold Goes at *
      rw [g1 q (by omega), g1 (q + 1) (by omega)]; exact this
structure DI (n : Nat) (th : List Th) (i : Nat) (out0 : List Int) (m : Int) (out st : List Int) : Prop where
  len : out.length = n
  lab : ∀ v, v < n → nth out v = nth out0 v ∨ (nth out0 v = -1 ∧ nth out v = m)
  reach : ∀ v, v < n → nth out v = m → Pa th i v
  stk : ∀ p ∈ st, ∃ v : Nat, p = v ∧ v < n ∧ Pa th i v
  front : ∀ v w, v < n → w < n → nth out v = m → Ed th v w → nth out w = m ∨ (w : Int) ∈ st
  init : nth out i = m ∨ (i : Int) ∈ st
theorem di_start {n : Nat} {th : List Th} {i : Nat} {out : List Int} {m : Int} (h : DF n th i out m) (hi : i < n) : DI n th i out m out [(i : Int)] where
  len := h.len
  lab v hv := .inl rfl
  reach v hv e := by rcases h.lab v hv with g | g <;> have := h.m0 <;> omega
  stk p hp := ⟨i, List.mem_singleton.1 hp, hi, .refl _⟩
  front v w hv hw e := by rcases h.lab v hv with g | g <;> have := h.m0 <;> omega
  init := .inr (List.mem_singleton.2 rfl)
theorem di_label {n : Nat} {th : List Th} {i : Nat} {out0 out st : List Int} {m : Int} (hok : ∀ t ∈ th, ThOk n t) (h : DF n th i out0 m) (hi : i < n) (hneg : nth out0 i < 0) (d : DI n th i out0 m out st) {v : Nat} (hv : v < n) (hp : Pa th i v) : nth out v = -1 ∨ nth out v = m := by
  have e : nth out0 i = nth out0 v := hp.const hok h.edge hi
  rcases d.lab v hv with g | g
  · rw [g, ← e]
    rcases h.lab i hi with k | k <;> omega
  · exact .inr g.2
theorem di_seen {n : Nat} {th : List Th} {i : Nat} {out0 out st : List Int} {m : Int} {p : Nat} (hok : ∀ t ∈ th, ThOk n t) (h : DF n th i out0 m) (hi : i < n) (hneg : nth out0 i < 0) (d : DI n th i out0 m out (st ++ [(p : Int)])) (h0 : 0 ≤ nth out p) : DI n th i out0 m out st := by
  obtain ⟨v, ev, hv, hp⟩ := d.stk p (by simp)
  have : v = p := by omega
  subst this
  have hm : nth out v = m := by rcases di_label hok h hi hneg d hv hp with g | g <;> omega
  refine { d with stk := fun q hq => d.stk q (by simp [hq]), front := fun a b ha hb e he => ?_, init := ?_ }
  · rcases d.front a b ha hb e he with g | g
    · exact .inl g
    · rcases List.mem_append.1 g with g | g
      · exact .inr g
      · have : b = v := by have := List.mem_singleton.1 g; omega
        rw [this]; exact .inl hm
  · rcases d.init with g | g
    · exact .inl g
    · rcases List.mem_append.1 g with g | g
      · exact .inr g
      · have : i = v := by have := List.mem_singleton.1 g; omega
        rw [this]; exact .inl hm
theorem nth_set {xs : List Int} {p : Nat} {x : Int} (h : p < xs.length) (i : Nat) : nth (xs.set p x) i = if i = p then x else nth xs i := by
  unfold nth
  rw [List.getD_eq_getElem?_getD, List.getD_eq_getElem?_getD, List.getElem?_set]
  by_cases c : p = i
  · subst c; rw [if_pos rfl, if_pos h, if_pos rfl]; rfl
  · rw [if_neg c, if_neg (fun e => c e.symm)]
theorem di_new {n : Nat} {th : List Th} {i : Nat} {out0 out st : List Int} {m : Int} {p : Nat} (hok : ∀ t ∈ th, ThOk n t) (h : DF n th i out0 m) (hi : i < n) (hneg : nth out0 i < 0) (d : DI n th i out0 m out (st ++ [(p : Int)])) (h0 : nth out p < 0) : DI n th i out0 m (out.set p m) (st ++ adj th p) := by
  obtain ⟨v, ev, hv, hp⟩ := d.stk p (by simp)
  have : v = p := by omega
  subst this
  have hm : nth out v = -1 := by have := h.m0; rcases di_label hok h hi hneg d hv hp with g | g <;> omega
  have hs := nth_set (xs := out) (p := v) (x := m) (by rw [d.len]; exact hv)
  have e0 : nth out0 v = -1 := by
    have := h.m0
    rcases d.lab v hv with g | g
    · rw [← g]; exact hm
    · exact g.1
  refine ⟨by simp [d.len], fun a ha => ?_, fun a ha e => ?_, fun q hq => ?_, fun a b ha hb e he => ?_, ?_⟩
  · rw [hs]
    split
    · rename_i c; subst c; exact .inr ⟨e0, rfl⟩
    · exact d.lab a ha
  · rw [hs] at e
    split at e
    · rename_i c; subst c; exact hp
    · exact d.reach a ha e
  · rcases List.mem_append.1 hq with g | g
    · exact d.stk q (by simp [g])
    · obtain ⟨t, ht, k⟩ := mem_adj.1 g
      have tk := hok t ht
      rcases k with ⟨k1, k2⟩ | ⟨k1, k2⟩
      · have := tk.b0; have := tk.b1
        exact ⟨q.toNat, by omega, by omega, .step hp ⟨t, ht, .inl ⟨k1, by omega⟩⟩⟩
      · have := tk.a0; have := tk.a1
        exact ⟨q.toNat, by omega, by omega, .step hp ⟨t, ht, .inr ⟨k1, by omega⟩⟩⟩
  · by_cases c : b = v
    · left; rw [hs, if_pos c]
    · rw [hs] at e ⊢
      rw [if_neg c]
      by_cases c2 : a = v
      · subst c2
        right
        exact List.mem_append_right _ (mem_adj.2 he)
      · rw [if_neg c2] at e
        rcases d.front a b ha hb e he with g | g
        · exact .inl g
        · rcases List.mem_append.1 g with g | g
          · exact .inr (List.mem_append_left _ g)
          · exact absurd (by have := List.mem_singleton.1 g; omega) c
  · by_cases c : i = v
    · left; rw [hs, if_pos c]
    · rw [hs, if_neg c]
      rcases d.init with g | g
      · exact .inl g
      · rcases List.mem_append.1 g with g | g
        · exact .inr (List.mem_append_left _ g)
        · exact absurd (by have := List.mem_singleton.1 g; omega) c
theorem di_end {n : Nat} {th : List Th} {i : Nat} {out0 out : List Int} {m : Int} (hok : ∀ t ∈ th, ThOk n t) (h : DF n th i out0 m) (hi : i < n) (hneg : nth out0 i < 0) (d : DI n th i out0 m out []) : DF n th (i + 1) out (m + 1) := by
  have m0 := h.m0
  have mi := h.mi
  have him : nth out i = m := by rcases d.init with g | g; exact g; cases g
  have closed : ∀ v w, v < n → w < n → nth out v = m → Ed th v w → nth out w = m := fun v w hv hw e he => by
    rcases d.front v w hv hw e he with g | g
    · exact g
    · cases g
  have old : ∀ v, v < n → 0 ≤ nth out0 v → nth out v = nth out0 v := fun v hv g => by
    rcases d.lab v hv with k | k
    · exact k
    · omega
  have three : ∀ v, v < n → nth out v = m ∨ (nth out v = nth out0 v ∧ nth out v ≠ m) := fun v hv => by
    by_cases c : nth out v = m
    · exact .inl c
    · rcases d.lab v hv with k | k
      · exact .inr ⟨k, c⟩
      · exact absurd k.2 c
  obtain ⟨cnt, c0, ci, cs⟩ := h.cnt
  have keep : ∀ j, j < i → nth out j = nth out0 j := fun j hj => old j (by omega) (h.done j hj)
  obtain ⟨c', g1, g2⟩ : ∃ c' : Nat → Int, (∀ j, j ≤ i → c' j = cnt j) ∧ c' (i + 1) = m + 1 := ⟨fun j => if j ≤ i then cnt j else m + 1, fun j hj => if_pos hj, if_neg (by omega)⟩
  refine ⟨d.len, hi, by omega, by omega, fun v hv => ?_, fun v w hv hw he => ?_, fun v w hv hw g e => ?_, fun j hj => ?_, fun l h1 h2 => ?_, c', by rw [g1 0 (by omega), c0], g2, fun j hj => ?_⟩
  · rcases d.lab v hv with k | k
    · rw [k]; rcases h.lab v hv with q | q
      · exact .inl q
      · exact .inr ⟨q.1, by omega⟩
    · exact .inr ⟨by omega, by omega⟩
  · rcases three v hv with k | ⟨k1, k2⟩
    · rw [k, closed v w hv hw k he]
    · rcases three w hw with q | ⟨q1, q2⟩
      · exact absurd (closed w v hw hv q he.symm) k2
      · rw [k1, q1]; exact h.edge v w hv hw he
  · rcases three v hv with k | ⟨k1, k2⟩
    · exact (d.reach v hv k).symm.trans (d.reach w hw (by rw [← e]; exact k))
    · rcases three w hw with q | ⟨q1, q2⟩
      · exact absurd (by rw [e]; exact q) k2
      · exact h.conn v w hv hw (by rw [← k1]; exact g) (by rw [← k1, ← q1]; exact e)
  · by_cases c : j = i
    · rw [c, him]; exact m0
    · rw [keep j (by omega)]; exact h.done j (by omega)
  · by_cases c : l = m
    · exact ⟨i, by omega, by rw [him, c]⟩
    · obtain ⟨j, hj, e⟩ := h.rep l h1 (by omega)
      exact ⟨j, by omega, by rw [keep j hj]; exact e⟩
  · by_cases c : j = i
    · subst c
      refine .inr ⟨fun ⟨k, hk, e⟩ => ?_, by rw [g1 j (by omega), ci, him], by rw [g2, g1 j (by omega), ci]⟩
      rw [keep k hk, him] at e
      rcases h.lab k (by omega) with q | q <;> omega
    · have hj' : j < i := by omega
      have := cs j hj'
      unfold Goes at *
      rw [g1 j (by omega), g1 (j + 1) (by omega), keep j hj']
      have ex : (∃ k, k < j ∧ nth out k = nth out0 j) ↔ ∃ k, k < j ∧ nth out0 k = nth out0 j := ⟨fun ⟨k, hk, e⟩ => ⟨k, hk, by rw [← keep k (by omega)]; exact e⟩, fun ⟨k, hk, e⟩ => ⟨k, hk, by rw [keep k (by omega)]; exact e⟩⟩
      rw [ex]; exact this
theorem df_char {n : Nat} {th : List Th} {out : List Int} {m : Int} (hok : ∀ t ∈ th, ThOk n t) (h : DF n th n out m) : Char n (Pa th) out m :=
  ⟨h.len, fun i j hi hj => ⟨fun e => h.conn i j hi hj (h.done i hi) e, fun hp => hp.const hok h.edge hi⟩, h.cnt⟩
end Go.Proofs.Ytnpflgeenecaeaa
