/- Regions that draw their order may be run in the order of the text, where the text's order tells of what each operation waits for.
Conditions: none. -/
import Derived.Test.YtbjfkhjckfodbaaDra2
namespace Go.Awp
set_option linter.all false
open Go

theorem count_lt {p q : Nat → Bool} (h : ∀ x, p x = true → q x = true) {i : Nat} (hq : q i = true) (hp : p i = false) : ∀ (l : List Nat), i ∈ l → l.countP p < l.countP q
  | [], hi => by cases hi
  | x :: l, hi => by
    have le : ∀ (l : List Nat), l.countP p ≤ l.countP q := fun l => by
      induction l with
      | nil => exact Nat.le_refl _
      | cons y l ih =>
        rw [List.countP_cons, List.countP_cons]
        have : (if p y = true then 1 else 0) ≤ (if q y = true then 1 else 0) := by
          by_cases c : p y = true
          · rw [if_pos c, if_pos (h y c)]; omega
          · rw [if_neg c]; omega
        omega
    rw [List.countP_cons, List.countP_cons]
    rcases List.mem_cons.1 hi with e | hi'
    · subst e
      have := le l
      rw [if_pos hq, if_neg (by simp [hp])]
      omega
    · have ih := count_lt h hq hp l hi'
      have : (if p x = true then 1 else 0) ≤ (if q x = true then 1 else 0) := by
        by_cases c : p x = true
        · rw [if_pos c, if_pos (h x c)]; omega
        · rw [if_neg c]; omega
      omega

theorem sS_on (all : List Oper) (av : Nat → AV) {L L' : Nat → Bool} (s : List AV) : ∀ (k : Nat), (∀ j, j < k → L j = L' j) → sS all av L s k = sS all av L' s k
  | 0, _ => rfl
  | k + 1, h => by
    simp only [sS]
    rw [sS_on all av s k (fun j hj => h j (by omega)), h k (by omega)]

theorem hS_on (news : Nat → List Root) {L L' : Nat → Bool} : ∀ (k : Nat), (∀ j, j < k → L j = L' j) → hS news L k = hS news L' k
  | 0, _ => rfl
  | k + 1, h => by
    rw [hS_succ, hS_succ, hS_on news k (fun j hj => h j (by omega)), h k (by omega)]

theorem sS_none (all : List Oper) (av : Nat → AV) (s : List AV) : ∀ (k : Nat), sS all av (fun _ => false) s k = s
  | 0 => rfl
  | k + 1 => by simp only [sS]; exact sS_none all av s k

theorem hS_none (news : Nat → List Root) : ∀ (k : Nat), ∀ x ∈ hS news (fun _ => false) k, x = .gone
  | 0, x, h => by cases h
  | k + 1, x, h => by
    rw [hS_succ] at h
    rcases List.mem_append.1 h with h | h
    · exact hS_none news k x h
    · obtain ⟨y, _, e⟩ := List.mem_map.1 h
      exact e.symm

theorem gones_get {H G : Heap} (hG : ∀ x ∈ G, x = .gone) {r : Nat} {new box : Bool} {e : TypeId} {cells : List AV} (h : (H ++ G)[r]? = some (.blk new box e cells)) : H[r]? = some (.blk new box e cells) := by
  rw [List.getElem?_append] at h
  split at h
  · exact h
  · have := hG _ (List.mem_of_getElem? h)
    cases this

theorem env_gone {H G : Heap} (hG : ∀ x ∈ G, x = .gone) (map : Nat → Option (Option (Nat × Nat))) (X : Nat → Prop) (B : Nat) : env map (H ++ G) X B = env map H X B := by
  unfold env
  congr 1
  funext b
  apply propext
  refine or_congr ⟨?_, ?_⟩ Iff.rfl
  · rintro ⟨r, N, new, box, e, c, h1, h2⟩
    exact ⟨r, N, new, box, e, c, gones_get hG h1, h2⟩
  · rintro ⟨r, N, new, box, e, c, h1, h2⟩
    exact ⟨r, N, new, box, e, c, by rw [List.getElem?_append_left (List.getElem?_eq_some_iff.1 h1).1]; exact h1, h2⟩

theorem mut_gone {H G : Heap} (hG : ∀ x ∈ G, x = .gone) {map : Nat → Option (Option (Nat × Nat))} {b : Nat} (h : mutOf map (H ++ G) b) : mutOf map H b := by
  obtain ⟨r, N, new, box, e, c, h1, h2⟩ := h
  exact ⟨r, N, new, box, e, c, gones_get hG h1, h2⟩

section
variable {P : Program} {m0 : Nat → Option (Option (Nat × Nat))} {H00 : Heap} {w0 : World} {X : Nat → Prop}

theorem mid_skip {all : List Oper} {p : Pl} {m : List Nat} {s : List AV} {H : Heap} {L : Nat → Bool} {a : Act} {w : World} {i : Nat} {o : Oper}
    (hok : okDraw m all = true) (ho : all[i]? = some o) (hL : L i = false)
    (hcl : ∀ (j k : Nat), j < all.length → L j = true → k < all.length → befB m j k = true → L k = true)
    (hmid : Mid m0 H00 w0 X all p s H L a w) (hn : p.news i = []) (hs : p.st i = []) (ha : p.av i = .tup []) : Mid m0 H00 w0 X all p s H (fun j => if j = i then true else L j) (a.put o.dst undef) w := by
  have hi := (List.getElem?_eq_some_iff.1 ho).1
  obtain ⟨map, h1, h2, h3, h4, h4', h5⟩ := hmid
  have key : ∀ k, hS p.news (fun j => if j = i then true else L j) k = hS p.news L k := by
    intro k
    induction k with
    | zero => rfl
    | succ k ih =>
      rw [hS_succ, hS_succ, ih]
      by_cases c : k = i
      · subst c; rw [hn]; rfl
      · simp only [if_neg c]
  have now : p.now H (fun j => if j = i then true else L j) all.length = p.now H L all.length := by
    apply List.ext_getElem?
    intro r
    unfold Pl.now
    rw [key]
    refine appS_congr _ rfl fun e he _ => ?_
    have := (mem_stL.1 he).2
    by_cases c : e.1 = i
    · rw [c, hs] at this; cases this
    · simp only [if_neg c]
  refine ⟨map, ?_, ?_, ?_, ?_, ?_, by cases hd : o.dst <;> simp [Act.put, h5]⟩
  · rw [now, slots_put hok ho hL hcl, ha]
    exact srel_set h1 o.dst rel_undef a rfl
  · rw [now]; exact h2
  · rw [now]; exact h3
  · rw [now]; exact h4
  · intro k r hk hLk
    rw [key, key]
    refine h4' k r hk ?_
    by_cases c : k = i
    · subst c; exact hL
    · simpa [c] using hLk

theorem mid_bool {all : List Oper} {p : Pl} {s : List AV} {H : Heap} {L : Nat → Bool} {a : Act} {w : World} {g : Nat} {t : Bool} (hmid : Mid m0 H00 w0 X all p s H L a w) (hg : (sS all p.av L s all.length)[g]? = some (.bool t)) : a.tmps[g]? = some (.bool t) := by
  obtain ⟨map, h1, _⟩ := hmid
  have hlt := (List.getElem?_eq_some_iff.1 hg).1
  have hv : a.tmps[g]? = some (a.tmps[g]'(by have := h1.1; omega)) := Array.getElem?_eq_getElem (by have := h1.1; omega)
  have := h1.2 g _ _ hg hv
  rw [hv]
  generalize a.tmps[g]'(by have := h1.1; omega) = v at this
  cases this; rfl

theorem mid_tup {all : List Oper} {p : Pl} {s : List AV} {H : Heap} {L : Nat → Bool} {a : Act} {w : World} {g : Nat} (hmid : Mid m0 H00 w0 X all p s H L a w) (hg : (sS all p.av L s all.length)[g]? = some (.tup [])) : a.tmps[g]? = some (.tuple #[]) := by
  obtain ⟨map, h1, _⟩ := hmid
  have hlt := (List.getElem?_eq_some_iff.1 hg).1
  have hv : a.tmps[g]? = some (a.tmps[g]'(by have := h1.1; omega)) := Array.getElem?_eq_getElem (by have := h1.1; omega)
  have := rel_tup0 (h1.2 g _ _ hg hv)
  rw [hv, this]

open Classical in
/-- What operation i may look at: what others lay anew, that it doesn't wait for nor they for it, is hidden. -/
noncomputable def Pl.seen (p : Pl) (m : List Nat) (n : Nat) (H : Heap) (i : Nat) : Heap :=
  (p.view m H i).mapIdx fun r x => if ∃ j, j < n ∧ j ≠ i ∧ befB m i j = false ∧ befB m j i = false ∧ ∃ q ∈ p.st j, q.1 = r then .gone else x
open Classical in
theorem seen_get (p : Pl) (m : List Nat) (n : Nat) (H : Heap) (i r : Nat) : (p.seen m n H i)[r]? = if ∃ j, j < n ∧ j ≠ i ∧ befB m i j = false ∧ befB m j i = false ∧ ∃ q ∈ p.st j, q.1 = r then (p.view m H i)[r]?.map (fun _ => .gone) else (p.view m H i)[r]? := by
  unfold Pl.seen
  rw [List.getElem?_mapIdx]
  split
  · rfl
  · cases (p.view m H i)[r]? <;> rfl

theorem draw_run {m : List Nat} {all : List Oper} {p : Pl} {s : List AV} {H : Heap} {Q : Exit → Act → World → Prop} (hbase : H00.length ≤ H.length)
    (hok : okDraw m all = true) (hX : ∀ b, X b → b < w0.heap.size ∧ ¬ mutOf m0 H00 b)
    (plan : ∀ (k : Nat) (o : Oper), all[k]? = some o → p.At P m all H s k o)
    (hQ : ∀ a w, Mid m0 H00 w0 X all p s H (fun _ => true) a w → Q .normal a w) :
    ∀ (fuel : Nat) (listed : Array Bool) (a : Act) (w : World), listed.size = all.length → (List.range all.length).countP (fun j => !listed.getD j false) ≤ fuel →
      (∀ (j k : Nat), j < all.length → listed.getD j false = true → k < all.length → befB m j k = true → listed.getD k false = true) →
      Mid m0 H00 w0 X all p s H (fun j => listed.getD j false) a w → wpAny P .any all.toArray Q fuel listed a w := by
  have hst : ∀ k, k < all.length → ∀ q ∈ p.st k, liv (p.view m H k)[q.1]? = true := by
    intro k hk q hq
    rcases plan k _ (List.getElem?_eq_getElem hk) with ⟨_, _, h⟩ | ⟨_, h, _⟩
    · exact (h q hq).2.1
    · rw [h] at hq; cases hq
  intro fuel
  -- when nothing is ready, all is done
  have done : ∀ (listed : Array Bool) (a : Act) (w : World), listed.size = all.length → Region.ready .any all.toArray listed = [] → Mid m0 H00 w0 X all p s H (fun j => listed.getD j false) a w → Q .normal a w := by
    intro listed a w hsz hr hmid
    have all_listed : ∀ n, ∀ j, j < n → j < all.length → listed.getD j false = true := by
      intro n
      induction n with
      | zero => intro j hj; omega
      | succ n ih =>
        intro j hj hja
        cases hc : listed.getD j false with
        | true => rfl
        | false =>
          exfalso
          have ho : all[j]? = some (all[j]'hja) := List.getElem?_eq_getElem hja
          have hmem : j ∈ Region.ready .any all.toArray listed := by
            rw [mem_ready]
            refine ⟨?_, all[j]'hja, by simp, fun e he hb => ?_⟩
            · rw [Array.getD_eq_getD_getElem?] at hc ⊢
              rw [Array.getElem?_eq_getElem (by omega)] at hc ⊢
              exact hc
            · have hed : e.on ∈ edgesOf (all[j]'hja) := by
                unfold edgesOf
                exact List.mem_filterMap.2 ⟨e, by simpa using he, by rw [if_pos hb]⟩
              have := (follows_edges hok ho).1 _ hed
              exact ih e.on (by omega) (by omega)
          rw [hr] at hmem; cases hmem
    refine hQ a w ?_
    obtain ⟨map, h1, h2, h3, h4, h4', h5⟩ := hmid
    have e1 : p.now H (fun j => listed.getD j false) all.length = p.now H (fun _ => true) all.length := by
      apply List.ext_getElem?
      intro r
      unfold Pl.now
      rw [hS_on p.news (L' := fun _ => true) all.length fun j hj => all_listed (j + 1) j (by omega) (by omega)]
      exact appS_congr _ rfl fun e he _ => all_listed (e.1 + 1) e.1 (by omega) (mem_stL.1 he).1
    have e2 := sS_on all p.av (L := fun j => listed.getD j false) (L' := fun _ => true) s all.length fun j hj => all_listed (j + 1) j (by omega) hj
    rw [e1] at h1 h2 h3 h4
    rw [e2] at h1
    exact ⟨map, h1, h2, h3, h4, fun k r _ hL => (Bool.noConfusion hL), h5⟩
  -- one ready operation
  have one : ∀ (K : Act → World → Prop) (listed : Array Bool) (a : Act) (w : World) (i : Nat), listed.size = all.length →
      (∀ (j k : Nat), j < all.length → listed.getD j false = true → k < all.length → befB m j k = true → listed.getD k false = true) →
      Mid m0 H00 w0 X all p s H (fun j => listed.getD j false) a w → i ∈ Region.ready .any all.toArray listed →
      (∀ a w, i < all.length → listed.getD i false = false → (∀ k, k < all.length → befB m i k = true → listed.getD k false = true) → Mid m0 H00 w0 X all p s H (fun j => (listed.setIfInBounds i true).getD j false) a w → K a w) →
      wpOp P all.toArray Q i K a w := by
    intro K listed a w i hsz hcl hmid hi hK
    rw [mem_ready] at hi
    obtain ⟨hl, o, ho, hed⟩ := hi
    have ho' : all[i]? = some o := by simpa using ho
    have hia := (List.getElem?_eq_some_iff.1 ho').1
    have hL : (fun j => listed.getD j false) i = false := by
      simp only
      rw [Array.getD_eq_getD_getElem?] at hl ⊢
      rw [Array.getElem?_eq_getElem (by omega)] at hl ⊢
      exact hl
    obtain ⟨ed1, ed2, ed3⟩ := follows_edges hok ho'
    have hb : ∀ k, k < all.length → befB m i k = true → listed.getD k false = true := by
      intro k hk hbk
      obtain ⟨e, he, h⟩ := (ed2 k hk).1 hbk
      have hle : listed.getD e false = true := by
        unfold edgesOf at he
        obtain ⟨e', he', h'⟩ := List.mem_filterMap.1 he
        split at h'
        · rename_i hbind
          cases h'
          exact hed e' (by simpa using he') hbind
        · cases h'
      rcases h with h | h
      · subst h; exact hle
      · exact hcl e k (by have := ed1 e he; omega) hle hk h
    have eL : (fun j => (listed.setIfInBounds i true).getD j false) = (fun j => if j = i then true else listed.getD j false) := by
      funext j
      by_cases c : j = i
      · subst c
        simp [show j < listed.size by omega]
      · rw [getD_set_ne false (fun e => c e.symm), if_neg c]
    have hK' : ∀ a w, Mid m0 H00 w0 X all p s H (fun j => if j = i then true else listed.getD j false) a w → K a w := fun a w h => hK a w hia hL hb (by rw [eL]; exact h)
    -- the guard's slot
    have guard : ∀ {j : Nat} {want : Bool} {g : Nat} {t : Bool}, o.guard = some (j, want) → dstOf all j = some g → (sS all p.av (fun _ => true) s i)[g]? = some (.bool t) → yielded all.toArray a.tmps j = some t := by
      intro j want g t h1 h2 h3
      have hg : g ∈ looksOf all o := by unfold looksOf; rw [h1]; simp [h2]
      rw [← slot_at hok ho' hL hcl hb hg] at h3
      have ht := mid_bool hmid h3
      have hgd : (all.toArray[j]?).bind (·.dst) = some g := by simpa [dstOf] using h2
      unfold yielded
      rw [hgd]
      simp only [Option.bind_some, ht]
    unfold wpOp
    rw [show all.toArray[i]? = some o by simpa using ho']
    rcases plan i o ho' with ⟨hg, hop, hsti⟩ | ⟨hn, hsi, ha, j, want, g, h1, h2, h3⟩
    · have hw : Region.wanted o (yielded all.toArray a.tmps) = true := by
        rcases hg with hg | ⟨j, want, g, h1, h2, h3⟩
        · simp [Region.wanted, hg]
        · simp [Region.wanted, h1, guard h1 h2 h3]
      simp only [hw, if_true]
      have hvl : (p.view m H i).length = H.length + (hS p.news (befB m i) i).length := by simp [Pl.view, viewS_length]
      have hsl : (p.seen m all.length H i).length = (p.view m H i).length := by simp [Pl.seen]
      -- what it looks at is not hidden
      have hsee : ∀ r, Tch (p.tc i) r → (p.seen m all.length H i)[r]? = (p.view m H i)[r]? := by
        intro r hr
        rw [seen_get]
        split
        · rename_i hx
          obtain ⟨j, hj, hne, hij, hji, q, hq, rfl⟩ := hx
          rcases plan j _ (List.getElem?_eq_getElem hj) with ⟨_, _, hj3⟩ | ⟨_, hj3, _⟩
          · obtain ⟨q1, q3, q4⟩ := hj3 q hq
            rcases Nat.lt_or_ge i j with hlt | hge
            · rcases q1 i hlt with h | h
              · rw [hji] at h; cases h
              · exact absurd hr h
            · cases hv : (p.view m H i)[q.1]? with
              | none => rfl
              | some x =>
                cases x with
                | gone => rfl
                | blk n1 b1 e1 c1 =>
                  unfold Pl.view at hv
                  have := (viewS_live _ hv).2.1 (j, q.1, q.2) (mem_stL.2 ⟨by simp only; omega, hq⟩) rfl
                  simp only at this
                  rw [hij] at this; cases this
          · rw [hj3] at hq; cases hq
        · rfl
      refine .inl (mid_exec hbase hok hX ho' hL hcl hb hst hmid (p.seen m all.length H i) (by rw [hsl, hvl, hS_length p.news (befB m i) _]) (fun r new box e cells hr => ?_) (fun q hq => ?_) (hop _ hsl hsee) hK')
      · rw [seen_get] at hr
        split at hr
        · cases hv : (p.view m H i)[r]? with
          | none => rw [hv] at hr; cases hr
          | some x => rw [hv] at hr; cases hr
        · rename_i hx
          exact ⟨hr, fun j hj hne hij hji q hq e => hx ⟨j, hj, hne, hij, hji, q, hq, e⟩⟩
      · rw [hsee _ (hsti q hq).2.2]
        exact (hsti q hq).2.1
    · have hw : ¬ Region.wanted o (yielded all.toArray a.tmps) = true := by
        rcases h3 with h3 | h3
        · simp [Region.wanted, h1, guard h1 h2 h3]
        · have hg : g ∈ looksOf all o := by unfold looksOf; rw [h1]; simp [h2]
          rw [← slot_at hok ho' hL hcl hb hg] at h3
          have ht := mid_tup hmid h3
          have hgd : (all.toArray[j]?).bind (·.dst) = some g := by simpa [dstOf] using h2
          have hy : yielded all.toArray a.tmps j = none := by
            unfold yielded
            rw [hgd]
            simp only [Option.bind_some, ht]
          simp [Region.wanted, h1, hy]
      simp only [hw]
      exact hK' _ _ (mid_skip hok ho' hL hcl hmid hn hsi ha)
  induction fuel with
  | zero =>
    intro listed a w hsz hcnt hcl hmid
    have hnil : Region.ready .any all.toArray listed = [] := by
      cases hr : Region.ready .any all.toArray listed with
      | nil => rfl
      | cons i l =>
        exfalso
        have hi : i ∈ Region.ready .any all.toArray listed := by rw [hr]; simp
        rw [mem_ready] at hi
        obtain ⟨hl, o, ho, _⟩ := hi
        have hia := (List.getElem?_eq_some_iff.1 (show all[i]? = some o by simpa using ho)).1
        have : 0 < (List.range all.length).countP (fun j => !listed.getD j false) := by
          rw [List.countP_pos_iff]
          refine ⟨i, List.mem_range.2 hia, ?_⟩
          rw [Array.getD_eq_getD_getElem?] at hl ⊢
          rw [Array.getElem?_eq_getElem (by omega)] at hl ⊢
          simpa using hl
        omega
    exact ⟨hnil, done listed a w hsz hnil hmid⟩
  | succ fuel ih =>
    intro listed a w hsz hcnt hcl hmid
    refine ⟨fun hnil => done listed a w hsz hnil hmid, fun i hi => one _ listed a w i hsz hcl hmid hi fun a' w' hia hl hb hmid' => ?_⟩
    refine ih (listed.setIfInBounds i true) a' w' (by simpa using hsz) ?_ ?_ hmid'
    · have := count_lt (p := fun j => !(listed.setIfInBounds i true).getD j false) (q := fun j => !listed.getD j false) (i := i) (fun x hx => by
        by_cases c : x = i
        · subst c; simp [show x < listed.size by omega] at hx
        · rwa [getD_set_ne false (fun e => c e.symm)] at hx) (by simpa using hl) (by simp [show i < listed.size by omega]) (List.range all.length) (List.mem_range.2 hia)
      omega
    · intro j k hj hlj hk hbk
      by_cases c : j = i
      · subst c
        exact getD_set_true (hb k hk hbk)
      · rw [getD_set_ne false (fun e => c e.symm)] at hlj
        exact getD_set_true (hcl j k hj hlj hk hbk)
end

def masksFrom : List Nat → List Oper → List Nat
  | acc, [] => acc
  | acc, o :: rest => masksFrom (acc ++ [(edgesOf o).foldl (fun x e => x ||| (1 <<< e) ||| acc.getD e 0) 0]) rest
/-- What each operation waits for, reckoned from the edges. -/
def masks (all : List Oper) : List Nat := masksFrom [] all

/-- A drawn region, in the order of the text. -/
def drawK (P : Program) (all : List Oper) (s : List AV) (H : Heap) (K : List AV → Heap → Prop) : Prop := drawC P (masks all) all H 0 all s [] [] [] K
def okN (all : List Oper) : Bool := okDraw (masks all) all

theorem drawK_ok {P : Program} (hm : P.follows .mixedOrders = true) : DrawOk P okN (drawK P) := by
  intro id all m0 H0 w0 X s H K Q a w hok hX hm0 hQ hs hd
  unfold drawK at hd
  generalize hmm : masks all = m at *
  have hok : okDraw m all = true := by rw [← hmm]; exact hok
  obtain ⟨p, _, plan, hK⟩ := drawC_plan (s0 := s) all 0 ⟨fun _ => .any, fun _ => [], fun _ => [], fun _ => none⟩ rfl (by simp) (by simpa [sS, nS, stL, tL] using hd)
  have hbase : H0.length ≤ H.length := by
    obtain ⟨map, _, _, h3, _⟩ := hs
    exact h3.len
  refine wp_region_any hm (draw_run (m := m) (p := p) (s := s) (H := H) hbase hok hX (fun k o ho => plan k o (Nat.zero_le _) ho) (fun a w hmid => hQ _ _ a w hK ?_) _ _ _ _ (by simp) ?_ ?_ ?_)
  · obtain ⟨map, h1, h2, h3, h4, _, h5⟩ := hmid
    exact ⟨map, h1, h2, h3, h4, h5⟩
  · have := List.countP_le_length (p := fun j => !(Array.replicate all.toArray.size false).getD j false) (l := List.range all.length)
    simpa using this
  · intro j k hj hlj
    simp [show j < all.length from hj] at hlj
  · obtain ⟨map, h1, h2, h3, h4, h5⟩ := hs
    have eL : (fun j => (Array.replicate all.toArray.size false).getD j false) = fun _ => false := by
      funext j
      by_cases c : j < all.length <;> simp [c]
    rw [eL]
    have now : p.now H (fun _ => false) all.length = H ++ hS p.news (fun _ => false) all.length := by
      apply List.ext_getElem?
      intro r
      exact appS_none _ fun _ _ _ => rfl
    have hG := hS_none p.news all.length
    have hle : H.length ≤ (H ++ hS p.news (fun _ => false) all.length).length := by simp
    unfold Mid
    rw [now]
    refine ⟨map, ?_, ?_, ?_, fun r hr => h4 r (by omega), fun k r _ _ hr _ => h4 r (by omega), h5⟩
    · rw [sS_none, env_gone hG]
      exact srel_later h1 (later_drewN _ w 1)
    · rw [env_gone hG]
      refine ⟨fun r new box e cells hr => (h2.root r new box e cells (gones_get hG hr)).later (later_drewN _ w 1) (fun _ _ _ => rfl), ?_, h2.glob.later (later_drewN _ w 1)⟩
      intro r r' b N N' n1 n2 x1 x2 e1 e2 c1 c2 hr hr'
      exact h2.inj r r' b N N' _ _ _ _ _ _ _ _ (gones_get hG hr) (gones_get hG hr')
    · exact ⟨h3.os, h3.tape, h3.output, h3.size, h3.block, h3.same, fun r hr => h3.out r (hr.imp (fun h => h) fun hr => by omega), by omega, fun b hb h => h3.old b hb (mut_gone hG h)⟩
end Go.Awp
