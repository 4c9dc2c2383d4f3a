/- Regions that draw their order: every order does what the text's order tells.
Conditions: none. -/
import Derived.Test.YtbjfkhjckfodbaaDraw
namespace Go.Awp
set_option linter.all false
open Go

theorem parts_congr {ρ ρ' : Operand → AV} (ps : Array (Nat × Operand)) (h : ∀ x ∈ (ps.toList.map (·.2)).toArray, ρ x = ρ' x) : partsA ρ ps = partsA ρ' ps := by
  unfold partsA
  refine List.map_congr_left fun p hp => ?_
  rw [h p.2 (by simpa using ⟨p.1, by simpa using hp⟩)]

theorem opG_congr {P : Program} {o : Op} {ρ ρ' : Operand → AV} {H : Heap} {K : AV → Heap → Prop} (h : ∀ x ∈ o.operands, ρ x = ρ' x) (hg : opG P o ρ H K) : opG P o ρ' H K := by
  have args : ∀ (l : Array Operand), (∀ x ∈ l, ρ x = ρ' x) → l.toList.map ρ = l.toList.map ρ' := fun l hl => List.map_congr_left fun x hx => hl x (by simpa using hx)
  unfold opG at hg ⊢
  split at hg <;> simp only [Op.operands] at h
  · rw [← h _ (by simp)]; exact hg
  · rw [← h _ (by simp)]; exact hg
  · rw [← h _ (by simp), ← h _ (by simp), ← h _ (by simp)]; exact hg
  · exact hg
  · rw [← h _ (by simp)]; exact hg
  · rw [← parts_congr _ h]; exact hg
  · rw [← parts_congr _ h]; exact hg
  · rw [← h _ (by simp)]; exact hg
  · rename_i t a x
    rw [← h a (by simp), ← h x (by simp)]; exact hg
  · rw [← h _ (by simp)]; exact hg
  · rename_i op t x y yt
    rw [← h x (by simp), ← h y (by simp)]; exact hg
  · rw [← h _ (by simp)]; exact hg
  · rw [← h _ (by simp)]; exact hg
  · rename_i t l c
    rw [← h l (by simp), ← h c (by simp)]; exact hg
  · rename_i t x lo hi
    have e1 : lo.map ρ = lo.map ρ' := by
      cases lo with
      | none => rfl
      | some y => simp only [Option.map_some]; rw [h y (by simp)]
    have e2 : hi.map ρ = hi.map ρ' := by
      cases hi with
      | none => rfl
      | some y => simp only [Option.map_some]; rw [h y (by simp)]
    rw [← h x (by simp), ← e1, ← e2]; exact hg
  · rw [← h _ (by simp)]; exact hg
  · rw [← h _ (by simp)]; exact hg
  · rename_i t x i
    rw [← h x (by simp), ← h i (by simp)]; exact hg
  · rename_i t x i
    rw [← h x (by simp), ← h i (by simp)]; exact hg
  · rw [← h _ (by simp)]; exact hg
  · rename_i f first caps
    rw [← args first (fun x hx => h x (by simp [hx])), ← args caps (fun x hx => h x (by simp [hx]))]; exact hg
  · rename_i c
    unfold callOpG at hg ⊢
    have ha : c.args.toList.map ρ = c.args.toList.map ρ' := args c.args fun x hx => h x (by
      unfold Call.operands
      exact Array.mem_append.2 (.inr hx))
    cases hc : c.callee with
    | builtin b => simp only [hc] at hg ⊢; rw [← ha]; exact hg
    | value f =>
      simp only [hc] at hg ⊢
      rw [← ha, ← h f (by unfold Call.operands; rw [hc]; simp)]
      exact hg
    | invoke r m => simp only [hc] at hg
  · exact hg
  · rename_i t m x ok
    rw [← h m (by simp), ← h x (by simp)]; exact hg
  · rename_i t m x v
    rw [← h m (by simp), ← h x (by simp), ← h v (by simp)]; exact hg
  · rename_i t m x
    rw [← h m (by simp), ← h x (by simp)]; exact hg
  · rename_i t m x v
    rw [← h m (by simp), ← h x (by simp), ← h v (by simp)]; exact hg
  · exact hg

theorem follows_edges {m : List Nat} {all : List Oper} (hok : okDraw m all = true) {i : Nat} {o : Oper} (ho : all[i]? = some o) :
    (∀ e ∈ edgesOf o, e < i) ∧ (∀ k, k < all.length → (befB m i k = true ↔ ∃ e ∈ edgesOf o, e = k ∨ befB m e k = true)) ∧
      ∀ (j : Nat) t, j < all.length → j ≠ i → dstOf all j = some t → t ∈ looksOf all o → (j < i ∧ befB m i j = true) ∨ (i < j ∧ befB m j i = true) := by
  have hi := (List.getElem?_eq_some_iff.1 ho).1
  have h := List.all_eq_true.1 hok i (List.mem_range.2 hi)
  rw [ho] at h
  simp only [Bool.and_eq_true] at h
  obtain ⟨⟨h1, h2⟩, h3⟩ := h
  refine ⟨fun e he => by simpa using List.all_eq_true.1 h1 e he, fun k hk => ?_, fun j t hj hne hd ht => ?_⟩
  · have := List.all_eq_true.1 h2 k (List.mem_range.2 hk)
    have h4 := beq_iff_eq.1 this
    rw [h4, List.any_eq_true]
    simp only [Bool.or_eq_true, beq_iff_eq]
  · have := List.all_eq_true.1 h3 j (List.mem_range.2 hj)
    rw [hd] at this
    simp only [Bool.or_eq_true, beq_iff_eq, Bool.and_eq_true, decide_eq_true_eq, Bool.not_eq_true'] at this
    rcases this with e | (h | ⟨h, h'⟩) | ⟨h, h'⟩
    · exact absurd e.symm hne
    · rw [List.contains_eq_mem] at h
      simp [ht] at h
    · exact .inl ⟨h, h'⟩
    · exact .inr ⟨h, h'⟩

section
variable {P : Program} {m0 : Nat → Option (Option (Nat × Nat))} {H00 : Heap} {w0 : World} {X : Nat → Prop}

/-- The roots when some operations are done. -/
def Pl.now (p : Pl) (H : Heap) (L : Nat → Bool) (n : Nat) : Heap := appS L (stL p.st n) (H ++ hS p.news L n)
theorem Pl.now_length (p : Pl) (H : Heap) (L : Nat → Bool) (n : Nat) : (p.now H L n).length = H.length + (hS p.news L n).length := by simp [Pl.now, appS_length]

/-- How the machine stands while some operations of the region are done. -/
def Mid (m0 : Nat → Option (Option (Nat × Nat))) (H00 : Heap) (w0 : World) (X : Nat → Prop) (all : List Oper) (p : Pl) (s : List AV) (H : Heap) (L : Nat → Bool) (a : Act) (w : World) : Prop :=
  ∃ map, SRel w (env map (p.now H L all.length) X w0.heap.size) (sS all p.av L s all.length) a.tmps ∧ WRel w (env map (p.now H L all.length) X w0.heap.size) (p.now H L all.length) ∧
    Step m0 H00 w0 map (p.now H L all.length) w ∧ (∀ r, (p.now H L all.length).length ≤ r → map r = none) ∧
    (∀ (k r : Nat), k < all.length → L k = false → H.length + (hS p.news L k).length ≤ r → r < H.length + (hS p.news L (k + 1)).length → map r = none) ∧ a.defers = []

theorem bef_lt {m : List Nat} {all : List Oper} (hok : okDraw m all = true) : ∀ (i : Nat), i < all.length → ∀ k, k < all.length → befB m i k = true → k < i := by
  intro i
  induction i using Nat.strongRecOn with
  | _ i ih =>
    intro hi k hk hb
    obtain ⟨ed1, ed2, _⟩ := follows_edges hok (o := all[i]'hi) (List.getElem?_eq_getElem hi)
    obtain ⟨e, he, h⟩ := (ed2 k hk).1 hb
    have hlt := ed1 e he
    rcases h with rfl | h
    · exact hlt
    · have := ih e hlt (by omega) k hk h
      omega
theorem stL_split {st : Nat → List (Nat × Root)} {i : Nat} : ∀ (n : Nat), i ≤ n → ∃ pre, stL st n = pre ++ stL st i ∧ ∀ e ∈ pre, i ≤ e.1 ∧ e.1 < n ∧ (e.2.1, e.2.2) ∈ st e.1
  | n, h => by
    induction n with
    | zero => have : i = 0 := by omega
              subst this; exact ⟨[], rfl, fun e he => by cases he⟩
    | succ n ih =>
      by_cases c : i = n + 1
      · subst c; exact ⟨[], rfl, fun e he => by cases he⟩
      · obtain ⟨pre, h1, h2⟩ := ih (by omega)
        refine ⟨(st n).map (fun p => (n, p.1, p.2)) ++ pre, by rw [stL, h1, List.append_assoc], fun e he => ?_⟩
        rcases List.mem_append.1 he with he | he
        · obtain ⟨p, hp, rfl⟩ := List.mem_map.1 he
          exact ⟨by simp only; omega, by simp, hp⟩
        · obtain ⟨q1, q2, q3⟩ := h2 e he
          exact ⟨q1, by omega, q3⟩
theorem made_live {news : Nat → List Root} {H : Heap} {L0 L : Nat → Bool} {k i r : Nat} (h : liv (H ++ hS news L0 k)[r]? = true) (h1 : H.length + (hS news L i).length ≤ r) (h2 : r < H.length + (hS news L (i + 1)).length) : L0 i = true := by
  have e1 := hS_length news L0 L i
  have e2 := hS_length news L0 L (i + 1)
  have e3 : i < k := by
    rcases Nat.lt_or_ge i k with h | hge
    · exact h
    · have := hS_le news L0 hge
      rw [List.getElem?_eq_none (by rw [List.length_append]; omega)] at h
      cases h
  rw [List.getElem?_append_right (by omega), hS_mono news L0 (k := i + 1) k (by omega) (by omega), hS_succ, List.getElem?_append_right (by omega), List.getElem?_map] at h
  cases hx : (news i)[r - H.length - (hS news L0 i).length]? with
  | none => rw [hx] at h; cases h
  | some x =>
    rw [hx] at h
    cases hL : L0 i with
    | true => rfl
    | false => rw [hL] at h; cases h

theorem slot_at {all : List Oper} {av : Nat → AV} {m : List Nat} (hok : okDraw m all = true) {L : Nat → Bool} {s : List AV} {i t : Nat} {o : Oper} (ho : all[i]? = some o) (hL : L i = false)
    (hcl : ∀ (j k : Nat), j < all.length → L j = true → k < all.length → befB m j k = true → L k = true) (hb : ∀ k, k < all.length → befB m i k = true → L k = true) (ht : t ∈ looksOf all o) :
    (sS all av L s all.length)[t]? = (sS all av (fun _ => true) s i)[t]? := by
  have hi := (List.getElem?_eq_some_iff.1 ho).1
  obtain ⟨_, _, h3⟩ := follows_edges hok ho
  have key : ∀ k, k ≤ all.length → (sS all av L s k)[t]? = (sS all av (fun _ => true) s (min k i))[t]? := by
    intro k
    induction k with
    | zero => intro _; simp [sS]
    | succ k ih =>
      intro hk
      have ih := ih (by omega)
      by_cases c : k < i
      · rw [show min (k + 1) i = k + 1 by omega]
        rw [show min k i = k by omega] at ih
        by_cases d : dstOf all k = some t
        · rcases h3 k t (by omega) (by omega) d ht with ⟨_, e⟩ | ⟨e, _⟩
          · have hk' := hb k (by omega) e
            simp only [sS, hk', if_true]
            exact setDst_congr (by rw [sS_length, sS_length]) ih
          · omega
        · simp only [sS, if_true]
          rw [setDst_ne d]
          split
          · rw [setDst_ne d]; exact ih
          · exact ih
      · rw [show min (k + 1) i = i by omega]
        rw [show min k i = i by omega] at ih
        simp only [sS]
        split
        · rename_i hk'
          by_cases d : dstOf all k = some t
          · by_cases e : k = i
            · subst e; rw [hL] at hk'; cases hk'
            · rcases h3 k t (by omega) e d ht with ⟨e1, _⟩ | ⟨_, e2⟩
              · omega
              · have := hcl k i (by omega) hk' hi e2
                rw [hL] at this; cases this
          · rw [setDst_ne d]; exact ih
        · exact ih
  rw [key all.length (Nat.le_refl _), show min all.length i = i by omega]

theorem slots_put {all : List Oper} {av : Nat → AV} {m : List Nat} (hok : okDraw m all = true) {L : Nat → Bool} {s : List AV} {i : Nat} {o : Oper} (ho : all[i]? = some o) (hL : L i = false)
    (hcl : ∀ (j k : Nat), j < all.length → L j = true → k < all.length → befB m j k = true → L k = true) :
    sS all av (fun j => if j = i then true else L j) s all.length = setDst (sS all av L s all.length) o.dst (av i) := by
  have hi := (List.getElem?_eq_some_iff.1 ho).1
  obtain ⟨_, _, h3⟩ := follows_edges hok ho
  have hd : dstOf all i = o.dst := by simp [dstOf, ho]
  have key : ∀ k, k ≤ all.length → sS all av (fun j => if j = i then true else L j) s k = if i < k then setDst (sS all av L s k) o.dst (av i) else sS all av L s k := by
    intro k
    induction k with
    | zero => intro _; rfl
    | succ k ih =>
      intro hk
      have ih := ih (by omega)
      by_cases c : k = i
      · subst c
        rw [if_neg (by omega)] at ih
        rw [if_pos (by omega)]
        simp only [sS, if_true, ih, hL, hd, Bool.false_eq_true, if_false]
      · by_cases c2 : i < k
        · rw [if_pos c2] at ih
          rw [if_pos (by omega)]
          simp only [sS, if_neg c, ih]
          split
          · rename_i hk'
            -- two stores to different slots
            cases hdk : dstOf all k with
            | none => rfl
            | some t1 =>
              cases hdi : o.dst with
              | none => rfl
              | some t2 =>
                have hne : t1 ≠ t2 := by
                  intro e
                  subst e
                  rcases h3 k t1 (by omega) c hdk (by unfold looksOf; rw [hdi]; simp) with ⟨e1, _⟩ | ⟨_, e2⟩
                  · omega
                  · have := hcl k i (by omega) hk' hi e2
                    rw [hL] at this; cases this
                simp only [setDst]
                exact List.set_comm _ _ (fun e => hne e.symm)
          · rfl
        · rw [if_neg c2] at ih
          rw [if_neg (by omega)]
          simp only [sS, if_neg c, ih]
  rw [key all.length (Nat.le_refl _), if_pos hi]

theorem mid_exec {m : List Nat} {all : List Oper} {p : Pl} {s : List AV} {H : Heap} {L : Nat → Bool} {a : Act} {w : World} {i : Nat} {o : Oper} {next : Act → World → Prop} {Q : Exit → Act → World → Prop} (hbase : H00.length ≤ H.length)
    (hok : okDraw m all = true) (hX : ∀ b, X b → b < w0.heap.size ∧ ¬ mutOf m0 H00 b) (ho : all[i]? = some o) (hL : L i = false)
    (hcl : ∀ (j k : Nat), j < all.length → L j = true → k < all.length → befB m j k = true → L k = true) (hb : ∀ k, k < all.length → befB m i k = true → L k = true)
    (hst : ∀ k, k < all.length → ∀ q ∈ p.st k, liv (p.view m H k)[q.1]? = true)
    (hmid : Mid m0 H00 w0 X all p s H L a w) (W : Heap) (hWl : W.length = H.length + (hS p.news L i).length)
    (hWs : ∀ (r : Nat) (new box : Bool) (e : TypeId) (cells : List AV), W[r]? = some (.blk new box e cells) → (p.view m H i)[r]? = some (.blk new box e cells) ∧ ∀ j, j < all.length → j ≠ i → befB m i j = false → befB m j i = false → ∀ q ∈ p.st j, q.1 ≠ r)
    (hWk : ∀ q ∈ p.st i, liv W[q.1]? = true)
    (hop : opG P o.op (evalA (sS all p.av (fun _ => true) s i)) W (fun av' H' => av' = p.av i ∧ H' = setA (p.st i) W ++ p.news i))
    (hn : ∀ a' w', Mid m0 H00 w0 X all p s H (fun j => if j = i then true else L j) a' w' → next a' w') : o.wp P a w next Q := by
  have hi := (List.getElem?_eq_some_iff.1 ho).1
  obtain ⟨map, h1, h2, h3, h4, h4', h5⟩ := hmid
  generalize hnews : p.news = news at *
  generalize hav : p.av = av at *
  obtain ⟨ed1, ed2, _⟩ := follows_edges hok ho
  have hlenL := hS_length news L (befB m i)
  -- what the operation may see
  let HL := p.now H L all.length
  have hLlen : HL.length = H.length + (hS news L all.length).length := by rw [← hnews]; exact p.now_length H L all.length
  let Hm := W
  have hHm : Hm.length = H.length + (hS news L i).length := hWl
  have hbl : ∀ k, k < i → befB m i k = true → L k = true := fun k hk hbk => hb k (by omega) hbk
  have base : ∀ (r : Nat) (new box : Bool) (e : TypeId) (cells : List AV), (H ++ hS news (befB m i) i)[r]? = some (.blk new box e cells) → (H ++ hS news L all.length)[r]? = some (.blk new box e cells) := by
    intro r new box e cells hr
    have hlt : r < (H ++ hS news (befB m i) i).length := (List.getElem?_eq_some_iff.1 hr).1
    rw [List.length_append] at hlt
    have hll := hlenL i
    rw [List.getElem?_append] at hr ⊢
    split at hr
    · rw [if_pos ‹_›]; exact hr
    · rw [if_neg ‹_›]
      have g1 : (hS news L i)[r - H.length]? = some (.blk new box e cells) := by
        -- only operations before i count here
        have g2 : hS news (fun j => befB m i j && decide (j < i)) i = hS news (befB m i) i := by
          have : ∀ k, k ≤ i → hS news (fun j => befB m i j && decide (j < i)) k = hS news (befB m i) k := by
            intro k
            induction k with
            | zero => intro _; rfl
            | succ k ih => intro hk; rw [hS_succ, hS_succ, ih (by omega)]; simp [show k < i by omega]
          exact this i (Nat.le_refl _)
        rw [← g2] at hr
        refine hS_sub news (L := fun j => befB m i j && decide (j < i)) (L' := L) (fun j hj => ?_) i _ new box e cells hr
        simp only [Bool.and_eq_true, decide_eq_true_eq] at hj
        exact hbl j hj.2 hj.1
      rw [hS_mono news L (k := i) all.length (by omega) (by omega)]
      exact g1
  -- what others lay anew is not what this one sees
  have late : ∀ (r : Nat), liv W[r]? = true → ∀ e : Nat × Nat × Root, i ≤ e.1 → e.1 < all.length → (e.2.1, e.2.2) ∈ p.st e.1 → e.2.1 = r → L e.1 = false := by
    intro r hlv e h1 h2 h3 h4
    obtain ⟨n', b', e', c', hw⟩ := liv_blk hlv
    by_cases c : e.1 = i
    · rw [c]; exact hL
    · cases hLe : L e.1 with
      | false => rfl
      | true =>
        have u1 : befB m e.1 i = false := by
          cases hx : befB m e.1 i with
          | false => rfl
          | true => have := hcl e.1 i h2 hLe hi hx; rw [hL] at this; cases this
        have u2 : befB m i e.1 = false := by
          cases hx : befB m i e.1 with
          | false => rfl
          | true => have := bef_lt hok i hi e.1 h2 hx; omega
        exact absurd h4 ((hWs r _ _ _ _ hw).2 e.1 h2 c u2 u1 _ h3)
  have elderS : ∀ (L' : Nat → Bool) (r : Nat) (new box : Bool) (e : TypeId) (cells : List AV), (∀ j, j < i → L' j = L j) → (H ++ hS news L' all.length)[r]? = (H ++ hS news L all.length)[r]? → W[r]? = some (.blk new box e cells) → (appS L' (stL p.st i) (H ++ hS news L' all.length))[r]? = some (.blk new box e cells) := by
    intro L' r new box e cells hL' hbase' hr
    obtain ⟨hv, _⟩ := hWs r new box e cells hr
    unfold Pl.view at hv
    rw [hnews] at hv
    obtain ⟨g1, g2, g3⟩ := viewS_live _ hv
    obtain ⟨n1, b1, e1, c1, g1⟩ := liv_blk g1
    rw [← g3]
    refine appS_congr _ (by rw [hbase', base r _ _ _ _ g1, g1]) fun e he hr => ?_
    obtain ⟨q1, _⟩ := mem_stL.1 he
    have q2 := g2 e he hr
    rw [q2, hL' _ q1]
    exact hb _ (by omega) q2
  have sub : ∀ (r : Nat) (new box : Bool) (e : TypeId) (cells : List AV), Hm[r]? = some (.blk new box e cells) → HL[r]? = some (.blk new box e cells) := by
    intro r new box e cells hr
    obtain ⟨pre, h1, h2⟩ := stL_split (st := p.st) (i := i) all.length (by omega)
    show (appS L (stL p.st all.length) (H ++ hS p.news L all.length))[r]? = _
    rw [hnews, h1, appS_append, appS_none _ fun e he hre => ?_]
    · exact elderS L r new box e cells (fun _ _ => rfl) rfl hr
    · obtain ⟨k1, k2, k3⟩ := h2 e he
      exact late r (by show liv Hm[r]? = true; rw [hr]; rfl) e k1 k2 k3 hre
  have subm : ∀ b, mutOf map Hm b → mutOf map HL b := by
    rintro b ⟨r, N, new, box, e, c, g1, g2⟩
    exact ⟨r, N, new, box, e, c, sub r new box e c g1, g2⟩
  let X' : Nat → Prop := fun b => X b ∨ (mutOf map HL b ∧ ¬ mutOf map Hm b)
  have live_iff : ∀ b, (env map Hm X' w0.heap.size).live b ↔ (env map HL X w0.heap.size).live b := by
    intro b
    constructor
    · rintro (h | h | h)
      · exact .inl (subm b h)
      · exact .inr h
      · exact .inl h.1
    · rintro (h | h)
      · by_cases c : mutOf map Hm b
        · exact .inl c
        · exact .inr (.inr ⟨h, c⟩)
      · exact .inr (.inl h)
  have L1 : Later (env map HL X w0.heap.size) w (env map Hm X' w0.heap.size) w := ⟨fun _ _ h => h, Nat.le_refl _, fun b _ h => (live_iff b).1 h, Nat.le_refl _, fun _ _ _ => rfl⟩
  have hWm : WRel w (env map Hm X' w0.heap.size) Hm :=
    ⟨fun r new box e cells hr => (h2.root r new box e cells (sub r _ _ _ _ hr)).later L1 (fun _ _ _ => rfl),
     fun r r' b N N' n1 n2 x1 x2 e1 e2 c1 c2 hr hr' hm hm' => h2.inj r r' b N N' _ _ _ _ _ _ _ _ (sub r _ _ _ _ hr) (sub r' _ _ _ _ hr') hm hm', h2.glob.later L1⟩
  have hXm : ∀ b, X' b → b < w.heap.size ∧ ¬ mutOf map Hm b := by
    rintro b (h | ⟨h, h'⟩)
    · exact ⟨Nat.lt_of_lt_of_le (hX b h).1 h3.size, fun hm => (hX b h).2 (h3.old b (hX b h).1 (subm b hm))⟩
    · obtain ⟨r, N, new, box, e, c, g1, g2⟩ := h
      exact ⟨h2.lt g1 g2, h'⟩
  have hfree : ∀ (av' : AV) (H' : Heap), (av' = av i ∧ H' = setA (p.st i) W ++ news i) → ∀ r, Hm.length ≤ r → r < H'.length → map r = none := by
    rintro av' H' ⟨_, rfl⟩ r hr1 hr2
    refine h4' i r hi hL (by rw [hHm] at hr1; exact hr1) ?_
    rw [List.length_append, setA_length] at hr2
    have : (hS news L (i + 1)).length = (hS news L i).length + (news i).length := by simp [hS_succ]
    omega
  have hρ : ∀ x ∈ o.op.operands, evalA (sS all av (fun _ => true) s i) x = evalA (sS all av L s all.length) x := by
    intro x hx
    cases x with
    | tmp t =>
      simp only [evalA, List.getD_eq_getElem?_getD]
      rw [slot_at (av := av) hok ho hL hcl hb]
      unfold looksOf tmpsOf
      refine List.mem_append_left _ (List.mem_append_left _ (List.mem_filterMap.2 ⟨.tmp t, by simpa using hx, rfl⟩))
    | _ => rfl
  have hop' := opG_congr hρ hop
  have h1' : ∀ x, VRel w (env map Hm X' w0.heap.size) (evalA (sS all av L s all.length) x) (a.eval x) := fun x => (rel_eval h1 x).later L1
  have hrun := opG_ok (o := o) hfree hXm hWm h3.size h1' hop'
  refine hrun a next Q fun v w' ⟨map', av', H', ⟨e1, e2⟩, k2, k3, k4⟩ => ?_
  subst e1; subst e2
  let L' : Nat → Bool := fun j => if j = i then true else L j
  let HL' := p.now H L' all.length
  let R := setA (p.st i) W ++ news i
  have hLlen' : HL'.length = H.length + (hS news L all.length).length := by
    have := p.now_length H L' all.length
    rw [hnews, hS_length news L' L] at this
    exact this
  have hlenHL : HL'.length = HL.length := by rw [hLlen, hLlen']
  have hsucc : (hS news L (i + 1)).length = (hS news L i).length + (news i).length := by simp [hS_succ]
  have hHp : R.length = H.length + (hS news L (i + 1)).length := by
    simp only [R]
    rw [List.length_append, setA_length]; omega
  have hle : (hS news L (i + 1)).length ≤ (hS news L all.length).length := hS_le news L (by omega)
  let Tc : Nat → Prop := fun r => (∃ q ∈ p.st i, q.1 = r) ∨ (H.length + (hS news L i).length ≤ r ∧ r < H.length + (hS news L (i + 1)).length)
  have base' : ∀ (r : Nat), (H ++ hS news L' all.length)[r]? = if H.length + (hS news L i).length ≤ r ∧ r < H.length + (hS news L (i + 1)).length then (news i)[r - (H.length + (hS news L i).length)]? else (H ++ hS news L all.length)[r]? := by
    intro r
    rw [List.getElem?_append (l₁ := H) (l₂ := hS news L' all.length), List.getElem?_append (l₁ := H) (l₂ := hS news L all.length)]
    by_cases c : r < H.length
    · rw [if_pos c, if_pos c, if_neg (by omega)]
    · rw [if_neg c, if_neg c, hS_put news hi]
      by_cases c2 : (hS news L i).length ≤ r - H.length ∧ r - H.length < (hS news L (i + 1)).length
      · rw [if_pos c2, if_pos (by omega)]
        congr 1
        omega
      · rw [if_neg c2, if_neg (by omega)]
  have L'ne : ∀ j, j ≠ i → L' j = L j := fun j hj => by simp only [L', if_neg hj]
  have untouched : ∀ r, ¬ Tc r → HL'[r]? = HL[r]? := by
    intro r hr
    show (appS L' (stL p.st all.length) (H ++ hS p.news L' all.length))[r]? = (appS L (stL p.st all.length) (H ++ hS p.news L all.length))[r]?
    rw [hnews]
    refine appS_congr _ (by rw [base', if_neg (fun h => hr (.inr h))]) fun e he hre => ?_
    refine L'ne _ fun hei => hr (.inl ⟨_, ?_, hre⟩)
    rw [← hei]; exact (mem_stL.1 he).2
  have touched : ∀ r, Tc r → HL'[r]? = R[r]? := by
    intro r hr
    show (appS L' (stL p.st all.length) (H ++ hS p.news L' all.length))[r]? = _
    rw [hnews]
    rcases hr with ⟨q, hq, rfl⟩ | ⟨hr1, hr2⟩
    · have hlw := hWk q hq
      obtain ⟨n1, b1, e1, c1, hw⟩ := liv_blk hlw
      have hlt : q.1 < W.length := (List.getElem?_eq_some_iff.1 hw).1
      obtain ⟨pre, h1, h2⟩ := stL_split (st := p.st) (i := i + 1) all.length (by omega)
      rw [h1, appS_append, appS_none _ fun e he hre => ?_]
      · rw [stL, appS_append, appS_on (by simp [L'])]
        have hlive : (appS L' (stL p.st i) (H ++ hS news L' all.length))[q.1]? = some (.blk n1 b1 e1 c1) := elderS L' q.1 n1 b1 e1 c1 (fun j hj => L'ne j (by omega)) (by rw [base', if_neg (by omega)]) hw
        simp only [R]
        rw [List.getElem?_append_left (by rw [setA_length]; exact hlt)]
        exact setA_at (by rw [hlive]; rfl) hlw ⟨q, hq, rfl⟩
      · obtain ⟨k1, k2, k3⟩ := h2 e he
        rw [L'ne _ (by omega)]
        exact late q.1 hlw e (by omega) k2 k3 hre
    · rw [appS_none _ fun e he hre => ?_]
      · rw [base', if_pos ⟨hr1, hr2⟩]
        simp only [R]
        rw [List.getElem?_append_right (by rw [setA_length]; omega), setA_length, hWl]
      · obtain ⟨k1, k2⟩ := mem_stL.1 he
        by_cases c : e.1 = i
        · rw [c] at k2
          have hlw := hWk _ k2
          simp only at hlw
          rw [hre] at hlw
          obtain ⟨n1, b1, e1, c1, hw⟩ := liv_blk hlw
          have := (List.getElem?_eq_some_iff.1 hw).1
          omega
        · rw [L'ne _ c]
          cases hLe : L e.1 with
          | false => rfl
          | true =>
            have hlv := hst e.1 k1 _ k2
            simp only at hlv
            rw [hre] at hlv
            obtain ⟨n1, b1, e1, c1, hv⟩ := liv_blk hlv
            unfold Pl.view at hv
            rw [hnews] at hv
            have hbf := made_live (viewS_live _ hv).1 hr1 hr2
            have := hcl e.1 i k1 hLe hi hbf
            rw [hL] at this; cases this
  have cases' : ∀ (r : Nat) (new box : Bool) (e : TypeId) (cells : List AV), HL'[r]? = some (.blk new box e cells) → (Tc r ∧ R[r]? = some (.blk new box e cells)) ∨ (¬ Tc r ∧ HL[r]? = some (.blk new box e cells)) := by
    intro r new box e cells hr
    by_cases c : Tc r
    · rw [touched r c] at hr; exact .inl ⟨c, hr⟩
    · rw [untouched r c] at hr; exact .inr ⟨c, hr⟩
  -- the elder roots keep their blocks
  have hknown : ∀ (r : Nat) (new box : Bool) (e : TypeId) (cells : List AV), HL[r]? = some (.blk new box e cells) → ∃ y, map r = some y ∧ map' r = some y := by
    intro r new box e cells hr
    rcases h2.root r _ _ _ _ hr with ⟨d, _⟩ | ⟨b, N, arr, d, _⟩
    · exact ⟨_, d, k4.same r _ d⟩
    · exact ⟨_, d, k4.same r _ d⟩
  have elder : ∀ (r : Nat) (new box : Bool) (e : TypeId) (cells : List AV) (b N : Nat), HL[r]? = some (.blk new box e cells) → map' r = some (some (b, N)) → map r = some (some (b, N)) := by
    intro r new box e cells b N hr hm
    obtain ⟨y, y1, y2⟩ := hknown r new box e cells hr
    rw [y2] at hm; cases hm; exact y1
  have hm_mem : ∀ (r : Nat) (new box : Bool) (e : TypeId) (cells : List AV), ¬ Tc r → Hm[r]? = some (.blk new box e cells) → R[r]? = some (.blk new box e cells) := by
    intro r new box e cells hc hr
    simp only [R]
    rw [List.getElem?_append_left (by rw [setA_length]; exact (List.getElem?_eq_some_iff.1 hr).1), setA_ne fun q hq e => hc (.inl ⟨q, hq, e⟩)]
    exact hr
  have live' : ∀ b, (env map' HL' X w0.heap.size).live b → (env map' R X' w0.heap.size).live b := by
    rintro b (⟨r, N, new, box, e, c, g1, g2⟩ | h)
    · rcases cases' r new box e c g1 with ⟨_, q⟩ | ⟨_, q⟩
      · exact .inl ⟨r, N, new, box, e, c, q, g2⟩
      · have g3 := elder r new box e c b N q g2
        by_cases c1 : mutOf map Hm b
        · obtain ⟨r3, N3, n3, x3, e3, c3, k1, k2⟩ := c1
          have := h2.inj r3 r b N3 N _ _ _ _ _ _ _ _ (sub r3 _ _ _ _ k1) q k2 g3
          subst this
          rename_i hnt
          exact .inl ⟨r3, N3, _, _, _, _, hm_mem r3 _ _ _ _ hnt k1, k4.same r3 _ k2⟩
        · exact .inr (.inr ⟨⟨r, N, new, box, e, c, q, g3⟩, c1⟩)
    · exact .inr (.inl h)
  have L2 : Later (env map' R X' w0.heap.size) w' (env map' HL' X w0.heap.size) w' := ⟨fun _ _ h => h, Nat.le_refl _, fun b _ h => live' b h, Nat.le_refl _, fun _ _ _ => rfl⟩
  have oldmut : ∀ b, b < w.heap.size → mutOf map' HL' b → mutOf map HL b := by
    rintro b hb' ⟨r, N, new, box, e, c, g1, g2⟩
    rcases cases' r new box e c g1 with ⟨_, q⟩ | ⟨_, q⟩
    · exact subm b (k4.old b hb' ⟨r, N, new, box, e, c, q, g2⟩)
    · exact ⟨r, N, new, box, e, c, q, elder r new box e c b N q g2⟩
  have L3 : Later (env map HL X w0.heap.size) w (env map' HL' X w0.heap.size) w' :=
    ⟨fun r x hx => k4.same r x hx, Nat.le_refl _, fun b hb' h => h.imp (oldmut b hb') id, k4.size, fun b hb' hnl => k4.block b hb' (fun e => hnl (.inl (subm b e)))⟩
  have k3 : WRel w' (env map' R X' w0.heap.size) R := k3
  refine hn _ w' ⟨map', ?_, ⟨fun r new box e cells hr => ?_, fun r r' b N N' n1 n2 x1 x2 e1 e2 c1 c2 hr hr' hm hm' => ?_, k3.glob.later L2⟩, ⟨k4.os.trans h3.os, k4.tape.trans h3.tape, k4.output.trans h3.output, Nat.le_trans h3.size k4.size, fun b hb' hnm => ?_, fun r x hx => k4.same r x (h3.same r x hx), fun r hr => ?_, ?_, fun b hb' hm => ?_⟩, fun r hr => ?_, fun k r hk hLk hr1 hr2 => ?_, ?_⟩
  · rw [hav, slots_put hok ho hL hcl]
    exact srel_set (srel_later h1 L3) o.dst (k2.later L2) a rfl
  · rcases cases' r new box e cells hr with ⟨_, q⟩ | ⟨c1, q⟩
    · exact (k3.root r _ _ _ _ q).later L2 (fun _ _ _ => rfl)
    · by_cases c2 : ∃ n2 b2 e2 c2, Hm[r]? = some (.blk n2 b2 e2 c2)
      · obtain ⟨n2, b2, e2, c2, hq⟩ := c2
        have := sub r _ _ _ _ hq
        rw [q] at this; cases this
        exact (k3.root r _ _ _ _ (hm_mem r _ _ _ _ c1 hq)).later L2 (fun _ _ _ => rfl)
      · refine (h2.root r new box e cells q).later L3 (fun b N hm => ?_)
        refine k4.block b (h2.lt q hm) ?_
        rintro ⟨r2, N2, n2, b2, e2, cc2, g1, g2⟩
        have := h2.inj r r2 b N N2 _ _ _ _ _ _ _ _ q (sub r2 _ _ _ _ g1) hm g2
        subst this
        exact c2 ⟨_, _, _, _, g1⟩
  · have clash : ∀ (r1 r2 N1 N2 : Nat) (na nb xa xb : Bool) (ea eb : TypeId) (ca cb : List AV), Tc r1 → ¬ Tc r2 → R[r1]? = some (.blk na xa ea ca) → map' r1 = some (some (b, N1)) →
        HL[r2]? = some (.blk nb xb eb cb) → map' r2 = some (some (b, N2)) → False := by
      intro r1 r2 N1 N2 na nb xa xb ea eb ca cb t1 t2 g2 g3 g4 g5
      have g6 := elder r2 _ _ _ _ b N2 g4 g5
      obtain ⟨r3, N3, n3, x3, e3, c3, q1, q2⟩ := k4.old b (h2.lt g4 g6) ⟨r1, N1, na, xa, ea, ca, g2, g3⟩
      have e1 := h2.inj r3 r2 b N3 N2 _ _ _ _ _ _ _ _ (sub r3 _ _ _ _ q1) g4 q2 g6
      subst e1
      have e2 := k3.inj r1 r3 b N1 N3 _ _ _ _ _ _ _ _ g2 (hm_mem r3 _ _ _ _ t2 q1) g3 (k4.same r3 _ q2)
      subst e2
      exact t2 t1
    rcases cases' r _ _ _ _ hr with ⟨c1, q⟩ | ⟨c1, q⟩
    · rcases cases' r' _ _ _ _ hr' with ⟨c1', q'⟩ | ⟨c1', q'⟩
      · exact k3.inj r r' b N N' _ _ _ _ _ _ _ _ q q' hm hm'
      · exact (clash r r' N N' _ _ _ _ _ _ _ _ c1 c1' q hm q' hm').elim
    · rcases cases' r' _ _ _ _ hr' with ⟨c1', q'⟩ | ⟨c1', q'⟩
      · exact (clash r' r N' N _ _ _ _ _ _ _ _ c1' c1 q' hm' q hm).elim
      · exact h2.inj r r' b N N' _ _ _ _ _ _ _ _ q q' (elder r _ _ _ _ b N q hm) (elder r' _ _ _ _ b N' q' hm')
  · have g1 : ¬ mutOf map HL b := fun h => hnm (h3.old b hb' h)
    exact (k4.block b (Nat.lt_of_lt_of_le hb' h3.size) (fun h => g1 (subm b h))).trans (h3.block b hb' hnm)
  · have g1 : map' r = map r := by
      refine k4.out r ?_
      have hl00 := h3.len
      rcases hr with hr | hr
      · left
        omega
      · right
        have hr2 : HL'.length ≤ r := hr
        show R.length ≤ r
        rw [hHp]
        omega
    rw [g1]
    refine h3.out r ?_
    rcases hr with hr | hr
    · exact .inl hr
    · right
      have hr2 : HL'.length ≤ r := hr
      show HL.length ≤ r
      omega
  · show H00.length ≤ HL'.length
    rw [hlenHL]; exact h3.len
  · exact h3.old b hb' (oldmut b (Nat.lt_of_lt_of_le hb' h3.size) hm)
  · have hr2 : HL'.length ≤ r := hr
    rw [k4.out r (.inr (by show R.length ≤ r; rw [hHp]; omega))]
    exact h4 r (by show HL.length ≤ r; omega)
  · rw [hnews] at hr1 hr2
    have e1 := hS_length news (fun j => if j = i then true else L j) L k
    have e2 := hS_length news (fun j => if j = i then true else L j) L (k + 1)
    rw [e1] at hr1; rw [e2] at hr2
    by_cases c : k = i
    · subst c; simp at hLk
    · have hLk' : L k = false := by simpa [c] using hLk
      rw [k4.out r ?_]
      · exact h4' k r hk hLk' hr1 hr2
      · rcases Nat.lt_or_ge k i with c2 | c2
        · left
          have := hS_le news L (k := k + 1) (n := i) (by omega)
          omega
        · right
          show R.length ≤ r
          rw [hHp]
          have := hS_le news L (k := i + 1) (n := k) (by omega)
          omega
  · cases hd : o.dst <;> simp [Act.put, h5]
end
end Go.Awp
