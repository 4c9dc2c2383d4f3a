/- Regions that draw their order: one run in the text's order serves every order, where each operation needs only what it waits for.
Conditions: none. -/
import Derived.Test.YtafbecgidhoekaaEnd
namespace Go.Awp
set_option linter.all false
open Go

def befB (m : List Nat) (i j : Nat) : Bool := (m.getD i 0).testBit j
def dstOf (all : List Oper) (i : Nat) : Option Tmp := (all[i]?).bind (·.dst)
def tmpsOf (o : Oper) : List Tmp := o.op.operands.toList.filterMap fun x => match x with | .tmp t => some t | _ => none
def looksOf (all : List Oper) (o : Oper) : List Tmp :=
  tmpsOf o ++ o.dst.toList ++ (match o.guard with | some (j, _) => (dstOf all j).toList | none => [])
def edgesOf (o : Oper) : List Nat := o.after.toList.filterMap fun e => if Region.binds .any e then some e.on else none

/-- What each operation waits for, and that operations which share a slot wait for each other. -/
def okDraw (m : List Nat) (all : List Oper) : Bool :=
  (List.range all.length).all fun i =>
    match all[i]? with
    | none => true
    | some o =>
      (edgesOf o).all (fun e => decide (e < i)) &&
      ((List.range all.length).all fun k => befB m i k == (edgesOf o).any fun e => e == k || befB m e k) &&
      ((List.range all.length).all fun j => i == j || (match dstOf all j with
        | none => true
        | some t => !(looksOf all o).contains t || (decide (j < i) && befB m i j) || (decide (i < j) && befB m j i)))

def maskN (m : List Nat) (i : Nat) (N : List (Nat × Root)) : Heap := N.map fun x => if befB m i x.1 then x.2 else .gone

def drawL (P : Program) (m : List Nat) (all : List Oper) (H0 : Heap) : Nat → List Oper → List AV → List (Nat × Root) → (List AV → Heap → Prop) → Prop
  | _, [], s, N, K => K s (H0 ++ N.map (·.2))
  | i, o :: rest, s, N, K =>
    match o.guard with
    | none => ∃ av news, opG P o.op (evalA s) (H0 ++ maskN m i N) (fun av' H' => av' = av ∧ H' = H0 ++ maskN m i N ++ news) ∧ drawL P m all H0 (i + 1) rest (setDst s o.dst av) (N ++ news.map fun x => (i, x)) K
    | some (j, want) =>
      match dstOf all j with
      | none => False
      | some g =>
        match s[g]? with
        | some (.bool t) =>
          (t = want → ∃ av news, opG P o.op (evalA s) (H0 ++ maskN m i N) (fun av' H' => av' = av ∧ H' = H0 ++ maskN m i N ++ news) ∧ drawL P m all H0 (i + 1) rest (setDst s o.dst av) (N ++ news.map fun x => (i, x)) K) ∧
          (t = !want → drawL P m all H0 (i + 1) rest (setDst s o.dst (.tup [])) N K)
        | some (.tup []) => drawL P m all H0 (i + 1) rest (setDst s o.dst (.tup [])) N K
        | _ => False

/-- A guard that says no. -/
def OffB (x : Option AV) (want : Bool) : Prop := x = some (.bool (!want)) ∨ x = some (.tup [])

section plan
variable (all : List Oper) (av : Nat → AV) (news : Nat → List Root)

/-- The slots after the first k operations that are listed. -/
def sS (L : Nat → Bool) (s : List AV) : Nat → List AV
  | 0 => s
  | k + 1 => if L k then setDst (sS L s k) (dstOf all k) (av k) else sS L s k
def nS : Nat → List (Nat × Root)
  | 0 => []
  | k + 1 => nS k ++ (news k).map fun x => (k, x)
/-- The new roots after the first k operations: those that are listed. -/
def hS (L : Nat → Bool) : Nat → Heap
  | 0 => []
  | k + 1 => hS L k ++ (news k).map fun x => if L k then x else .gone

theorem hS_length (L L' : Nat → Bool) : ∀ k, (hS news L k).length = (hS news L' k).length
  | 0 => rfl
  | k + 1 => by simp [hS, hS_length L L' k]
theorem maskN_eq (m : List Nat) (i : Nat) : ∀ k, maskN m i (nS news k) = hS news (befB m i) k
  | 0 => rfl
  | k + 1 => by
    have ih := maskN_eq m i k
    unfold maskN at ih ⊢
    simp only [nS, hS, List.map_append, ih, List.map_map]
    rfl
theorem nS_all : ∀ k, (nS news k).map (·.2) = hS news (fun _ => true) k
  | 0 => rfl
  | k + 1 => by
    simp only [nS, hS, List.map_append, nS_all k, List.map_map, if_true]
    rfl
theorem sS_length (L : Nat → Bool) (s : List AV) : ∀ k, (sS all av L s k).length = s.length
  | 0 => rfl
  | k + 1 => by
    unfold sS
    split
    · unfold setDst; split
      · simp [sS_length L s k]
      · exact sS_length L s k
    · exact sS_length L s k

theorem setDst_ne {s : List AV} {d : Option Tmp} {v : AV} {t : Nat} (h : d ≠ some t) : (setDst s d v)[t]? = s[t]? := by
  unfold setDst
  split
  · rw [List.getElem?_set_ne (fun e => h (by rw [e]))]
  · rfl
theorem setDst_congr {s s' : List AV} {d : Option Tmp} {v : AV} {t : Nat} (hl : s.length = s'.length) (h : s[t]? = s'[t]?) : (setDst s d v)[t]? = (setDst s' d v)[t]? := by
  unfold setDst
  split
  · simp only [List.getElem?_set, hl, h]
  · exact h

theorem hS_succ (L : Nat → Bool) (k : Nat) : hS news L (k + 1) = hS news L k ++ (news k).map fun x => if L k then x else .gone := rfl
theorem hS_le (L : Nat → Bool) {k : Nat} : ∀ {n : Nat}, k ≤ n → (hS news L k).length ≤ (hS news L n).length
  | 0, h => by
    have : k = 0 := by omega
    subst this; exact Nat.le_refl _
  | n + 1, h => by
    by_cases e : k = n + 1
    · subst e; exact Nat.le_refl _
    · have := hS_le L (k := k) (n := n) (by omega)
      simp [hS_succ]; omega

/-- A root stands where it stands, whatever comes behind. -/
theorem hS_mono (L : Nat → Bool) {k : Nat} {r : Nat} : ∀ (n : Nat), k ≤ n → r < (hS news L k).length → (hS news L n)[r]? = (hS news L k)[r]?
  | n, h, hr => by
    induction n with
    | zero => have : k = 0 := by omega
              subst this; rfl
    | succ n ih =>
      by_cases e : k = n + 1
      · subst e; rfl
      · have h' := ih (by omega)
        have hle : (hS news L k).length ≤ (hS news L n).length := hS_le news L (by omega)
        rw [hS_succ, List.getElem?_append_left (by omega), h']
theorem hS_sub {L L' : Nat → Bool} (hL : ∀ j, L j = true → L' j = true) : ∀ (k r : Nat) (new box : Bool) (e : TypeId) (cells : List AV), (hS news L k)[r]? = some (Root.blk new box e cells) → (hS news L' k)[r]? = some (Root.blk new box e cells)
  | 0, r, new, box, e, cells, h => by simp [hS] at h
  | k + 1, r, new, box, e, cells, h => by
    unfold hS at h ⊢
    have hl := hS_length news L L' k
    rw [List.getElem?_append] at h ⊢
    rw [hl] at h
    split at h
    · rw [if_pos ‹_›]; exact hS_sub hL k r new box e cells h
    · rw [if_neg ‹_›]
      rw [List.getElem?_map] at h ⊢
      cases hx : (news k)[r - (hS news L' k).length]? with
      | none => simp [hx] at h
      | some x =>
        simp only [hx, Option.map_some, Option.some.injEq] at h ⊢
        cases hk : L k with
        | true => rw [hk] at h; rw [hL k hk]; exact h
        | false => rw [hk] at h; cases h

/-- What stands at a place behind the first n: what its own operation made, if it is listed. -/
theorem hS_put {L : Nat → Bool} {i n : Nat} (hin : i < n) : ∀ (r : Nat), (hS news (fun j => if j = i then true else L j) n)[r]? =
    if (hS news L i).length ≤ r ∧ r < (hS news L (i + 1)).length then (news i)[r - (hS news L i).length]? else (hS news L n)[r]? := by
  have key : ∀ (n : Nat), (∀ (r : Nat), (hS news (fun j => if j = i then true else L j) n)[r]? = if i < n ∧ (hS news L i).length ≤ r ∧ r < (hS news L (i + 1)).length then (news i)[r - (hS news L i).length]? else (hS news L n)[r]?) := by
    intro n
    induction n with
    | zero => intro r; simp [hS]
    | succ n ih =>
      intro r
      have hl := hS_length news (fun j => if j = i then true else L j) L n
      have e1 : (hS news (fun j => if j = i then true else L j) (n + 1))[r]? = if r < (hS news L n).length then (hS news (fun j => if j = i then true else L j) n)[r]? else
          ((news n).map fun x => if (if n = i then true else L n) then x else Root.gone)[r - (hS news L n).length]? := by
        rw [hS_succ, List.getElem?_append, hl]
      have e2 : (hS news L (n + 1))[r]? = if r < (hS news L n).length then (hS news L n)[r]? else ((news n).map fun x => if L n then x else Root.gone)[r - (hS news L n).length]? := by
        rw [hS_succ, List.getElem?_append]
      rw [e1, e2]
      by_cases c : r < (hS news L n).length
      · simp only [if_pos c]
        rw [ih r]
        by_cases c2 : i < n
        · have c2' : i < n + 1 := by omega
          simp only [c2, c2', true_and]
        · have c3 : ¬ (i < n + 1 ∧ (hS news L i).length ≤ r ∧ r < (hS news L (i + 1)).length) := by
            rintro ⟨h1, h2, _⟩
            have : i = n := by omega
            subst this
            omega
          rw [if_neg c3, if_neg (fun h => c2 h.1)]
      · simp only [if_neg c]
        by_cases e : n = i
        · rw [← e]
          by_cases c3 : r < (hS news L (n + 1)).length
          · have c4 : n < n + 1 ∧ (hS news L n).length ≤ r ∧ r < (hS news L (n + 1)).length := ⟨by omega, by omega, c3⟩
            rw [if_pos c4]
            simp
          · have c4 : ¬ (n < n + 1 ∧ (hS news L n).length ≤ r ∧ r < (hS news L (n + 1)).length) := fun h => c3 h.2.2
            rw [if_neg c4]
            have h5 : (news n).length ≤ r - (hS news L n).length := by simp [hS_succ] at c3; omega
            rw [List.getElem?_eq_none (by simpa using h5), List.getElem?_eq_none (by simpa using h5)]
        · have c4 : ¬ (i < n + 1 ∧ (hS news L i).length ≤ r ∧ r < (hS news L (i + 1)).length) := by
            rintro ⟨h1, _, h3⟩
            have := hS_le news L (k := i + 1) (n := n) (by omega)
            omega
          rw [if_neg c4]
          simp [e]
  intro r
  rw [key n r]
  simp [hin]
end plan

/-- The plan that a run in the text's order leaves. -/
theorem drawL_plan {P : Program} {m : List Nat} {all : List Oper} {H0 : Heap} {s0 : List AV} {K : List AV → Heap → Prop} : ∀ (rest : List Oper) (i : Nat) (av0 : Nat → AV) (news0 : Nat → List Root), all.drop i = rest → i + rest.length = all.length →
    drawL P m all H0 i rest (sS all av0 (fun _ => true) s0 i) (nS news0 i) K →
    ∃ (av : Nat → AV) (news : Nat → List Root), (∀ k, k < i → av k = av0 k ∧ news k = news0 k) ∧
      (∀ (k : Nat) (o : Oper), i ≤ k → all[k]? = some o →
        ((o.guard = none ∨ ∃ j want g, o.guard = some (j, want) ∧ dstOf all j = some g ∧ (sS all av (fun _ => true) s0 k)[g]? = some (.bool want)) ∧
          opG P o.op (evalA (sS all av (fun _ => true) s0 k)) (H0 ++ hS news (befB m k) k) (fun av' H' => av' = av k ∧ H' = H0 ++ hS news (befB m k) k ++ news k)) ∨
        (news k = [] ∧ av k = .tup [] ∧ ∃ j want g, o.guard = some (j, want) ∧ dstOf all j = some g ∧ OffB (sS all av (fun _ => true) s0 k)[g]? want)) ∧
      K (sS all av (fun _ => true) s0 all.length) (H0 ++ hS news (fun _ => true) all.length)
  | [], i, av0, news0, hd, hl, h => by
    have : i = all.length := by simpa using hl
    subst this
    refine ⟨av0, news0, fun _ _ => ⟨rfl, rfl⟩, fun k o hk ho => ?_, ?_⟩
    · have := (List.getElem?_eq_some_iff.1 ho).1; omega
    · unfold drawL at h; rw [nS_all] at h; exact h
  | o :: rest, i, av0, news0, hd, hl, h => by
    have hlt : i < all.length := by simp at hl; omega
    have ho : all[i]? = some o := by
      have : (all.drop i)[0]? = some o := by rw [hd]; rfl
      simpa using this
    have hd' : all.drop (i + 1) = rest := by
      have : (all.drop i).drop 1 = rest := by rw [hd]; rfl
      rwa [List.drop_drop] at this
    have hdst : dstOf all i = o.dst := by simp [dstOf, ho]
    -- a plan for what comes behind, with this operation's own outcome laid in
    have go : ∀ (v : AV) (nw : List Root), drawL P m all H0 (i + 1) rest (setDst (sS all av0 (fun _ => true) s0 i) o.dst v) (nS news0 i ++ nw.map fun x => (i, x)) K →
        (∀ (av : Nat → AV) (news : Nat → List Root), (∀ k, k < i → av k = av0 k ∧ news k = news0 k) → av i = v → news i = nw →
          (((o.guard = none ∨ ∃ j want g, o.guard = some (j, want) ∧ dstOf all j = some g ∧ (sS all av (fun _ => true) s0 i)[g]? = some (.bool want)) ∧
            opG P o.op (evalA (sS all av (fun _ => true) s0 i)) (H0 ++ hS news (befB m i) i) (fun av' H' => av' = av i ∧ H' = H0 ++ hS news (befB m i) i ++ news i)) ∨
          (news i = [] ∧ av i = .tup [] ∧ ∃ j want g, o.guard = some (j, want) ∧ dstOf all j = some g ∧ OffB (sS all av (fun _ => true) s0 i)[g]? want))) →
        ∃ (av : Nat → AV) (news : Nat → List Root), (∀ k, k < i → av k = av0 k ∧ news k = news0 k) ∧
          (∀ (k : Nat) (o : Oper), i ≤ k → all[k]? = some o →
            ((o.guard = none ∨ ∃ j want g, o.guard = some (j, want) ∧ dstOf all j = some g ∧ (sS all av (fun _ => true) s0 k)[g]? = some (.bool want)) ∧
              opG P o.op (evalA (sS all av (fun _ => true) s0 k)) (H0 ++ hS news (befB m k) k) (fun av' H' => av' = av k ∧ H' = H0 ++ hS news (befB m k) k ++ news k)) ∨
            (news k = [] ∧ av k = .tup [] ∧ ∃ j want g, o.guard = some (j, want) ∧ dstOf all j = some g ∧ OffB (sS all av (fun _ => true) s0 k)[g]? want)) ∧
          K (sS all av (fun _ => true) s0 all.length) (H0 ++ hS news (fun _ => true) all.length) := by
      intro v nw hrest hfact
      let av1 : Nat → AV := fun k => if k = i then v else av0 k
      let news1 : Nat → List Root := fun k => if k = i then nw else news0 k
      have es : sS all av1 (fun _ => true) s0 (i + 1) = setDst (sS all av0 (fun _ => true) s0 i) o.dst v := by
        have h1 := sS_agree all av1 av0 s0 i (fun k hk => by simp only [av1]; rw [if_neg (by omega)])
        simp only [sS, if_true, h1, hdst]
        simp [av1]
      have en : nS news1 (i + 1) = nS news0 i ++ nw.map fun x => (i, x) := by
        have h1 := nS_agree news1 news0 i (fun k hk => by simp only [news1]; rw [if_neg (by omega)])
        simp only [nS, h1]
        simp [news1]
      rw [← es, ← en] at hrest
      obtain ⟨av, news, h1, h2, h3⟩ := drawL_plan rest (i + 1) av1 news1 hd' (by simp at hl; omega) hrest
      have hb : ∀ k, k < i → av k = av0 k ∧ news k = news0 k := fun k hk => by
        obtain ⟨g1, g2⟩ := h1 k (by omega)
        rw [g1, g2]
        simp only [av1, news1]
        rw [if_neg (by omega), if_neg (by omega)]
        exact ⟨rfl, rfl⟩
      have hi := h1 i (by omega)
      have hi1 : av i = v := by rw [hi.1]; simp [av1]
      have hi2 : news i = nw := by rw [hi.2]; simp [news1]
      refine ⟨av, news, hb, fun k o' hk ho' => ?_, h3⟩
      by_cases e : k = i
      · subst e
        rw [ho] at ho'; cases ho'
        exact hfact av news hb hi1 hi2
      · exact h2 k o' (by omega) ho'
    have slots : ∀ (av : Nat → AV) (news : Nat → List Root), (∀ k, k < i → av k = av0 k ∧ news k = news0 k) → sS all av (fun _ => true) s0 i = sS all av0 (fun _ => true) s0 i ∧ hS news (befB m i) i = maskN m i (nS news0 i) := by
      intro av news hb
      refine ⟨sS_agree all av av0 s0 i (fun k hk => (hb k hk).1), ?_⟩
      rw [maskN_eq]
      exact hS_agree news news0 _ i (fun k hk => (hb k hk).2)
    unfold drawL at h
    split at h
    · rename_i hg
      obtain ⟨v, nw, hop, hrest⟩ := h
      refine go v nw hrest fun av news hb e1 e2 => .inl ⟨.inl hg, ?_⟩
      obtain ⟨k1, k2⟩ := slots av news hb
      rw [k1, k2, e1, e2]; exact hop
    · rename_i j want hg
      split at h
      · exact h.elim
      · rename_i g hgd
        split at h
        · rename_i t hsg
          by_cases e : t = want
          · obtain ⟨v, nw, hop, hrest⟩ := h.1 e
            refine go v nw hrest fun av news hb e1 e2 => .inl ⟨.inr ⟨j, want, g, hg, hgd, ?_⟩, ?_⟩
            · rw [(slots av news hb).1, hsg, e]
            · obtain ⟨k1, k2⟩ := slots av news hb
              rw [k1, k2, e1, e2]; exact hop
          · have e' : t = !want := by cases t <;> cases want <;> simp_all
            have hrest := h.2 e'
            refine go (.tup []) [] (by simpa using hrest) fun av news hb e1 e2 => .inr ⟨e2, e1, j, want, g, hg, hgd, .inl ?_⟩
            rw [(slots av news hb).1, hsg, e']
        · rename_i hsg
          refine go (.tup []) [] (by simpa using h) fun av news hb e1 e2 => .inr ⟨e2, e1, j, want, g, hg, hgd, .inr ?_⟩
          rw [(slots av news hb).1, hsg]
        · exact h.elim
where
  sS_agree (all : List Oper) (av av0 : Nat → AV) (s0 : List AV) : ∀ (k : Nat), (∀ j, j < k → av j = av0 j) → sS all av (fun _ => true) s0 k = sS all av0 (fun _ => true) s0 k
    | 0, _ => rfl
    | k + 1, h => by simp only [sS, if_true, sS_agree all av av0 s0 k (fun j hj => h j (by omega)), h k (by omega)]
  nS_agree (news news0 : Nat → List Root) : ∀ (k : Nat), (∀ j, j < k → news j = news0 j) → nS news k = nS news0 k
    | 0, _ => rfl
    | k + 1, h => by simp only [nS, nS_agree news news0 k (fun j hj => h j (by omega)), h k (by omega)]
  hS_agree (news news0 : Nat → List Root) (L : Nat → Bool) : ∀ (k : Nat), (∀ j, j < k → news j = news0 j) → hS news L k = hS news0 L k
    | 0, _ => rfl
    | k + 1, h => by simp only [hS, hS_agree news news0 L k (fun j hj => h j (by omega)), h k (by omega)]
end Go.Awp
