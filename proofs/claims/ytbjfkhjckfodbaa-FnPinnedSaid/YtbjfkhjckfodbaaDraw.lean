/- Regions that draw their order: one run in the text's order serves every order, where each operation needs only what it waits for.
Conditions: none. -/
import Derived.Test.YtbjfkhjckfodbaaDet
namespace Go.Awp
set_option linter.all false
open Go

def befB (m : List Nat) (i j : Nat) : Bool := (m.getD i 0).testBit j
def dstOf (all : List Oper) (i : Nat) : Option Tmp := (all[i]?).bind (·.dst)
def tmpsOf (o : Oper) : List Tmp := o.op.operands.toList.filterMap fun x => match x with | .tmp t => some t | _ => none
def looksOf (all : List Oper) (o : Oper) : List Tmp :=
  tmpsOf o ++ o.dst.toList ++ (match o.guard with | some (j, _) => (dstOf all j).toList | none => [])
def edgesOf (o : Oper) : List Nat := o.after.toList.filterMap fun e => if Region.binds .any e then some e.on else none

/-- What each operation waits for, and that operations which share a slot wait for each other. -/
def okDraw (m : List Nat) (all : List Oper) : Bool :=
  (List.range all.length).all fun i =>
    match all[i]? with
    | none => true
    | some o =>
      (edgesOf o).all (fun e => decide (e < i)) &&
      ((List.range all.length).all fun k => befB m i k == (edgesOf o).any fun e => e == k || befB m e k) &&
      ((List.range all.length).all fun j => i == j || (match dstOf all j with
        | none => true
        | some t => !(looksOf all o).contains t || (decide (j < i) && befB m i j) || (decide (i < j) && befB m j i)))

def maskN (m : List Nat) (i : Nat) (N : List (Nat × Root)) : Heap := N.map fun x => if befB m i x.1 then x.2 else .gone

/-- A live root is laid anew. -/
def setL : Heap → Nat → Root → Heap
  | [], _, _ => []
  | .gone :: H, 0, _ => .gone :: H
  | .blk _ _ _ _ :: H, 0, x => x :: H
  | y :: H, n + 1, x => y :: setL H n x
def lay (y : Option Root) (x : Root) : Option Root := match y with
  | some (.blk _ _ _ _) => some x
  | y => y
theorem setL_get : ∀ (H : Heap) (r : Nat) (x : Root) (j : Nat), (setL H r x)[j]? = if j = r then lay H[j]? x else H[j]?
  | [], r, x, j => by simp [setL, lay]
  | .gone :: H, 0, x, j => by cases j <;> simp [setL, lay]
  | .blk _ _ _ _ :: H, 0, x, j => by cases j <;> simp [setL, lay]
  | y :: H, n + 1, x, j => by
    cases j with
    | zero => cases y <;> simp [setL]
    | succ j =>
      have := setL_get H n x j
      cases y <;> simp [setL, this]
theorem setL_length : ∀ (H : Heap) (r : Nat) (x : Root), (setL H r x).length = H.length
  | [], r, x => rfl
  | .gone :: H, 0, x => rfl
  | .blk _ _ _ _ :: H, 0, x => rfl
  | .gone :: H, n + 1, x => by simp [setL, setL_length H n x]
  | .blk _ _ _ _ :: H, n + 1, x => by simp [setL, setL_length H n x]
theorem setL_eq {H : Heap} {r : Nat} {x : Root} {new box : Bool} {e : TypeId} {c : List AV} (h : H[r]? = some (.blk new box e c)) : setL H r x = H.set r x := by
  apply List.ext_getElem?
  intro j
  rw [setL_get, List.getElem?_set]
  by_cases c1 : j = r
  · subst c1
    rw [if_pos rfl, if_pos rfl, h, if_pos (List.getElem?_eq_some_iff.1 h).1]; rfl
  · rw [if_neg c1, if_neg (fun e => c1 e.symm)]

def setA : List (Nat × Root) → Heap → Heap
  | [], H => H
  | (r, x) :: l, H => setL (setA l H) r x
/-- What operations lay anew, the last one first: those that are listed. -/
def appS (L : Nat → Bool) : List (Nat × Nat × Root) → Heap → Heap
  | [], H => H
  | (k, r, x) :: S, H => if L k then setL (appS L S H) r x else appS L S H
/-- What operation i may see: what is laid anew by others that it doesn't wait for is hidden. -/
def viewS (m : List Nat) (i : Nat) : List (Nat × Nat × Root) → Heap → Heap
  | [], H => H
  | (k, r, x) :: S, H => setL (viewS m i S H) r (if befB m i k then x else .gone)
def allS : List (Nat × Nat × Root) → Heap → Heap
  | [], H => H
  | (_, r, x) :: S, H => setL (allS S H) r x
def isB : Root → Bool
  | .blk _ _ _ _ => true
  | .gone => false
def liv (x : Option Root) : Bool := match x with
  | some (.blk _ _ _ _) => true
  | _ => false
theorem liv_blk {x : Option Root} (h : liv x = true) : ∃ n b e c, x = some (.blk n b e c) := by
  cases x with
  | none => cases h
  | some y => cases y with
    | gone => cases h
    | blk n b e c => exact ⟨n, b, e, c, rfl⟩
theorem isB_blk {x : Root} (h : isB x = true) : ∃ n b e c, x = .blk n b e c := by
  cases x with
  | gone => cases h
  | blk n b e c => exact ⟨n, b, e, c, rfl⟩

section stores
variable {m : List Nat} {i r : Nat} {L L' : Nat → Bool}
theorem appS_all : ∀ (S : List (Nat × Nat × Root)) (H : Heap), appS (fun _ => true) S H = allS S H
  | [], _ => rfl
  | (k, r, x) :: S, H => by simp only [appS, allS, if_true, appS_all S H]
theorem setA_length : ∀ (l : List (Nat × Root)) (H : Heap), (setA l H).length = H.length
  | [], _ => rfl
  | (r, x) :: l, H => by simp only [setA, setL_length, setA_length l H]
theorem appS_length (L : Nat → Bool) : ∀ (S : List (Nat × Nat × Root)) (H : Heap), (appS L S H).length = H.length
  | [], _ => rfl
  | (k, r, x) :: S, H => by
    simp only [appS]
    split
    · rw [setL_length, appS_length L S H]
    · exact appS_length L S H
theorem viewS_length (m : List Nat) (i : Nat) : ∀ (S : List (Nat × Nat × Root)) (H : Heap), (viewS m i S H).length = H.length
  | [], _ => rfl
  | (k, r, x) :: S, H => by simp only [viewS, setL_length, viewS_length m i S H]
theorem appS_congr : ∀ (S : List (Nat × Nat × Root)) {A A' : Heap}, A[r]? = A'[r]? → (∀ e ∈ S, e.2.1 = r → L e.1 = L' e.1) → (appS L S A)[r]? = (appS L' S A')[r]?
  | [], A, A', h, _ => h
  | (k, r', x) :: S, A, A', h, hS => by
    have ih := appS_congr S h (fun e he => hS e (List.mem_cons_of_mem _ he))
    have key : ∀ (b : Bool) (B : Heap), (if b = true then setL B r' x else B)[r]? = if b = true ∧ r = r' then lay B[r]? x else B[r]? := by
      intro b B
      cases b with
      | false => simp
      | true => simp only [if_true, true_and]; exact setL_get B r' x r
    simp only [appS]
    rw [key, key, ih]
    by_cases c : r = r'
    · have := hS _ (List.mem_cons_self ..) c.symm
      simp only at this
      rw [this]
    · simp [c]
theorem appS_none : ∀ (S : List (Nat × Nat × Root)) {A : Heap}, (∀ e ∈ S, e.2.1 = r → L e.1 = false) → (appS L S A)[r]? = A[r]?
  | [], A, _ => rfl
  | (k, r', x) :: S, A, hS => by
    have ih := appS_none S (A := A) (fun e he => hS e (List.mem_cons_of_mem _ he))
    simp only [appS]
    split
    · rename_i h
      rw [setL_get, ih]
      by_cases c : r = r'
      · have := hS _ (List.mem_cons_self ..) c.symm
        simp only at this
        rw [this] at h; cases h
      · rw [if_neg c]
    · exact ih
theorem lay_live {y : Option Root} {x : Root} {n b : Bool} {e : TypeId} {c : List AV} (h : lay y x = some (.blk n b e c)) : liv y = true := by
  cases y with
  | none => cases h
  | some y => cases y with
    | gone => cases h
    | blk _ _ _ _ => rfl
theorem lay_of_live {y : Option Root} {x : Root} (h : liv y = true) : lay y x = some x := by
  obtain ⟨n, b, e, c, rfl⟩ := liv_blk h; rfl
theorem appS_live : ∀ (S : List (Nat × Nat × Root)) {A : Heap} {n b : Bool} {e : TypeId} {c : List AV}, (appS L S A)[r]? = some (.blk n b e c) → liv A[r]? = true
  | [], A, n, b, e, c, h => by
    have h : A[r]? = some (.blk n b e c) := h
    rw [h]; rfl
  | (k, r', x) :: S, A, n, b, e, c, h => by
    simp only [appS] at h
    split at h
    · rw [setL_get] at h
      split at h
      · obtain ⟨n', b', e', c', h'⟩ := liv_blk (lay_live h)
        exact appS_live S h'
      · exact appS_live S h
    · exact appS_live S h
theorem viewS_live : ∀ (S : List (Nat × Nat × Root)) {A : Heap} {n b : Bool} {e : TypeId} {c : List AV}, (viewS m i S A)[r]? = some (.blk n b e c) →
    liv A[r]? = true ∧ (∀ e ∈ S, e.2.1 = r → befB m i e.1 = true) ∧ (appS (befB m i) S A)[r]? = some (.blk n b e c)
  | [], A, n, b, e, c, h => by
    have h : A[r]? = some (.blk n b e c) := h
    exact ⟨by rw [h]; rfl, fun e he => (by cases he), h⟩
  | (k, r', x) :: S, A, n, b, e, c, h => by
    simp only [viewS] at h
    rw [setL_get] at h
    split at h
    · rename_i er
      obtain ⟨n', b', e', c', h'⟩ := liv_blk (lay_live h)
      obtain ⟨g1, g2, g3⟩ := viewS_live S h'
      rw [lay_of_live (by rw [h']; rfl)] at h
      have hb : befB m i k = true := by
        cases hb : befB m i k with
        | true => rfl
        | false => rw [hb] at h; simp at h
      rw [hb, if_pos rfl] at h
      refine ⟨g1, fun e he hr => ?_, ?_⟩
      · rcases List.mem_cons.1 he with rfl | he
        · exact hb
        · exact g2 e he hr
      · simp only [appS]
        rw [if_pos hb, setL_get, if_pos er, lay_of_live (by rw [g3]; rfl)]
        exact h
    · rename_i er
      obtain ⟨g1, g2, g3⟩ := viewS_live S h
      refine ⟨g1, fun e he hr => ?_, ?_⟩
      · rcases List.mem_cons.1 he with rfl | he
        · exact absurd hr.symm er
        · exact g2 e he hr
      · simp only [appS]
        split
        · rw [setL_get, if_neg er]; exact g3
        · exact g3
theorem appS_append (L : Nat → Bool) : ∀ (S S' : List (Nat × Nat × Root)) (A : Heap), appS L (S ++ S') A = appS L S (appS L S' A)
  | [], _, _ => rfl
  | (k, r, x) :: S, S', A => by simp only [List.cons_append, appS, appS_append L S S' A]
theorem appS_on {k : Nat} (h : L k = true) : ∀ (l : List (Nat × Root)) (A : Heap), appS L (l.map fun p => (k, p.1, p.2)) A = setA l A
  | [], _ => rfl
  | (r, x) :: l, A => by simp only [List.map_cons, appS, setA, h, if_true, appS_on h l A]
theorem setA_ne {l : List (Nat × Root)} {A : Heap} (h : ∀ p ∈ l, p.1 ≠ r) : (setA l A)[r]? = A[r]? := by
  induction l with
  | nil => rfl
  | cons p l ih =>
    obtain ⟨r', x⟩ := p
    simp only [setA]
    rw [setL_get, if_neg (fun e => h (r', x) (List.mem_cons_self ..) e.symm)]
    exact ih fun p hp => h p (List.mem_cons_of_mem _ hp)
theorem setA_at {l : List (Nat × Root)} {A B : Heap} (hA : liv A[r]? = true) (hB : liv B[r]? = true) (h : ∃ p ∈ l, p.1 = r) : (setA l A)[r]? = (setA l B)[r]? := by
  induction l with
  | nil => obtain ⟨p, hp, _⟩ := h; cases hp
  | cons p l ih =>
    obtain ⟨r', x⟩ := p
    simp only [setA]
    rw [setL_get, setL_get]
    by_cases c2 : ∃ p ∈ l, p.1 = r
    · rw [ih c2]
    · have hn : ∀ p ∈ l, p.1 ≠ r := fun p hp e => c2 ⟨p, hp, e⟩
      by_cases c : r = r'
      · rw [if_pos c, if_pos c, setA_ne hn, setA_ne hn, lay_of_live hA, lay_of_live hB]
      · exfalso
        obtain ⟨p, hp, e⟩ := h
        rcases List.mem_cons.1 hp with rfl | hp
        · exact c e.symm
        · exact hn p hp e
end stores

-- which roots an operation looks at
def tcA : AV → Option (Option Nat)
  | .ptr r _ => some (some r)
  | _ => none
def tcB : AV → Option (Option Nat)
  | .slc r _ _ _ => some (some r)
  | _ => none
def tcO : Op → (Operand → AV) → Option (Option Nat)
  | .load _ a, ρ => tcA (ρ a)
  | .convert _ _ a, ρ => tcB (ρ a)
  | .store _ a _, ρ => (match ρ a with | .ptr r _ => some (some r) | _ => some none)
  | .buildSlice _ _ ps, ρ => if (partsA ρ ps).all (fun p => p.2.flat) = true then none else some none
  | .call c, _ => if detOp (.call c) then none else some none
  | .makeMap .., _ => some none
  | .lookup .., _ => some none
  | .mapUpdate .., _ => some none
  | .mapEntry .., _ => some none
  | .entryStore .., _ => some none
  | _, _ => none
def Tch (t : Option (Option Nat)) (r : Nat) : Prop := match t with
  | none => False
  | some none => True
  | some (some r') => r = r'
def addT (i : Nat) (t : Option (Option Nat)) (T : List (Nat × Option Nat)) : List (Nat × Option Nat) := match t with
  | none => T
  | some t => (i, t) :: T
/-- What a row literal looks at. -/
def bsT (i : Nat) (ps : List (Nat × AV)) (T : List (Nat × Option Nat)) : List (Nat × Option Nat) := if ps.all (fun p => p.2.flat) = true then T else (i, none) :: T
def tOk (m : List Nat) (i r : Nat) : List (Nat × Option Nat) → Prop
  | [] => True
  | (j, t) :: T => (befB m i j = true ∨ ¬ Tch (some t) r) ∧ tOk m i r T
def stoOf : Op → Option (TypeId × Operand × Operand)
  | .store t a x => some (t, a, x)
  | _ => none
def valOp : Op → Bool
  | .call c => (match c.callee with
    | .builtin _ => false
    | _ => true)
  | .makeMap .. => true
  | .lookup .. => true
  | .mapUpdate .. => true
  | .mapEntry .. => true
  | .entryStore .. => true
  | _ => false
def storeC (P : Program) (t : TypeId) (a x : AV) (H : Heap) (K : Nat → Root → Prop) : Prop :=
  match szOf P t, a, x.cellsOf with
  | some sz, .ptr r off, some cs =>
    match H[r]? with
    | some (.blk new box e cells) => cs.length = sz ∧ off + cs.length ≤ cells.length ∧ (box || cs.all AV.isPure) = true ∧ K r (.blk new box e (splice cells off cs))
    | _ => False
  | _, _, _ => False
def apOf : Op → Option (TypeId × TypeId × Operand × Operand)
  | .call c => (match c.callee, c.args.toList, c.argTypes.toList with
    | .builtin .append, [s, x], [t, t'] => some (t, t', s, x)
    | _, _, _ => none)
  | _ => none
def bsOf : Op → Option (TypeId × Nat × Array (Nat × Operand))
  | .buildSlice t n ps => some (t, n, ps)
  | _ => none
/-- What a literal of rows gives up. -/
def gone1 (H : Heap) (a : AV) : List (Nat × Root) := match a with
  | .slc r 0 n q =>
    match H[r]? with
    | some (.blk true false _ cells) => if n * q ≤ cells.length then [(r, .gone)] else []
    | _ => []
  | _ => []
def goneL : List (Nat × AV) → Heap → List (Nat × Root)
  | [], _ => []
  | (_, a) :: l, H => goneL l (freeze1 H a).2 ++ gone1 H a
theorem setA_append : ∀ (l l' : List (Nat × Root)) (H : Heap), setA (l ++ l') H = setA l (setA l' H)
  | [], _, _ => rfl
  | (r, x) :: l, l', H => by simp only [List.cons_append, setA, setA_append l l' H]
theorem gone1_ok (H : Heap) (a : AV) : (freeze1 H a).2 = setA (gone1 H a) H ∧ ∀ p ∈ gone1 H a, liv H[p.1]? = true := by
  have off : ∀ a, (freeze1 H a).2 = H → gone1 H a = [] → (freeze1 H a).2 = setA (gone1 H a) H ∧ ∀ p ∈ gone1 H a, liv H[p.1]? = true := fun a h1 h2 => by
    rw [h2]; exact ⟨h1, fun p hp => by cases hp⟩
  cases a with
  | slc r o n q =>
    cases o with
    | succ o => exact off _ rfl rfl
    | zero =>
      cases hr : H[r]? with
      | none => exact off _ (by simp only [freeze1, hr]) (by simp only [gone1, hr])
      | some x =>
        cases x with
        | gone => exact off _ (by simp only [freeze1, hr]) (by simp only [gone1, hr])
        | blk nw bx e c =>
          by_cases g : nw = true ∧ bx = false
          · obtain ⟨rfl, rfl⟩ := g
            by_cases k : n * q ≤ c.length
            · have e1 : gone1 H (.slc r 0 n q) = [(r, .gone)] := by simp only [gone1, hr, if_pos k]
              have e2 : (freeze1 H (.slc r 0 n q)).2 = H.set r .gone := by simp only [freeze1, hr, if_pos k]
              rw [e1, e2]
              refine ⟨by simp only [setA]; rw [setL_eq hr], fun p hp => ?_⟩
              simp only [List.mem_singleton] at hp
              subst hp
              simp only; rw [hr]; rfl
            · exact off _ (by simp only [freeze1, hr, if_neg k]) (by simp only [gone1, hr, if_neg k])
          · cases nw <;> cases bx <;> first | (exact absurd ⟨rfl, rfl⟩ g) | (exact off _ (by simp only [freeze1, hr]) (by simp only [gone1, hr]))
  | _ => exact off _ rfl rfl
theorem freeze_liv {H : Heap} {a : AV} {r : Nat} (h : liv (freeze1 H a).2[r]? = true) : liv H[r]? = true := by
  obtain ⟨n, b, e, c, hr⟩ := liv_blk h
  have key : ∀ r', (H.set r' .gone)[r]? = some (.blk n b e c) → liv H[r]? = true := fun r' hr => by
    rw [(gone_get hr).2]; rfl
  unfold freeze1 at hr
  split at hr
  · split at hr
    · split at hr
      · exact key _ hr
      · simp only at hr; rw [hr]; rfl
    · simp only at hr; rw [hr]; rfl
  · simp only at hr; rw [hr]; rfl
theorem goneL_ok : ∀ (ps : List (Nat × AV)) (H : Heap), (frzL ps H).2 = setA (goneL ps H) H ∧ ∀ p ∈ goneL ps H, liv H[p.1]? = true
  | [], H => ⟨rfl, fun p hp => by cases hp⟩
  | (i, a) :: l, H => by
    obtain ⟨h1, h2⟩ := goneL_ok l (freeze1 H a).2
    obtain ⟨h3, h4⟩ := gone1_ok H a
    refine ⟨?_, fun p hp => ?_⟩
    · simp only [frzL, goneL, setA_append]
      rw [h1, ← h3]
    · rcases List.mem_append.1 hp with hp | hp
      · exact freeze_liv (h2 p hp)
      · exact h4 p hp
/-- A literal of rows in a drawn region. -/
def bsC (P : Program) (t : TypeId) (len : Nat) (ps : List (Nat × AV)) (V : Heap) (K : AV → List (Nat × Root) → List Root → Prop) : Prop :=
  match P.underlying t with
  | some (.slice e) =>
    match szOf P e, zeroOf P e with
    | some sz, some zs =>
      len * sz ≤ 16777216 ∧ len ≤ 16777216 ∧ zs.length = sz ∧ ∃ out, fillL (fun i => some (i * sz, sz)) (makeL len zs) (frzL ps V).1 = some out ∧ out.all AV.isPure = true ∧
        (if len = 0 then K .nils (goneL ps V) [] else K (.slc V.length 0 len sz) (goneL ps V) [.blk true false e out])
    | _, _ => False
  | _ => False
theorem bsC_ok {P : Program} {t : TypeId} {len : Nat} {ps : List (Nat × AV)} {V : Heap} {K : AV → List (Nat × Root) → List Root → Prop} (h : bsC P t len ps V K) :
    ∃ av st news, buildSliceG P t len ps V (fun a h => a = av ∧ h = setA st V ++ news) ∧ (∀ p ∈ st, liv V[p.1]? = true) ∧ K av st news := by
  obtain ⟨k1, k2⟩ := goneL_ok ps V
  unfold bsC at h
  split at h
  · rename_i e hu
    split at h
    · rename_i sz zs h1 h2
      obtain ⟨g1, g2, g3, out, g4, g5, g6⟩ := h
      by_cases c : len = 0
      · rw [if_pos c] at g6
        refine ⟨_, _, _, ?_, k2, g6⟩
        unfold buildSliceG
        simp only [hu, h1, h2]
        exact ⟨g1, g2, g3, out, g4, g5, by rw [if_pos c]; first | exact ⟨rfl, by rw [k1, List.append_nil]⟩ | exact ⟨trivial, by rw [k1, List.append_nil]⟩⟩
      · rw [if_neg c] at g6
        refine ⟨_, _, _, ?_, k2, g6⟩
        unfold buildSliceG
        simp only [hu, h1, h2]
        exact ⟨g1, g2, g3, out, g4, g5, by rw [if_neg c, k1, setA_length]; first | exact ⟨rfl, rfl⟩ | exact ⟨trivial, rfl⟩ | exact ⟨trivial, trivial⟩⟩
    · exact h.elim
  · exact h.elim
/-- append: what it lays anew, what it makes. -/
def appC (P : Program) (t : TypeId) (s x : AV) (H : Heap) (K : AV → List (Nat × Root) → List Root → Prop) : Prop :=
  match P.underlying t with
  | some (.slice e) =>
    match szOf P e, bytesOf P e, zeroOf P e with
    | some sz, some by_, some zs =>
      match s with
      | .slc r 0 n q =>
        match H[r]? with
        | some (.blk new false e' cells) => newsG H sz x fun news m =>
            q = sz ∧ e' = e ∧ 0 < sz ∧ zs.length = sz ∧ n * sz ≤ cells.length ∧ n + m ≤ 9223372036854775807 ∧ (n + m) * by_ ≤ 140737488355328 ∧ news.all AV.isPure = true ∧
              K (.slc H.length 0 (n + m) sz) [(r, .gone)] [.blk new false e (cells.take (n * sz) ++ news)]
        | _ => False
      | .nils => newsG H sz x fun news m => 0 < sz ∧ zs.length = sz ∧ m ≤ 9223372036854775807 ∧ m * by_ ≤ 140737488355328 ∧ news.all AV.isPure = true ∧
          K (.slc H.length 0 m sz) [] [.blk true false e news]
      | _ => False
    | _, _, _ => False
  | _ => False
theorem det_news {H : Heap} {sz : Nat} {x : AV} {K : List AV → Nat → Prop} (h : newsG H sz x K) : ∃ news m, newsG H sz x (fun a b => a = news ∧ b = m) ∧ K news m := by
  unfold newsG at *
  split at h
  · split at h
    · exact ⟨_, _, ⟨h.1, h.2.1, rfl, rfl⟩, h.2.2⟩
    · exact h.elim
  · exact ⟨_, _, ⟨h.1, rfl, rfl⟩, h.2⟩
  · exact ⟨_, _, ⟨rfl, rfl⟩, h⟩
  · exact h.elim
theorem news_mono {H : Heap} {sz : Nat} {x : AV} {K K' : List AV → Nat → Prop} (h : newsG H sz x K) (hk : ∀ a b, K a b → K' a b) : newsG H sz x K' := by
  unfold newsG at *
  split at h
  · split at h
    · exact ⟨h.1, h.2.1, hk _ _ h.2.2⟩
    · exact h.elim
  · exact ⟨h.1, hk _ _ h.2⟩
  · exact hk _ _ h
  · exact h.elim
theorem appC_ok {P : Program} {t : TypeId} {s x : AV} {V : Heap} {K : AV → List (Nat × Root) → List Root → Prop} (h : appC P t s x V K) :
    ∃ av st news, appendG P t s x V (fun a h => a = av ∧ h = setA st V ++ news) ∧ (∀ p ∈ st, p.2 = .gone ∧ liv V[p.1]? = true ∧ ∃ n q, s = .slc p.1 0 n q) ∧ K av st news := by
  unfold appC at h
  split at h
  · rename_i e hu
    split at h
    · rename_i sz by_ zs h1 h2 h3
      split at h
      · rename_i r n q
        split at h
        · rename_i new e' cells hr
          obtain ⟨nw, m, g1, g2, g3, g4, g5, g6, g7, g8, g9, g10⟩ := det_news h
          refine ⟨_, _, _, ?_, fun p hp => ?_, g10⟩
          · unfold appendG
            simp only [hu, h1, h2, h3, hr]
            refine news_mono g1 ?_
            rintro a b ⟨rfl, rfl⟩
            refine ⟨g2, g3, g4, g5, g6, g7, g8, g9, rfl, ?_⟩
            simp only [setA]
            rw [setL_eq hr]
          · simp only [List.mem_singleton] at hp
            subst hp
            exact ⟨rfl, by simp only; rw [hr]; rfl, n, q, rfl⟩
        · exact h.elim
      · obtain ⟨nw, m, g1, g2, g3, g4, g5, g6, g7⟩ := det_news h
        refine ⟨_, _, _, ?_, fun p hp => (by cases hp), g7⟩
        unfold appendG
        simp only [hu, h1, h2, h3]
        refine news_mono g1 ?_
        rintro a b ⟨rfl, rfl⟩
        exact ⟨g2, g3, g4, g5, g6, rfl, rfl⟩
      · exact h.elim
    · exact h.elim
  · exact h.elim
/-- One operation of a drawn region: what it comes to, what it lays anew, what it makes, what it looks at. -/
def stepC (P : Program) (m : List Nat) (i : Nat) (op : Op) (ρ : Operand → AV) (V : Heap) (T : List (Nat × Option Nat)) (C : AV → List (Nat × Root) → List Root → List (Nat × Option Nat) → Prop) : Prop :=
  match stoOf op with
  | some (t, a, x) => storeC P t (ρ a) (ρ x) V fun r y => tOk m i r T ∧ C .any [(r, y)] [] ((i, some r) :: T)
  | none => (detOp op = true → opG P op ρ V fun av H' => H'.take V.length = V ∧ C av [] (H'.drop V.length) (addT i (tcO op ρ) T)) ∧
      (detOp op = false → (valOp op = true → ∃ av st news, opG P op ρ V (fun a h => a = av ∧ h = setA st V ++ news) ∧ (∀ p ∈ st, tOk m i p.1 T ∧ liv V[p.1]? = true) ∧ C av st news ((i, none) :: T)) ∧
        (valOp op = false → match apOf op with
          | some (t, t', s, x) => t' = t ∧ appC P t (ρ s) (ρ x) V fun av st news => (∀ p ∈ st, tOk m i p.1 T) ∧ C av st news ((i, none) :: T)
          | none => match bsOf op with
            | some (t, n, ps) => bsC P t n (partsA ρ ps) V fun av st news => (∀ p ∈ st, tOk m i p.1 T) ∧ C av st news (bsT i (partsA ρ ps) T)
            | none => False))

section frame
variable {P : Program} {V W : Heap} {av : AV} {news : List Root}
theorem frame_pure {G : (AV → Prop) → Prop} (hd : DetP G) (h : G fun a => a = av ∧ V = V ++ news) : G fun a => a = av ∧ W = W ++ news := by
  obtain ⟨b, h1, h2, h3⟩ := hd _ h
  have hn : news = [] := by simpa using h3
  subst hn; subst h2
  have e : (fun a => a = b ∧ W = W ++ []) = (· = b) := by funext a; simp
  rw [e]; exact h1
theorem same_all (hl : W.length = V.length) (h : ∀ r, Tch (some none) r → W[r]? = V[r]?) : W = V := List.ext_getElem? fun r => h r trivial

theorem cvtX_frame {s d : TypeId} {a : AV} (ht : ∀ r, Tch (tcB a) r → W[r]? = V[r]?) : cvtX P s d a W = cvtX P s d a V := by
  funext K
  cases a <;> first | rfl | skip
  rename_i r o n q
  have := ht r rfl
  show cvtB P s d (.slc r o n q) W K = cvtB P s d (.slc r o n q) V K
  unfold cvtB
  simp only
  rw [this]
theorem frame_op {op : Op} {ρ : Operand → AV} (hd : detOp op = true) (hs : stoOf op = none) (hl : W.length = V.length) (ht : ∀ r, Tch (tcO op ρ) r → W[r]? = V[r]?)
    (h : opG P op ρ V fun a h => a = av ∧ h = V ++ news) : opG P op ρ W fun a h => a = av ∧ h = W ++ news := by
  unfold opG at *
  split at h <;> (try simp only at h ⊢)
  · exact frame_pure (G := fun K => K _) (fun K h => ⟨_, rfl, h⟩) h
  · exact frame_pure (G := fun K => K _) (fun K h => ⟨_, rfl, h⟩) h
  · exact frame_pure (det_pick _ _ _) h
  · unfold allocG at *
    split at h
    · obtain ⟨h1, h2⟩ := h
      have h2 := List.append_cancel_left h2
      subst h2
      exact ⟨by rw [hl]; exact h1, rfl⟩
    · exact h.elim
  · unfold boxG at *
    split at h
    · obtain ⟨h1, h2⟩ := h
      have h2 := List.append_cancel_left h2
      subst h2
      exact ⟨by rw [hl]; exact h1, rfl⟩
    · exact h.elim
  · exact frame_pure (det_build _ _) h
  · cases hd
  · rename_i t a
    simp only [tcO] at ht
    unfold loadG at *
    split at h
    · split at h
      · rename_i r off hρ
        rw [hρ] at ht
        have hr := ht r (by simp [tcA, Tch])
        rw [hr]
        split at h
        · obtain ⟨b, h1, h2, h3⟩ := h
          have hn : news = [] := by simpa using h3
          subst hn
          exact ⟨b, h1, h2, by simp⟩
        · exact h.elim
      · obtain ⟨b, h1, h2, h3⟩ := h
        have hn : news = [] := by simpa using h3
        subst hn
        exact ⟨b, h1, h2, by simp⟩
      · exact h.elim
    · exact h.elim
  · cases hs
  · exact frame_pure (det_nil _) h
  · exact frame_pure (det_binX _ _ _ _ _) h
  · exact frame_pure (det_un _ _) h
  · rename_i s d x
    have e := cvtX_frame (P := P) (s := s) (d := d) (a := ρ x) ht
    rw [e]
    exact frame_pure (det_cvtX _ _ _ V) h
  · unfold makeSliceG at *
    split at h
    · split at h
      · obtain ⟨h1, h2, h3, h4, h5, h6, h7, h8⟩ := h
        have h8 := List.append_cancel_left h8
        subst h8
        exact ⟨h1, h2, h3, h4, h5, h6, by rw [hl]; exact h7, rfl⟩
      · exact h.elim
    · exact h.elim
  · exact frame_pure (det_slice _ _ _ _) h
  · exact frame_pure (det_fieldAddr _ _ _) h
  · exact frame_pure (det_field _ _ _) h
  · exact frame_pure (det_indexAddr _ _ _) h
  · exact frame_pure (det_index _ _ _) h
  · exact frame_pure (det_extract _ _) h
  · exact frame_pure (G := fun K => K _) (fun K h => ⟨_, rfl, h⟩) h
  · rename_i c
    unfold callOpG at *
    unfold detOp at hd
    cases hc : c.callee with
    | builtin b =>
      simp only [hc] at h hd ⊢
      unfold builtinG at *
      cases b <;> simp at hd <;> simp only at h ⊢
      all_goals
        split at h
        · first | exact frame_pure (det_len _ _) h | exact frame_pure (det_mx _ _ _) h
        · exact h.elim
    | value f => simp [hc] at hd
    | invoke r m => simp [hc] at hd
  · cases hd
  · cases hd
  · cases hd
  · cases hd
  · cases hd

theorem frz_flat : ∀ {ps : List (Nat × AV)} (H : Heap), ps.all (fun p => p.2.flat) = true → frzL ps H = (ps, H) ∧ goneL ps H = []
  | [], H, _ => ⟨rfl, rfl⟩
  | (i, a) :: l, H, h => by
    simp only [List.all_cons, Bool.and_eq_true] at h
    have h1 : freeze1 H a = (a, H) := by cases a <;> first | rfl | (cases h.1; done)
    have h2 : gone1 H a = [] := by cases a <;> first | rfl | (cases h.1; done)
    obtain ⟨g1, g2⟩ := frz_flat H h.2
    exact ⟨by simp only [frzL, h1, g1], by simp only [goneL, h1, h2, g2, List.append_nil]⟩
theorem bsC_flat {P : Program} {t : TypeId} {len : Nat} {ps : List (Nat × AV)} {V : Heap} {K : AV → List (Nat × Root) → List Root → Prop} (hf : ps.all (fun p => p.2.flat) = true) (h : bsC P t len ps V K) :
    ∃ av news, (∀ W : Heap, W.length = V.length → buildSliceG P t len ps W (fun a h => a = av ∧ h = W ++ news)) ∧ K av [] news := by
  unfold bsC at h
  split at h
  · rename_i e hu
    split at h
    · rename_i sz zs h1 h2
      obtain ⟨g1, g2, g3, out, g4, g5, g6⟩ := h
      obtain ⟨k1, k2⟩ := frz_flat V hf
      rw [k1] at g4
      rw [k2] at g6
      by_cases c : len = 0
      · rw [if_pos c] at g6
        refine ⟨_, _, fun W hW => ?_, g6⟩
        obtain ⟨q1, q2⟩ := frz_flat W hf
        unfold buildSliceG
        simp only [hu, h1, h2, q1]
        exact ⟨g1, g2, g3, out, g4, g5, by rw [if_pos c]; first | exact ⟨rfl, by rw [List.append_nil]⟩ | exact ⟨trivial, by rw [List.append_nil]⟩⟩
      · rw [if_neg c] at g6
        refine ⟨_, _, fun W hW => ?_, g6⟩
        obtain ⟨q1, q2⟩ := frz_flat W hf
        unfold buildSliceG
        simp only [hu, h1, h2, q1]
        exact ⟨g1, g2, g3, out, g4, g5, by rw [if_neg c, hW]; first | exact ⟨rfl, rfl⟩ | exact ⟨trivial, trivial⟩ | exact ⟨rfl, trivial⟩⟩
    · exact h.elim
  · exact h.elim
theorem stepC_ok {m : List Nat} {i : Nat} {op : Op} {ρ : Operand → AV} {T : List (Nat × Option Nat)} {C : AV → List (Nat × Root) → List Root → List (Nat × Option Nat) → Prop} (h : stepC P m i op ρ V T C) :
    ∃ av st news, (∀ W : Heap, W.length = V.length → (∀ r, Tch (tcO op ρ) r → W[r]? = V[r]?) → opG P op ρ W (fun a h => a = av ∧ h = setA st W ++ news)) ∧
      (∀ p ∈ st, tOk m i p.1 T ∧ liv V[p.1]? = true ∧ Tch (tcO op ρ) p.1) ∧ C av st news (addT i (tcO op ρ) T) := by
  unfold stepC at h
  split at h
  · rename_i t a x hs
    have hop : op = .store t a x := by
      cases op <;> simp [stoOf] at hs
      obtain ⟨rfl, rfl, rfl⟩ := hs; rfl
    subst hop
    unfold storeC at h
    split at h
    · rename_i sz r off cs hsz hρ hcs
      split at h
      · rename_i new box e cells hr
        obtain ⟨h1, h2, h3, h4, h5⟩ := h
        have htc : tcO (.store t a x) ρ = some (some r) := by simp only [tcO, hρ]
        rw [htc]
        refine ⟨.any, [(r, .blk new box e (splice cells off cs))], [], fun W hl ht => ?_, fun p hp => ?_, h5⟩
        · have hW : W[r]? = some (.blk new box e cells) := by rw [ht r rfl]; exact hr
          unfold opG storeG
          simp only [hsz, hρ, hcs, hW]
          refine ⟨h1, h2, h3, trivial, ?_⟩
          simp only [setA, List.append_nil]
          rw [setL_eq hW]
        · simp only [List.mem_singleton] at hp
          subst hp
          exact ⟨h4, by simp only; rw [hr]; rfl, rfl⟩
      · exact h.elim
    · exact h.elim
  · rename_i hs
    cases hd : detOp op with
    | true =>
      obtain ⟨av, H', h1, h2, h3⟩ := det_op hd _ _ _ (h.1 hd)
      have e : H' = V ++ H'.drop V.length := by
        have := List.take_append_drop V.length H'
        rw [h2] at this
        exact this.symm
      generalize H'.drop V.length = nw at *
      subst e
      refine ⟨av, [], nw, fun W hl ht => frame_op hd hs hl ht h1, fun p hp => (by cases hp), h3⟩
    | false =>
      have hb := h.2 hd
      by_cases hfl : ∃ t n ps, op = .buildSlice t n ps ∧ (partsA ρ ps).all (fun p => p.2.flat) = true
      · obtain ⟨t, n, ps, rfl, hf⟩ := hfl
        have h := hb.2 rfl
        simp only [apOf, bsOf] at h
        have htc : tcO (.buildSlice t n ps) ρ = none := by simp only [tcO]; rw [if_pos hf]
        have hbt : bsT i (partsA ρ ps) T = T := by unfold bsT; rw [if_pos hf]
        rw [hbt] at h
        obtain ⟨av, nw, h1, h2⟩ := bsC_flat hf h
        rw [htc]
        exact ⟨av, [], nw, fun W hl _ => h1 W hl, fun p hp => (by cases hp), h2.2⟩
      obtain ⟨av, st, nw, h1, h2, h3⟩ : ∃ av st news, opG P op ρ V (fun a h => a = av ∧ h = setA st V ++ news) ∧ (∀ p ∈ st, tOk m i p.1 T ∧ liv V[p.1]? = true) ∧ C av st news ((i, none) :: T) := by
        cases hv : valOp op with
        | true => exact hb.1 hv
        | false =>
          have h := hb.2 hv
          split at h
          · rename_i t t' s x ha
            obtain ⟨rfl, h⟩ := h
            obtain ⟨av, st, nw, h1, h2, h3, h4⟩ := appC_ok h
            refine ⟨av, st, nw, ?_, fun p hp => ⟨h3 p hp, (h2 p hp).2.1⟩, h4⟩
            cases op <;> simp only [apOf] at ha <;> try (cases ha; done)
            rename_i c
            split at ha
            · rename_i s' x' u u' hc hargs hts
              cases ha
              unfold opG callOpG builtinG
              simp only [hc, hargs, hts, List.map_cons, List.map_nil]
              exact ⟨trivial, h1⟩
            · cases ha
          · split at h
            · rename_i t n ps hbs
              obtain ⟨av, st, nw, h1, h2, h3, h4⟩ := bsC_ok h
              cases op <;> simp only [bsOf] at hbs <;> try (cases hbs; done)
              cases hbs
              have hnf : ¬ (partsA ρ ps).all (fun p => p.2.flat) = true := fun e => hfl ⟨_, _, _, rfl, e⟩
              have hbt : bsT i (partsA ρ ps) T = (i, none) :: T := by unfold bsT; rw [if_neg hnf]
              rw [hbt] at h4
              exact ⟨av, st, nw, h1, fun p hp => ⟨h3 p hp, h2 p hp⟩, h4⟩
            · exact h.elim
      have htc : tcO op ρ = some none := by
        cases op <;> simp [detOp] at hd <;> try rfl
        · rename_i t n ps
          simp only [tcO]
          rw [if_neg]
          exact fun e => hfl ⟨_, _, _, rfl, e⟩
        · rename_i c
          simp only [tcO]
          rw [if_neg]
          simpa [detOp] using hd
      rw [htc]
      refine ⟨av, st, nw, fun W hl ht => ?_, fun p hp => ⟨(h2 p hp).1, (h2 p hp).2, trivial⟩, h3⟩
      rw [same_all hl ht]; exact h1
end frame

/-- A drawn region, each operation handing on. -/
def drawC (P : Program) (m : List Nat) (all : List Oper) (H0 : Heap) : Nat → List Oper → List AV → List (Nat × Root) → List (Nat × Nat × Root) → List (Nat × Option Nat) → (List AV → Heap → Prop) → Prop
  | _, [], s, N, S, _, K => K s (allS S (H0 ++ N.map (·.2)))
  | i, o :: rest, s, N, S, T, K =>
    match o.guard with
    | none => stepC P m i o.op (evalA s) (viewS m i S (H0 ++ maskN m i N)) T fun av st news T' => drawC P m all H0 (i + 1) rest (setDst s o.dst av) (N ++ news.map fun x => (i, x)) (st.map (fun p => (i, p.1, p.2)) ++ S) T' K
    | some (j, want) =>
      match dstOf all j with
      | none => False
      | some g =>
        match s[g]? with
        | some (.bool t) =>
          (t = want → stepC P m i o.op (evalA (s.set g (.bool want))) (viewS m i S (H0 ++ maskN m i N)) T fun av st news T' => drawC P m all H0 (i + 1) rest (setDst (s.set g (.bool want)) o.dst av) (N ++ news.map fun x => (i, x)) (st.map (fun p => (i, p.1, p.2)) ++ S) T' K) ∧
          (t = !want → drawC P m all H0 (i + 1) rest (setDst (s.set g (.bool (!want))) o.dst (.tup [])) N S T K)
        | some (.tup []) => drawC P m all H0 (i + 1) rest (setDst s o.dst (.tup [])) N S T K
        | _ => False

/-- A guard that says no. -/
def OffB (x : Option AV) (want : Bool) : Prop := x = some (.bool (!want)) ∨ x = some (.tup [])

section plan
variable (all : List Oper) (av : Nat → AV) (news : Nat → List Root)

/-- The slots after the first k operations that are listed. -/
def sS (L : Nat → Bool) (s : List AV) : Nat → List AV
  | 0 => s
  | k + 1 => if L k then setDst (sS L s k) (dstOf all k) (av k) else sS L s k
def nS : Nat → List (Nat × Root)
  | 0 => []
  | k + 1 => nS k ++ (news k).map fun x => (k, x)
/-- The new roots after the first k operations: those that are listed. -/
def hS (L : Nat → Bool) : Nat → Heap
  | 0 => []
  | k + 1 => hS L k ++ (news k).map fun x => if L k then x else .gone

theorem hS_length (L L' : Nat → Bool) : ∀ k, (hS news L k).length = (hS news L' k).length
  | 0 => rfl
  | k + 1 => by simp [hS, hS_length L L' k]
theorem maskN_eq (m : List Nat) (i : Nat) : ∀ k, maskN m i (nS news k) = hS news (befB m i) k
  | 0 => rfl
  | k + 1 => by
    have ih := maskN_eq m i k
    unfold maskN at ih ⊢
    simp only [nS, hS, List.map_append, ih, List.map_map]
    rfl
theorem nS_all : ∀ k, (nS news k).map (·.2) = hS news (fun _ => true) k
  | 0 => rfl
  | k + 1 => by
    simp only [nS, hS, List.map_append, nS_all k, List.map_map, if_true]
    rfl
theorem sS_length (L : Nat → Bool) (s : List AV) : ∀ k, (sS all av L s k).length = s.length
  | 0 => rfl
  | k + 1 => by
    unfold sS
    split
    · unfold setDst; split
      · simp [sS_length L s k]
      · exact sS_length L s k
    · exact sS_length L s k

theorem setDst_ne {s : List AV} {d : Option Tmp} {v : AV} {t : Nat} (h : d ≠ some t) : (setDst s d v)[t]? = s[t]? := by
  unfold setDst
  split
  · rw [List.getElem?_set_ne (fun e => h (by rw [e]))]
  · rfl
theorem setDst_congr {s s' : List AV} {d : Option Tmp} {v : AV} {t : Nat} (hl : s.length = s'.length) (h : s[t]? = s'[t]?) : (setDst s d v)[t]? = (setDst s' d v)[t]? := by
  unfold setDst
  split
  · simp only [List.getElem?_set, hl, h]
  · exact h

theorem hS_succ (L : Nat → Bool) (k : Nat) : hS news L (k + 1) = hS news L k ++ (news k).map fun x => if L k then x else .gone := rfl
theorem hS_le (L : Nat → Bool) {k : Nat} : ∀ {n : Nat}, k ≤ n → (hS news L k).length ≤ (hS news L n).length
  | 0, h => by
    have : k = 0 := by omega
    subst this; exact Nat.le_refl _
  | n + 1, h => by
    by_cases e : k = n + 1
    · subst e; exact Nat.le_refl _
    · have := hS_le L (k := k) (n := n) (by omega)
      simp [hS_succ]; omega

/-- A root stands where it stands, whatever comes behind. -/
theorem hS_mono (L : Nat → Bool) {k : Nat} {r : Nat} : ∀ (n : Nat), k ≤ n → r < (hS news L k).length → (hS news L n)[r]? = (hS news L k)[r]?
  | n, h, hr => by
    induction n with
    | zero => have : k = 0 := by omega
              subst this; rfl
    | succ n ih =>
      by_cases e : k = n + 1
      · subst e; rfl
      · have h' := ih (by omega)
        have hle : (hS news L k).length ≤ (hS news L n).length := hS_le news L (by omega)
        rw [hS_succ, List.getElem?_append_left (by omega), h']
theorem hS_sub {L L' : Nat → Bool} (hL : ∀ j, L j = true → L' j = true) : ∀ (k r : Nat) (new box : Bool) (e : TypeId) (cells : List AV), (hS news L k)[r]? = some (Root.blk new box e cells) → (hS news L' k)[r]? = some (Root.blk new box e cells)
  | 0, r, new, box, e, cells, h => by simp [hS] at h
  | k + 1, r, new, box, e, cells, h => by
    unfold hS at h ⊢
    have hl := hS_length news L L' k
    rw [List.getElem?_append] at h ⊢
    rw [hl] at h
    split at h
    · rw [if_pos ‹_›]; exact hS_sub hL k r new box e cells h
    · rw [if_neg ‹_›]
      rw [List.getElem?_map] at h ⊢
      cases hx : (news k)[r - (hS news L' k).length]? with
      | none => simp [hx] at h
      | some x =>
        simp only [hx, Option.map_some, Option.some.injEq] at h ⊢
        cases hk : L k with
        | true => rw [hk] at h; rw [hL k hk]; exact h
        | false => rw [hk] at h; cases h

/-- What stands at a place behind the first n: what its own operation made, if it is listed. -/
theorem hS_put {L : Nat → Bool} {i n : Nat} (hin : i < n) : ∀ (r : Nat), (hS news (fun j => if j = i then true else L j) n)[r]? =
    if (hS news L i).length ≤ r ∧ r < (hS news L (i + 1)).length then (news i)[r - (hS news L i).length]? else (hS news L n)[r]? := by
  have key : ∀ (n : Nat), (∀ (r : Nat), (hS news (fun j => if j = i then true else L j) n)[r]? = if i < n ∧ (hS news L i).length ≤ r ∧ r < (hS news L (i + 1)).length then (news i)[r - (hS news L i).length]? else (hS news L n)[r]?) := by
    intro n
    induction n with
    | zero => intro r; simp [hS]
    | succ n ih =>
      intro r
      have hl := hS_length news (fun j => if j = i then true else L j) L n
      have e1 : (hS news (fun j => if j = i then true else L j) (n + 1))[r]? = if r < (hS news L n).length then (hS news (fun j => if j = i then true else L j) n)[r]? else
          ((news n).map fun x => if (if n = i then true else L n) then x else Root.gone)[r - (hS news L n).length]? := by
        rw [hS_succ, List.getElem?_append, hl]
      have e2 : (hS news L (n + 1))[r]? = if r < (hS news L n).length then (hS news L n)[r]? else ((news n).map fun x => if L n then x else Root.gone)[r - (hS news L n).length]? := by
        rw [hS_succ, List.getElem?_append]
      rw [e1, e2]
      by_cases c : r < (hS news L n).length
      · simp only [if_pos c]
        rw [ih r]
        by_cases c2 : i < n
        · have c2' : i < n + 1 := by omega
          simp only [c2, c2', true_and]
        · have c3 : ¬ (i < n + 1 ∧ (hS news L i).length ≤ r ∧ r < (hS news L (i + 1)).length) := by
            rintro ⟨h1, h2, _⟩
            have : i = n := by omega
            subst this
            omega
          rw [if_neg c3, if_neg (fun h => c2 h.1)]
      · simp only [if_neg c]
        by_cases e : n = i
        · rw [← e]
          by_cases c3 : r < (hS news L (n + 1)).length
          · have c4 : n < n + 1 ∧ (hS news L n).length ≤ r ∧ r < (hS news L (n + 1)).length := ⟨by omega, by omega, c3⟩
            rw [if_pos c4]
            simp
          · have c4 : ¬ (n < n + 1 ∧ (hS news L n).length ≤ r ∧ r < (hS news L (n + 1)).length) := fun h => c3 h.2.2
            rw [if_neg c4]
            have h5 : (news n).length ≤ r - (hS news L n).length := by simp [hS_succ] at c3; omega
            rw [List.getElem?_eq_none (by simpa using h5), List.getElem?_eq_none (by simpa using h5)]
        · have c4 : ¬ (i < n + 1 ∧ (hS news L i).length ≤ r ∧ r < (hS news L (i + 1)).length) := by
            rintro ⟨h1, _, h3⟩
            have := hS_le news L (k := i + 1) (n := n) (by omega)
            omega
          rw [if_neg c4]
          simp [e]
  intro r
  rw [key n r]
  simp [hin]
end plan

/-- What operations lay anew, the last one first. -/
def stL (st : Nat → List (Nat × Root)) : Nat → List (Nat × Nat × Root)
  | 0 => []
  | k + 1 => (st k).map (fun p => (k, p.1, p.2)) ++ stL st k
theorem mem_stL {st : Nat → List (Nat × Root)} {e : Nat × Nat × Root} : ∀ {k : Nat}, e ∈ stL st k ↔ e.1 < k ∧ (e.2.1, e.2.2) ∈ st e.1
  | 0 => by simp [stL]
  | k + 1 => by
    simp only [stL, List.mem_append, List.mem_map, mem_stL (k := k)]
    constructor
    · rintro (⟨p, hp, rfl⟩ | ⟨h1, h2⟩)
      · exact ⟨by simp, hp⟩
      · exact ⟨by omega, h2⟩
    · rintro ⟨h1, h2⟩
      by_cases c : e.1 = k
      · left; exact ⟨_, by rw [← c]; exact h2, by rw [← c]⟩
      · right; exact ⟨by omega, h2⟩
def tL (tc : Nat → Option (Option Nat)) : Nat → List (Nat × Option Nat)
  | 0 => []
  | k + 1 => addT k (tc k) (tL tc k)
theorem tOk_tL {m : List Nat} {i r : Nat} {tc : Nat → Option (Option Nat)} : ∀ {k : Nat}, tOk m i r (tL tc k) → ∀ j, j < k → befB m i j = true ∨ ¬ Tch (tc j) r
  | 0, _, j, hj => by omega
  | k + 1, h, j, hj => by
    simp only [tL, addT] at h
    by_cases c : j = k
    · subst c
      split at h
      · rename_i e; rw [e]; exact .inr (fun h => h)
      · rename_i t e; rw [e]; exact h.1
    · refine tOk_tL (k := k) ?_ j (by omega)
      split at h
      · exact h
      · exact h.2

/-- A plan: what each operation comes to, what it makes, what it lays anew, what it looks at. -/
structure Pl where
  av : Nat → AV
  news : Nat → List Root
  st : Nat → List (Nat × Root)
  tc : Nat → Option (Option Nat)
def Pl.view (p : Pl) (m : List Nat) (H0 : Heap) (k : Nat) : Heap := viewS m k (stL p.st k) (H0 ++ hS p.news (befB m k) k)
def Pl.At (P : Program) (p : Pl) (m : List Nat) (all : List Oper) (H0 : Heap) (s0 : List AV) (k : Nat) (o : Oper) : Prop :=
  ((o.guard = none ∨ ∃ j want g, o.guard = some (j, want) ∧ dstOf all j = some g ∧ (sS all p.av (fun _ => true) s0 k)[g]? = some (.bool want)) ∧
    (∀ W : Heap, W.length = (p.view m H0 k).length → (∀ r, Tch (p.tc k) r → W[r]? = (p.view m H0 k)[r]?) → opG P o.op (evalA (sS all p.av (fun _ => true) s0 k)) W (fun a h => a = p.av k ∧ h = setA (p.st k) W ++ p.news k)) ∧
    (∀ q ∈ p.st k, (∀ j, j < k → befB m k j = true ∨ ¬ Tch (p.tc j) q.1) ∧ liv (p.view m H0 k)[q.1]? = true ∧ Tch (p.tc k) q.1)) ∨
  (p.news k = [] ∧ p.st k = [] ∧ p.av k = .tup [] ∧ ∃ j want g, o.guard = some (j, want) ∧ dstOf all j = some g ∧ OffB (sS all p.av (fun _ => true) s0 k)[g]? want)
def Pl.Same (p q : Pl) (i : Nat) : Prop := ∀ k, k < i → p.av k = q.av k ∧ p.news k = q.news k ∧ p.st k = q.st k ∧ p.tc k = q.tc k
theorem Pl.Same.sS {p q : Pl} {all : List Oper} {s0 : List AV} : ∀ {i : Nat}, p.Same q i → sS all p.av (fun _ => true) s0 i = sS all q.av (fun _ => true) s0 i
  | 0, _ => rfl
  | k + 1, h => by
    have ih := Pl.Same.sS (p := p) (q := q) (all := all) (s0 := s0) (i := k) (fun j hj => h j (by omega))
    simp only [Go.Awp.sS, if_true, ih, (h k (by omega)).1]
theorem Pl.Same.nS {p q : Pl} : ∀ {i : Nat}, p.Same q i → nS p.news i = nS q.news i
  | 0, _ => rfl
  | k + 1, h => by
    have ih := Pl.Same.nS (p := p) (q := q) (i := k) (fun j hj => h j (by omega))
    simp only [Go.Awp.nS, ih, (h k (by omega)).2.1]
theorem Pl.Same.hS {p q : Pl} {L : Nat → Bool} : ∀ {i : Nat}, p.Same q i → hS p.news L i = hS q.news L i
  | 0, _ => rfl
  | k + 1, h => by
    have ih := Pl.Same.hS (p := p) (q := q) (L := L) (i := k) (fun j hj => h j (by omega))
    simp only [Go.Awp.hS, ih, (h k (by omega)).2.1]
theorem Pl.Same.stL {p q : Pl} : ∀ {i : Nat}, p.Same q i → stL p.st i = stL q.st i
  | 0, _ => rfl
  | k + 1, h => by
    have ih := Pl.Same.stL (p := p) (q := q) (i := k) (fun j hj => h j (by omega))
    simp only [Go.Awp.stL, ih, (h k (by omega)).2.2.1]
theorem Pl.Same.tL {p q : Pl} : ∀ {i : Nat}, p.Same q i → tL p.tc i = tL q.tc i
  | 0, _ => rfl
  | k + 1, h => by
    have ih := Pl.Same.tL (p := p) (q := q) (i := k) (fun j hj => h j (by omega))
    simp only [Go.Awp.tL, ih, (h k (by omega)).2.2.2]
def Pl.put (p : Pl) (i : Nat) (v : AV) (st : List (Nat × Root)) (nw : List Root) (t : Option (Option Nat)) : Pl :=
  ⟨fun k => if k = i then v else p.av k, fun k => if k = i then nw else p.news k, fun k => if k = i then st else p.st k, fun k => if k = i then t else p.tc k⟩
theorem Pl.put_same (p : Pl) (i : Nat) (v : AV) (st : List (Nat × Root)) (nw : List Root) (t : Option (Option Nat)) : (p.put i v st nw t).Same p i := fun k hk => by
  simp only [Pl.put]
  rw [if_neg (by omega), if_neg (by omega), if_neg (by omega), if_neg (by omega)]
  exact ⟨rfl, rfl, rfl, rfl⟩
theorem set_same {s : List AV} {g : Nat} {v : AV} (h : s[g]? = some v) : s.set g v = s := by
  apply List.ext_getElem?
  intro i
  rw [List.getElem?_set]
  split
  · rename_i e; subst e
    split
    · exact h.symm
    · rw [List.getElem?_eq_none (by omega)]
  · rfl

/-- The plan that a run in the text's order leaves. -/
theorem drawC_plan {P : Program} {m : List Nat} {all : List Oper} {H0 : Heap} {s0 : List AV} {K : List AV → Heap → Prop} : ∀ (rest : List Oper) (i : Nat) (p0 : Pl), all.drop i = rest → i + rest.length = all.length →
    drawC P m all H0 i rest (sS all p0.av (fun _ => true) s0 i) (nS p0.news i) (stL p0.st i) (tL p0.tc i) K →
    ∃ p : Pl, p.Same p0 i ∧ (∀ (k : Nat) (o : Oper), i ≤ k → all[k]? = some o → p.At P m all H0 s0 k o) ∧
      K (sS all p.av (fun _ => true) s0 all.length) (appS (fun _ => true) (stL p.st all.length) (H0 ++ hS p.news (fun _ => true) all.length))
  | [], i, p0, hd, hl, h => by
    have : i = all.length := by simpa using hl
    subst this
    refine ⟨p0, fun _ _ => ⟨rfl, rfl, rfl, rfl⟩, fun k o hk ho => ?_, ?_⟩
    · have := (List.getElem?_eq_some_iff.1 ho).1; omega
    · unfold drawC at h; rw [nS_all] at h; rw [appS_all]; exact h
  | o :: rest, i, p0, hd, hl, h => by
    have hlt : i < all.length := by simp at hl; omega
    have ho : all[i]? = some o := by
      have : (all.drop i)[0]? = some o := by rw [hd]; rfl
      simpa using this
    have hd' : all.drop (i + 1) = rest := by
      have : (all.drop i).drop 1 = rest := by rw [hd]; rfl
      rwa [List.drop_drop] at this
    have hdst : dstOf all i = o.dst := by simp [dstOf, ho]
    -- a plan for what comes behind, with this operation's own outcome laid in
    have go : ∀ (v : AV) (st : List (Nat × Root)) (nw : List Root) (t : Option (Option Nat)),
        drawC P m all H0 (i + 1) rest (setDst (sS all p0.av (fun _ => true) s0 i) o.dst v) (nS p0.news i ++ nw.map fun x => (i, x)) (st.map (fun p => (i, p.1, p.2)) ++ stL p0.st i) (addT i t (tL p0.tc i)) K →
        (∀ p : Pl, p.Same p0 i → p.av i = v → p.news i = nw → p.st i = st → p.tc i = t → p.At P m all H0 s0 i o) →
        ∃ p : Pl, p.Same p0 i ∧ (∀ (k : Nat) (o : Oper), i ≤ k → all[k]? = some o → p.At P m all H0 s0 k o) ∧
          K (sS all p.av (fun _ => true) s0 all.length) (appS (fun _ => true) (stL p.st all.length) (H0 ++ hS p.news (fun _ => true) all.length)) := by
      intro v st nw t hrest hfact
      have hs := p0.put_same i v st nw t
      have es : sS all (p0.put i v st nw t).av (fun _ => true) s0 (i + 1) = setDst (sS all p0.av (fun _ => true) s0 i) o.dst v := by
        simp only [sS, if_true, hs.sS, hdst]
        simp [Pl.put]
      have en : nS (p0.put i v st nw t).news (i + 1) = nS p0.news i ++ nw.map fun x => (i, x) := by
        simp only [nS, hs.nS]
        simp [Pl.put]
      have et : stL (p0.put i v st nw t).st (i + 1) = st.map (fun p => (i, p.1, p.2)) ++ stL p0.st i := by
        simp only [stL, hs.stL]
        simp [Pl.put]
      have ec : tL (p0.put i v st nw t).tc (i + 1) = addT i t (tL p0.tc i) := by
        simp only [tL, hs.tL]
        simp [Pl.put]
      rw [← es, ← en, ← et, ← ec] at hrest
      obtain ⟨p, h1, h2, h3⟩ := drawC_plan rest (i + 1) _ hd' (by simp at hl; omega) hrest
      have hb : p.Same p0 i := fun k hk => by
        obtain ⟨g1, g2, g3, g4⟩ := h1 k (by omega)
        obtain ⟨q1, q2, q3, q4⟩ := hs k hk
        exact ⟨g1.trans q1, g2.trans q2, g3.trans q3, g4.trans q4⟩
      obtain ⟨i1, i2, i3, i4⟩ := h1 i (by omega)
      refine ⟨p, hb, fun k o' hk ho' => ?_, h3⟩
      by_cases e : k = i
      · subst e
        rw [ho] at ho'; cases ho'
        exact hfact p hb (by rw [i1]; simp [Pl.put]) (by rw [i2]; simp [Pl.put]) (by rw [i3]; simp [Pl.put]) (by rw [i4]; simp [Pl.put])
      · exact h2 k o' (by omega) ho'
    have stp : (o.guard = none ∨ ∃ j want g, o.guard = some (j, want) ∧ dstOf all j = some g ∧ (sS all p0.av (fun _ => true) s0 i)[g]? = some (.bool want)) →
        (stepC P m i o.op (evalA (sS all p0.av (fun _ => true) s0 i)) (viewS m i (stL p0.st i) (H0 ++ maskN m i (nS p0.news i))) (tL p0.tc i) fun av st news T' => drawC P m all H0 (i + 1) rest (setDst (sS all p0.av (fun _ => true) s0 i) o.dst av) (nS p0.news i ++ news.map fun x => (i, x)) (st.map (fun p => (i, p.1, p.2)) ++ stL p0.st i) T' K) →
        ∃ p : Pl, p.Same p0 i ∧ (∀ (k : Nat) (o : Oper), i ≤ k → all[k]? = some o → p.At P m all H0 s0 k o) ∧
          K (sS all p.av (fun _ => true) s0 all.length) (appS (fun _ => true) (stL p.st all.length) (H0 ++ hS p.news (fun _ => true) all.length)) := by
      intro hg hst
      obtain ⟨v, st, nw, h1, h2, h3⟩ := stepC_ok hst
      refine go v st nw _ h3 fun p hb e1 e2 e3 e4 => .inl ⟨?_, ?_, ?_⟩
      · rw [hb.sS]; exact hg
      · have hv : p.view m H0 i = viewS m i (stL p0.st i) (H0 ++ maskN m i (nS p0.news i)) := by
          unfold Pl.view; rw [hb.stL, hb.hS, maskN_eq]
        rw [hv, hb.sS, e1, e2, e3, e4]
        exact h1
      · have hv : p.view m H0 i = viewS m i (stL p0.st i) (H0 ++ maskN m i (nS p0.news i)) := by
          unfold Pl.view; rw [hb.stL, hb.hS, maskN_eq]
        rw [hv, e3, e4]
        intro q hq
        obtain ⟨q1, q3, q4⟩ := h2 q hq
        rw [← hb.tL] at q1
        exact ⟨tOk_tL q1, q3, q4⟩
    unfold drawC at h
    split at h
    · rename_i hg
      exact stp (.inl hg) h
    · rename_i j want hg
      split at h
      · exact h.elim
      · rename_i g hgd
        split at h
        · rename_i t hsg
          by_cases e : t = want
          · have h' := h.1 e
            rw [← e, set_same hsg] at h'
            exact stp (.inr ⟨j, want, g, hg, hgd, by rw [hsg, e]⟩) h'
          · have e' : t = !want := by cases t <;> cases want <;> simp_all
            have hrest := h.2 e'
            rw [← e', set_same hsg] at hrest
            refine go (.tup []) [] [] none (by simpa [addT] using hrest) fun p hb e1 e2 e3 e4 => .inr ⟨e2, e3, e1, j, want, g, hg, hgd, .inl ?_⟩
            rw [hb.sS, hsg, e']
        · rename_i hsg
          refine go (.tup []) [] [] none (by simpa [addT] using h) fun p hb e1 e2 e3 e4 => .inr ⟨e2, e3, e1, j, want, g, hg, hgd, .inr ?_⟩
          rw [hb.sS, hsg]
        · exact h.elim
end Go.Awp
