/- The rules by which a walk is reckoned, for simp.
Conditions: none. -/
import Derived.Test.YtbjfkhjckfodbaaSlo
namespace Go.Awp
set_option linter.all false
open Go

def endK (P : Program) (rs : List ResultVar) (Hin : Heap) (R : AV → Heap → Prop) : Exit → List AV → Heap → Prop := fun e s H => match e with
  | .normal => endG P rs Hin R s H
  | .ret => endG P rs Hin R s H
  | _ => False
@[simp ↓] theorem endK_normal (P : Program) (rs : List ResultVar) (Hin : Heap) (R : AV → Heap → Prop) (s : List AV) (H : Heap) : endK P rs Hin R .normal s H = endG P rs Hin R s H := .trans rfl rfl
@[simp ↓] theorem endK_ret (P : Program) (rs : List ResultVar) (Hin : Heap) (R : AV → Heap → Prop) (s : List AV) (H : Heap) : endK P rs Hin R .ret s H = endG P rs Hin R s H := .trans rfl rfl
theorem FnSpec.walk {P : Program} {f : FuncId} {fn : Func} {c : Code} {nt : Nat} {rs : List ResultVar} {avs : List AV} {Hin : Heap} {R : AV → Heap → Prop} (hdr : DrawOk P okN (drawK P))
    (hf : P.funcs[f]? = some fn) (hb : fn.body = some c) (hdo : drawsOk okN c = true) (hname : (fn.name == "runtime.NumGoroutine") = false)
    (hnt : fn.ntmps = nt) (hrs : fn.results.toList = rs) (hle : avs.length ≤ nt) (h : codeG P (drawK P) Hin c (U nt (inits 0 avs)) Hin (endK P rs Hin R)) : FnSpec P f avs Hin R :=
  FnSpec.of_goal hdr hf hb hdo hname hnt hrs (by rw [U_init hle]; exact h)

def endKV (P : Program) (rs : List ResultVar) (Hin : Heap) (R : AV → Heap → Prop) : Exit → List AV → Heap → Prop := fun e s H => match e with
  | .normal => endGV P rs Hin R s H
  | .ret => endGV P rs Hin R s H
  | _ => False
@[simp ↓] theorem endKV_normal (P : Program) (rs : List ResultVar) (Hin : Heap) (R : AV → Heap → Prop) (s : List AV) (H : Heap) : endKV P rs Hin R .normal s H = endGV P rs Hin R s H := .trans rfl rfl
@[simp ↓] theorem endKV_ret (P : Program) (rs : List ResultVar) (Hin : Heap) (R : AV → Heap → Prop) (s : List AV) (H : Heap) : endKV P rs Hin R .ret s H = endGV P rs Hin R s H := .trans rfl rfl
theorem FnSpecV.walk {P : Program} {f : FuncId} {fn : Func} {c : Code} {nt : Nat} {rs : List ResultVar} {avs : List AV} {Hin : Heap} {R : AV → Heap → Prop} (hdr : DrawOk P okN (drawK P))
    (hf : P.funcs[f]? = some fn) (hb : fn.body = some c) (hdo : drawsOk okN c = true) (hname : (fn.name == "runtime.NumGoroutine") = false)
    (hnt : fn.ntmps = nt) (hrs : fn.results.toList = rs) (hle : avs.length ≤ nt) (h : codeG P (drawK P) Hin c (U nt (inits 0 avs)) Hin (endKV P rs Hin R)) : FnSpecV P f avs Hin R :=
  FnSpecV.of_goalK hdr hf hb hdo hname hnt hrs (K := endKV P rs Hin R) (fun e s H hk => by cases e <;> exact hk) (by rw [U_init hle]; exact h)

/-- An end at which less may be told first. -/
def endGW (P : Program) (rs : List ResultVar) (Hin : Heap) (R : AV → Heap → Prop) (s : List AV) (H : Heap) : Prop := ∃ s1 H1, Weak Hin s H s1 H1 ∧ endG P rs Hin R s1 H1
theorem endGW_of {P : Program} {rs : List ResultVar} {Hin : Heap} {R : AV → Heap → Prop} {s : List AV} {H : Heap} (h : endG P rs Hin R s H) : endGW P rs Hin R s H := ⟨s, H, Weak.refl _ _ _, h⟩
def endKW (P : Program) (rs : List ResultVar) (Hin : Heap) (R : AV → Heap → Prop) : Exit → List AV → Heap → Prop := fun e s H => match e with
  | .normal => endGW P rs Hin R s H
  | .ret => endGW P rs Hin R s H
  | _ => False
@[simp ↓] theorem endKW_normal (P : Program) (rs : List ResultVar) (Hin : Heap) (R : AV → Heap → Prop) (s : List AV) (H : Heap) : endKW P rs Hin R .normal s H = endGW P rs Hin R s H := .trans rfl rfl
@[simp ↓] theorem endKW_ret (P : Program) (rs : List ResultVar) (Hin : Heap) (R : AV → Heap → Prop) (s : List AV) (H : Heap) : endKW P rs Hin R .ret s H = endGW P rs Hin R s H := .trans rfl rfl
theorem FnSpec.walkW {P : Program} {f : FuncId} {fn : Func} {c : Code} {nt : Nat} {rs : List ResultVar} {avs : List AV} {Hin : Heap} {R : AV → Heap → Prop} (hdr : DrawOk P okN (drawK P))
    (hf : P.funcs[f]? = some fn) (hb : fn.body = some c) (hdo : drawsOk okN c = true) (hname : (fn.name == "runtime.NumGoroutine") = false)
    (hnt : fn.ntmps = nt) (hrs : fn.results.toList = rs) (hle : avs.length ≤ nt) (h : codeG P (drawK P) Hin c (U nt (inits 0 avs)) Hin (endKW P rs Hin R)) : FnSpec P f avs Hin R :=
  FnSpec.of_goalW hdr hf hb hdo hname hnt hrs (K := endKW P rs Hin R) (fun e s H hk => by
    cases e <;> first | exact hk.elim | (obtain ⟨s1, H1, h1, h2⟩ := hk; exact ⟨s1, H1, h1, h2⟩)) (by rw [U_init hle]; exact h)

/-- What comes behind a value that may lack. -/
def optG {α : Type} (x : Option α) (K : α → Prop) : Prop := match x with
  | some a => K a
  | none => False
theorem optG_ex {α : Type} (x : Option α) (K : α → Prop) : (∃ a, x = some a ∧ K a) = optG x K := by
  cases x <;> simp [optG]
@[simp] theorem optG_some {α : Type} (a : α) (K : α → Prop) : optG (some a) K = K a := .trans rfl rfl
@[congr] theorem optG_congr {α : Type} {x x' : Option α} {K : α → Prop} (h : x = x') : optG x K = optG x' K := by rw [h]
def rootG (x : Option Root) (K : List AV → Prop) : Prop := match x with
  | some (.blk _ _ _ c) => K c
  | _ => False
@[simp] theorem rootG_blk (n b : Bool) (e : TypeId) (c : List AV) (K : List AV → Prop) : rootG (some (.blk n b e c)) K = K c := .trans rfl rfl
@[congr] theorem rootG_congr {x x' : Option Root} {K : List AV → Prop} (h : x = x') : rootG x K = rootG x' K := by rw [h]

variable {P : Program}
-- what waits for what, reckoned
def mskE (acc : List Nat) : List Edge → Nat → Nat
  | [], x => x
  | e :: es, x => if Region.binds .any e then mskE acc es (x ||| (1 <<< e.on) ||| acc.getD e.on 0) else mskE acc es x
theorem mskE_fold (acc : List Nat) : ∀ (es : List Edge) (x : Nat), (es.filterMap fun e => if Region.binds .any e then some e.on else none).foldl (fun x e => x ||| (1 <<< e) ||| acc.getD e 0) x = mskE acc es x
  | [], _ => rfl
  | e :: es, x => by
    unfold mskE
    rw [List.filterMap_cons]
    split
    · rename_i h
      rw [if_neg (by split at h <;> simp_all)]
      exact mskE_fold acc es x
    · rename_i b h
      split at h
      · rename_i hb
        cases h
        rw [if_pos hb, List.foldl_cons]
        exact mskE_fold acc es _
      · cases h
section
variable (acc : List Nat) (es : List Edge) (x o : Nat)
@[simp ↓] theorem mskE_nil : mskE acc [] x = x := .trans rfl rfl
@[simp ↓] theorem mskE_data : mskE acc ({ on := o, ground := .data } :: es) x = mskE acc es (x ||| (1 <<< o) ||| acc.getD o 0) := .trans rfl rfl
@[simp ↓] theorem mskE_chain : mskE acc ({ on := o, ground := .chain } :: es) x = mskE acc es (x ||| (1 <<< o) ||| acc.getD o 0) := .trans rfl rfl
@[simp ↓] theorem mskE_guard : mskE acc ({ on := o, ground := .guard } :: es) x = mskE acc es (x ||| (1 <<< o) ||| acc.getD o 0) := .trans rfl rfl
@[simp ↓] theorem mskE_phase : mskE acc ({ on := o, ground := .phase } :: es) x = mskE acc es (x ||| (1 <<< o) ||| acc.getD o 0) := .trans rfl rfl
@[simp ↓] theorem mskE_text (r : Departure) : mskE acc ({ on := o, ground := .textOnly r } :: es) x = mskE acc es x := .trans rfl rfl
@[simp ↓] theorem mskE_gc (r : Departure) : mskE acc ({ on := o, ground := .gcOnly r } :: es) x = mskE acc es x := .trans rfl rfl
end
def mskO (acc : List Nat) [l : Hold (List Oper)] (_t : True) : Option (List Nat) := some (masksFrom acc l.v)
@[simp] theorem mskO_nil (acc : List Nat) : @mskO acc ⟨[]⟩ trivial = some acc := .trans rfl rfl
@[simp] theorem mskO_cons (acc : List Nat) (d : Option Tmp) (op : Op) (t : TypeId) (p : String) (es : List Edge) (g : Option (Nat × Bool)) (rest : List Oper) : @mskO acc ⟨{ dst := d, op := op, type := t, pos := p, after := es.toArray, guard := g } :: rest⟩ trivial = @mskO (acc ++ [mskE acc es 0]) ⟨rest⟩ trivial := by
  unfold mskO
  have e : edgesOf { dst := d, op := op, type := t, pos := p, after := es.toArray, guard := g } = es.filterMap fun e => if Region.binds .any e then some e.on else none := rfl
  show some (masksFrom (acc ++ [(edgesOf { dst := d, op := op, type := t, pos := p, after := es.toArray, guard := g }).foldl (fun x e => x ||| (1 <<< e) ||| acc.getD e 0) 0]) rest) = some (masksFrom (acc ++ [mskE acc es 0]) rest)
  rw [e, mskE_fold]
@[simp] theorem maskN_nil (m : List Nat) (i : Nat) : maskN m i [] = [] := .trans rfl rfl
@[simp] theorem maskN_cons (m : List Nat) (i j : Nat) (x : Root) (N : List (Nat × Root)) : maskN m i ((j, x) :: N) = (if m.getD i 0 / 2 ^ j % 2 = 1 then x else .gone) :: maskN m i N := by
  show (if befB m i j then x else .gone) :: maskN m i N = _
  unfold befB
  rw [Nat.testBit_eq_decide_div_mod_eq]
  simp only [decide_eq_true_eq]

-- drawn regions
def iteG (b : Bool) (x y : Prop) : Prop := (b = true → x) ∧ (b = false → y)
@[simp] theorem iteG_true (x y : Prop) : iteG true x y = x := by simp [iteG]
@[simp] theorem iteG_false (x y : Prop) : iteG false x y = y := by simp [iteG]
@[congr] theorem iteG_congr {b b' : Bool} {x y : Prop} (h : b = b') : iteG b x y = iteG b' x y := by rw [h]
/-- append in a drawn region. -/
def apG (x : Option (TypeId × TypeId × Operand × Operand)) (A : TypeId → TypeId → Operand → Operand → Prop) : Prop := match x with
  | some (t, t', s, x) => A t t' s x
  | none => False
@[simp] theorem apG_some (t t' : TypeId) (s x : Operand) (A : TypeId → TypeId → Operand → Operand → Prop) : apG (some (t, t', s, x)) A = A t t' s x := .trans rfl rfl
@[congr] theorem apG_congr {x x' : Option (TypeId × TypeId × Operand × Operand)} {A : TypeId → TypeId → Operand → Operand → Prop} (h : x = x') : apG x A = apG x' A := by rw [h]
@[simp] theorem apG_none (A : TypeId → TypeId → Operand → Operand → Prop) : apG none A = False := .trans rfl rfl
def apE (x : Option (TypeId × TypeId × Operand × Operand)) (A : TypeId → TypeId → Operand → Operand → Prop) (z : Prop) : Prop := match x with
  | some (t, t', s, x) => A t t' s x
  | none => z
@[simp] theorem apE_some (t t' : TypeId) (s x : Operand) (A : TypeId → TypeId → Operand → Operand → Prop) (z : Prop) : apE (some (t, t', s, x)) A z = A t t' s x := .trans rfl rfl
@[simp] theorem apE_none (A : TypeId → TypeId → Operand → Operand → Prop) (z : Prop) : apE none A z = z := .trans rfl rfl
@[congr] theorem apE_congr {x x' : Option (TypeId × TypeId × Operand × Operand)} {A : TypeId → TypeId → Operand → Operand → Prop} {z : Prop} (h : x = x') : apE x A z = apE x' A z := by rw [h]
/-- A literal of rows in a drawn region. -/
def bsG (x : Option (TypeId × Nat × Array (Nat × Operand))) (A : TypeId → Nat → Array (Nat × Operand) → Prop) : Prop := match x with
  | some (t, n, ps) => A t n ps
  | none => False
@[simp] theorem bsG_some (t : TypeId) (n : Nat) (ps : Array (Nat × Operand)) (A : TypeId → Nat → Array (Nat × Operand) → Prop) : bsG (some (t, n, ps)) A = A t n ps := .trans rfl rfl
@[congr] theorem bsG_congr {x x' : Option (TypeId × Nat × Array (Nat × Operand))} {A : TypeId → Nat → Array (Nat × Operand) → Prop} (h : x = x') : bsG x A = bsG x' A := by rw [h]
/-- A call of a function in a drawn region: it may lay roots anew. -/
def callV (P : Program) (op : Op) (ρ : Operand → AV) (Hb : Heap) (K : AV → List (Nat × Root) → List Root → Prop) : Prop := ∃ av st news, opG P op ρ Hb (fun a h => a = av ∧ h = setA st Hb ++ news) ∧ K av st news
def callD (P : Program) (f : FuncId) (args : List AV) (Hb : Heap) [K : Hold (AV → List (Nat × Root) → List Root → Prop)] (_t : True) : Prop := ∃ av st news, callG P f args Hb (fun a h => a = av ∧ h = setA st Hb ++ news) ∧ K.v av st news
/-- A call, what comes behind it passed by. -/
def callS (P : Program) (f : FuncId) (args : List AV) (H : Heap) [K : Hold (AV → Heap → Prop)] (_t : True) : Prop := callG P f args H K.v
def drawCA (P : Program) [m : Hold (List Nat)] [all : Hold (List Oper)] [rest : Hold (List Oper)] (H0 Hb : Heap) (i n : Nat) (l : List (Nat × AV)) (d : Option Tmp) (N : List (Nat × Root)) (S : List (Nat × Nat × Root)) (T : List (Nat × Option Nat)) [K : Hold (List AV → Heap → Prop)] (av : AV) (H' : Heap) : Prop :=
  H'.take Hb.length = Hb ∧ drawC P m.v all.v H0 (i + 1) rest.v (setDst (U n l) d av) (N ++ (H'.drop Hb.length).map fun x => (i, x)) S T K.v
def drawCK (P : Program) [m : Hold (List Nat)] [all : Hold (List Oper)] [rest : Hold (List Oper)] (H0 Hb : Heap) (i n : Nat) (l : List (Nat × AV)) (d : Option Tmp) (N : List (Nat × Root)) (S : List (Nat × Nat × Root)) (T : List (Nat × Option Nat)) [K : Hold (List AV → Heap → Prop)] : AV → Heap → Prop :=
  fun av H' => H'.take Hb.length = Hb ∧ drawC P m.v all.v H0 (i + 1) rest.v (setDst (U n l) d av) (N ++ (H'.drop Hb.length).map fun x => (i, x)) S T K.v
def drawCX (P : Program) [m : Hold (List Nat)] [all : Hold (List Oper)] [rest : Hold (List Oper)] (H0 Hb : Heap) (i n : Nat) (l : List (Nat × AV)) (d : Option Tmp) (N : List (Nat × Root)) (S : List (Nat × Nat × Root)) (T : List (Nat × Option Nat)) [K : Hold (List AV → Heap → Prop)] : AV → List (Nat × Root) → List Root → Prop :=
  fun av st news => (∀ p ∈ st, tOk m.v i p.1 T ∧ liv Hb[p.1]? = true) ∧ drawC P m.v all.v H0 (i + 1) rest.v (setDst (U n l) d av) (N ++ news.map fun x => (i, x)) (st.map (fun p => (i, p.1, p.2)) ++ S) ((i, none) :: T) K.v
def drawCY (P : Program) [m : Hold (List Nat)] [all : Hold (List Oper)] [rest : Hold (List Oper)] (H0 : Heap) (i n : Nat) (l : List (Nat × AV)) (d : Option Tmp) (N : List (Nat × Root)) (S : List (Nat × Nat × Root)) (T : List (Nat × Option Nat)) [K : Hold (List AV → Heap → Prop)] : AV → List (Nat × Root) → List Root → Prop :=
  fun av st news => (∀ p ∈ st, tOk m.v i p.1 T) ∧ drawC P m.v all.v H0 (i + 1) rest.v (setDst (U n l) d av) (N ++ news.map fun x => (i, x)) (st.map (fun p => (i, p.1, p.2)) ++ S) ((i, none) :: T) K.v
def drawCZ (P : Program) [m : Hold (List Nat)] [all : Hold (List Oper)] [rest : Hold (List Oper)] (H0 : Heap) (i n : Nat) (l : List (Nat × AV)) (d : Option Tmp) (N : List (Nat × Root)) (S : List (Nat × Nat × Root)) (T T' : List (Nat × Option Nat)) [K : Hold (List AV → Heap → Prop)] : AV → List (Nat × Root) → List Root → Prop :=
  fun av st news => (∀ p ∈ st, tOk m.v i p.1 T) ∧ drawC P m.v all.v H0 (i + 1) rest.v (setDst (U n l) d av) (N ++ news.map fun x => (i, x)) (st.map (fun p => (i, p.1, p.2)) ++ S) T' K.v
def drawCB (P : Program) [m : Hold (List Nat)] [all : Hold (List Oper)] [rest : Hold (List Oper)] (H0 : Heap) (i n : Nat) (l : List (Nat × AV)) (d : Option Tmp) (N : List (Nat × Root)) (S : List (Nat × Nat × Root)) (T : List (Nat × Option Nat)) [K : Hold (List AV → Heap → Prop)] (av : AV) (news : List Root) : Prop :=
  drawC P m.v all.v H0 (i + 1) rest.v (setDst (U n l) d av) (N ++ news.map fun x => (i, x)) S T K.v
def drawCS (P : Program) [m : Hold (List Nat)] [all : Hold (List Oper)] [rest : Hold (List Oper)] (H0 : Heap) (i n : Nat) (l : List (Nat × AV)) (N : List (Nat × Root)) (S : List (Nat × Nat × Root)) (T : List (Nat × Option Nat)) [K : Hold (List AV → Heap → Prop)] : Nat → Root → Prop :=
  fun r y => tOk m.v i r T ∧ drawC P m.v all.v H0 (i + 1) rest.v (U n l) N ((i, r, y) :: S) ((i, some r) :: T) K.v
/-- One operation, seen with some roots. -/
def stepG (P : Program) [m : Hold (List Nat)] [all : Hold (List Oper)] [rest : Hold (List Oper)] (H0 Hb : Heap) (i n : Nat) (l : List (Nat × AV)) (d : Option Tmp) (op : Op) (N : List (Nat × Root)) (S : List (Nat × Nat × Root)) (T : List (Nat × Option Nat)) [K : Hold (List AV → Heap → Prop)] (_t : True) : Prop :=
  iteG (detOp op) (opG P op (evalA (U n l)) Hb (@drawCK P m all rest H0 Hb i n l d N S (addT i (tcO op (evalA (U n l))) T) K))
    (iteG (valOp op) (callV P op (evalA (U n l)) Hb (@drawCX P m all rest H0 Hb i n l d N S T K)) (apE (apOf op) (fun t t' s x => t' = t ∧ appC P t (evalA (U n l) s) (evalA (U n l) x) Hb (@drawCY P m all rest H0 i n l d N S T K)) (bsG (bsOf op) fun t k ps => bsC P t k (partsA (evalA (U n l)) ps) Hb (@drawCZ P m all rest H0 i n l d N S T (bsT i (partsA (evalA (U n l)) ps) T) K))))
section
variable (m : List Nat) (all rest : List Oper) (H0 Hb : Heap) (i n : Nat) (l : List (Nat × AV)) (d : Option Tmp) (N : List (Nat × Root)) (S : List (Nat × Nat × Root)) (T : List (Nat × Option Nat)) (K : List AV → Heap → Prop) (op : Op) (t : TypeId) (p : String) (af : Array Edge)
@[simp ↓] theorem codeG_drawn (ops : List Oper) (Q : Exit → List AV → Heap → Prop) : codeG P (drawK P) H0 (.region i ops.toArray true) (U n l) Hb Q = drawC P (masks ops) ops Hb 0 ops (U n l) [] [] [] (@normK ⟨Q⟩) := .trans rfl rfl
@[simp] theorem drawC_nil : drawC P m all H0 i [] (U n l) N S T K = K (U n l) (allS S (H0 ++ N.map (·.2))) := .trans rfl rfl
@[simp high] theorem drawC_nil0 : drawC P m all H0 i [] (U n l) [] [] T K = K (U n l) H0 := by
  show K _ (H0 ++ []) = _
  rw [List.append_nil]
theorem stepC_go (hs : stoOf op = none) : stepC P m i op (evalA (U n l)) Hb T (fun av st news T' => drawC P m all H0 (i + 1) rest (setDst (U n l) d av) (N ++ news.map fun x => (i, x)) (st.map (fun p => (i, p.1, p.2)) ++ S) T' K) =
    @stepG P ⟨m⟩ ⟨all⟩ ⟨rest⟩ H0 Hb i n l d op N S T ⟨K⟩ trivial := by
  unfold stepC stepG iteG drawCK drawCX drawCY drawCZ callV apE bsG
  simp only [hs, List.map_nil, List.nil_append]
  cases apOf op with
  | some x => rfl
  | none => cases bsOf op <;> rfl
theorem stepC_store (ty : TypeId) (a x : Operand) : stepC P m i (.store ty a x) (evalA (U n l)) Hb T (fun av st news T' => drawC P m all H0 (i + 1) rest (setDst (U n l) none av) (N ++ news.map fun x => (i, x)) (st.map (fun p => (i, p.1, p.2)) ++ S) T' K) =
    storeC P ty (evalA (U n l) a) (evalA (U n l) x) Hb (@drawCS P ⟨m⟩ ⟨all⟩ ⟨rest⟩ H0 i n l N S T ⟨K⟩) := by
  unfold stepC drawCS
  simp only [stoOf, List.map_nil, List.append_nil, List.map_cons, List.cons_append, List.nil_append, setDst]
-- what is laid anew takes the masks
@[simp ↓ high] theorem drawC_sto (b : Nat) (m : List Nat) (ty : TypeId) (a x : Operand) :
    drawC P (b :: m) all H0 i ({ dst := none, op := .store ty a x, type := t, pos := p, after := af, guard := none } :: rest) (U n l) N S T K =
      storeC P ty (evalA (U n l) a) (evalA (U n l) x) (viewS (b :: m) i S (H0 ++ maskN (b :: m) i N)) (@drawCS P ⟨b :: m⟩ ⟨all⟩ ⟨rest⟩ H0 i n l N S T ⟨K⟩) := by
  conv => lhs; unfold drawC
  exact stepC_store ..
@[simp ↓ high] theorem drawC_stoM (ops : List Oper) (ty : TypeId) (a x : Operand) :
    drawC P (masks ops) all H0 i ({ dst := none, op := .store ty a x, type := t, pos := p, after := af, guard := none } :: rest) (U n l) N S T K =
      optG (@mskO [] ⟨ops⟩ trivial) fun m => drawC P m all H0 i ({ dst := none, op := .store ty a x, type := t, pos := p, after := af, guard := none } :: rest) (U n l) N S T K := .trans rfl rfl
def stoN (op : Op) : Bool := (stoOf op).isNone
theorem stoN_eq (h : stoN op = true) : stoOf op = none := by unfold stoN at h; simpa using h
end
section
variable (m : List Nat) (all rest : List Oper) (H0 Hb : Heap) (i n : Nat) (l : List (Nat × AV)) (d : Option Tmp) (N : List (Nat × Root)) (S : List (Nat × Nat × Root)) (T : List (Nat × Option Nat)) (K : List AV → Heap → Prop) (op : Op) (t : TypeId) (p : String) (af : Array Edge)
@[simp ↓] theorem stepG_eq : @stepG P ⟨m⟩ ⟨all⟩ ⟨rest⟩ H0 Hb i n l d op N S T ⟨K⟩ trivial =
  iteG (detOp op) (opG P op (evalA (U n l)) Hb (@drawCK P ⟨m⟩ ⟨all⟩ ⟨rest⟩ H0 Hb i n l d N S (addT i (tcO op (evalA (U n l))) T) ⟨K⟩))
    (iteG (valOp op) (callV P op (evalA (U n l)) Hb (@drawCX P ⟨m⟩ ⟨all⟩ ⟨rest⟩ H0 Hb i n l d N S T ⟨K⟩)) (apE (apOf op) (fun t t' s x => t' = t ∧ appC P t (evalA (U n l) s) (evalA (U n l) x) Hb (@drawCY P ⟨m⟩ ⟨all⟩ ⟨rest⟩ H0 i n l d N S T ⟨K⟩)) (bsG (bsOf op) fun t k ps => bsC P t k (partsA (evalA (U n l)) ps) Hb (@drawCZ P ⟨m⟩ ⟨all⟩ ⟨rest⟩ H0 i n l d N S T (bsT i (partsA (evalA (U n l)) ps) T) ⟨K⟩)))) := .trans rfl rfl
@[simp ↓] theorem drawC_plain (h : stoN op = true) :
    drawC P m all H0 i ({ dst := d, op := op, type := t, pos := p, after := af, guard := none } :: rest) (U n l) [] [] T K = @stepG P ⟨m⟩ ⟨all⟩ ⟨rest⟩ H0 H0 i n l d op [] [] T ⟨K⟩ trivial := by
  conv => lhs; unfold drawC
  have e : viewS m i [] (H0 ++ maskN m i []) = H0 := by simp [viewS, maskN]
  dsimp only
  rw [e]
  exact stepC_go _ _ _ _ _ _ _ _ _ _ _ _ _ _ (stoN_eq _ h)
@[simp ↓] theorem drawC_plainN (b : Nat) (m : List Nat) (x : Nat × Root) (h : stoN op = true) :
    drawC P (b :: m) all H0 i ({ dst := d, op := op, type := t, pos := p, after := af, guard := none } :: rest) (U n l) (x :: N) S T K = @stepG P ⟨b :: m⟩ ⟨all⟩ ⟨rest⟩ H0 (viewS (b :: m) i S (H0 ++ maskN (b :: m) i (x :: N))) i n l d op (x :: N) S T ⟨K⟩ trivial := by
  conv => lhs; unfold drawC
  exact stepC_go _ _ _ _ _ _ _ _ _ _ _ _ _ _ (stoN_eq _ h)
@[simp ↓] theorem drawC_plainS (b : Nat) (m : List Nat) (x : Nat × Nat × Root) (h : stoN op = true) :
    drawC P (b :: m) all H0 i ({ dst := d, op := op, type := t, pos := p, after := af, guard := none } :: rest) (U n l) [] (x :: S) T K = @stepG P ⟨b :: m⟩ ⟨all⟩ ⟨rest⟩ H0 (viewS (b :: m) i (x :: S) (H0 ++ maskN (b :: m) i [])) i n l d op [] (x :: S) T ⟨K⟩ trivial := by
  conv => lhs; unfold drawC
  exact stepC_go _ _ _ _ _ _ _ _ _ _ _ _ _ _ (stoN_eq _ h)
@[simp ↓] theorem drawC_maskN (ops : List Oper) (x : Nat × Root) (h : stoN op = true) :
    drawC P (masks ops) all H0 i ({ dst := d, op := op, type := t, pos := p, after := af, guard := none } :: rest) (U n l) (x :: N) S T K =
      optG (@mskO [] ⟨ops⟩ trivial) fun m => drawC P m all H0 i ({ dst := d, op := op, type := t, pos := p, after := af, guard := none } :: rest) (U n l) (x :: N) S T K := .trans rfl rfl
@[simp ↓] theorem drawC_maskS (ops : List Oper) (x : Nat × Nat × Root) (h : stoN op = true) :
    drawC P (masks ops) all H0 i ({ dst := d, op := op, type := t, pos := p, after := af, guard := none } :: rest) (U n l) [] (x :: S) T K =
      optG (@mskO [] ⟨ops⟩ trivial) fun m => drawC P m all H0 i ({ dst := d, op := op, type := t, pos := p, after := af, guard := none } :: rest) (U n l) [] (x :: S) T K := .trans rfl rfl
@[simp ↓] theorem drawCK_go (a : AV) (H : Heap) : @drawCK P ⟨m⟩ ⟨all⟩ ⟨rest⟩ H0 Hb i n l d N S T ⟨K⟩ a H = @drawCA P ⟨m⟩ ⟨all⟩ ⟨rest⟩ H0 Hb i n l d N S T ⟨K⟩ a H := .trans rfl rfl
@[simp ↓] theorem drawCX_nil (a : AV) (news : List Root) : @drawCX P ⟨m⟩ ⟨all⟩ ⟨rest⟩ H0 Hb i n l d N S T ⟨K⟩ a [] news = @drawCA P ⟨m⟩ ⟨all⟩ ⟨rest⟩ H0 [] i n l d N S ((i, none) :: T) ⟨K⟩ a news := by
  unfold drawCX drawCA; simp
@[simp ↓] theorem drawCZ_nil (T' : List (Nat × Option Nat)) (a : AV) (news : List Root) : @drawCZ P ⟨m⟩ ⟨all⟩ ⟨rest⟩ H0 i n l d N S T T' ⟨K⟩ a [] news = @drawCA P ⟨m⟩ ⟨all⟩ ⟨rest⟩ H0 [] i n l d N S T' ⟨K⟩ a news := by
  unfold drawCZ drawCA; simp
@[simp ↓] theorem drawCZ_one (T' : List (Nat × Option Nat)) (a : AV) (r : Nat) (x : Root) (news : List Root) : @drawCZ P ⟨m⟩ ⟨all⟩ ⟨rest⟩ H0 i n l d N S T T' ⟨K⟩ a [(r, x)] news = (tOk m i r T ∧ @drawCA P ⟨m⟩ ⟨all⟩ ⟨rest⟩ H0 [] i n l d N ((i, r, x) :: S) T' ⟨K⟩ a news) := by
  unfold drawCZ drawCA; simp
@[simp ↓] theorem drawCY_nil (a : AV) (news : List Root) : @drawCY P ⟨m⟩ ⟨all⟩ ⟨rest⟩ H0 i n l d N S T ⟨K⟩ a [] news = @drawCA P ⟨m⟩ ⟨all⟩ ⟨rest⟩ H0 [] i n l d N S ((i, none) :: T) ⟨K⟩ a news := by
  unfold drawCY drawCA; simp
@[simp ↓] theorem drawCY_one (a : AV) (r : Nat) (x : Root) (news : List Root) : @drawCY P ⟨m⟩ ⟨all⟩ ⟨rest⟩ H0 i n l d N S T ⟨K⟩ a [(r, x)] news = (tOk m i r T ∧ @drawCA P ⟨m⟩ ⟨all⟩ ⟨rest⟩ H0 [] i n l d N ((i, r, x) :: S) ((i, none) :: T) ⟨K⟩ a news) := by
  unfold drawCY drawCA; simp
@[simp ↓] theorem drawCS_go (r : Nat) (y : Root) : @drawCS P ⟨m⟩ ⟨all⟩ ⟨rest⟩ H0 i n l N S T ⟨K⟩ r y = (tOk m i r T ∧ drawC P m all H0 (i + 1) rest (U n l) N ((i, r, y) :: S) ((i, some r) :: T) K) := .trans rfl rfl
@[congr] theorem drawCA_congr {a a' : AV} {Hb' H H' : Heap} {S' : List (Nat × Nat × Root)} {T' : List (Nat × Option Nat)} (h1 : a = a') (h2 : H = H') (h3 : Hb = Hb') (h4 : T = T') (h5 : S = S') : @drawCA P ⟨m⟩ ⟨all⟩ ⟨rest⟩ H0 Hb i n l d N S T ⟨K⟩ a H = @drawCA P ⟨m⟩ ⟨all⟩ ⟨rest⟩ H0 Hb' i n l d N S' T' ⟨K⟩ a' H' := by rw [h1, h2, h3, h4, h5]
@[congr] theorem drawC_congr {H0' : Heap} {s s' : List AV} {N' : List (Nat × Root)} {S' : List (Nat × Nat × Root)} {T' : List (Nat × Option Nat)} (h0 : H0 = H0') (h1 : s = s') (h2 : N = N') (h3 : S = S') (h4 : T = T') : drawC P m all H0 i rest s N S T K = drawC P m all H0' i rest s' N' S' T' K := by rw [h0, h1, h2, h3, h4]
@[simp] theorem drawCA_none (a : AV) (H' : Heap) : @drawCA P ⟨m⟩ ⟨all⟩ ⟨rest⟩ H0 Hb i n l none N S T ⟨K⟩ a H' = (H'.take Hb.length = Hb ∧ drawC P m all H0 (i + 1) rest (U n l) (N ++ (H'.drop Hb.length).map fun x => (i, x)) S T K) := .trans rfl rfl
@[simp] theorem drawCA_any (dd : Nat)  (H' : Heap) : @drawCA P ⟨m⟩ ⟨all⟩ ⟨rest⟩ H0 Hb i n l (some dd) N S T ⟨K⟩ (.any) H' = (H'.take Hb.length = Hb ∧ drawC P m all H0 (i + 1) rest (U n ((dd, .any) :: l)) (N ++ (H'.drop Hb.length).map fun x => (i, x)) S T K) := by
  show (_ ∧ drawC P m all H0 (i + 1) rest ((U n l).set dd _) _ S T K) = _
  rw [U_set]
@[simp] theorem drawCA_int (dd : Nat) (k : IntKind) (x : Int) (H' : Heap) : @drawCA P ⟨m⟩ ⟨all⟩ ⟨rest⟩ H0 Hb i n l (some dd) N S T ⟨K⟩ (.int k x) H' = (H'.take Hb.length = Hb ∧ drawC P m all H0 (i + 1) rest (U n ((dd, .int k x) :: l)) (N ++ (H'.drop Hb.length).map fun x => (i, x)) S T K) := by
  show (_ ∧ drawC P m all H0 (i + 1) rest ((U n l).set dd _) _ S T K) = _
  rw [U_set]
@[simp] theorem drawCA_bool (dd : Nat) (b : Bool) (H' : Heap) : @drawCA P ⟨m⟩ ⟨all⟩ ⟨rest⟩ H0 Hb i n l (some dd) N S T ⟨K⟩ (.bool b) H' = (H'.take Hb.length = Hb ∧ drawC P m all H0 (i + 1) rest (U n ((dd, .bool b) :: l)) (N ++ (H'.drop Hb.length).map fun x => (i, x)) S T K) := by
  show (_ ∧ drawC P m all H0 (i + 1) rest ((U n l).set dd _) _ S T K) = _
  rw [U_set]
@[simp] theorem drawCA_flt (dd : Nat) (k : FloatKind) (x : Nat) (H' : Heap) : @drawCA P ⟨m⟩ ⟨all⟩ ⟨rest⟩ H0 Hb i n l (some dd) N S T ⟨K⟩ (.flt k x) H' = (H'.take Hb.length = Hb ∧ drawC P m all H0 (i + 1) rest (U n ((dd, .flt k x) :: l)) (N ++ (H'.drop Hb.length).map fun x => (i, x)) S T K) := by
  show (_ ∧ drawC P m all H0 (i + 1) rest ((U n l).set dd _) _ S T K) = _
  rw [U_set]
@[simp] theorem drawCA_str (dd : Nat) (x : ByteArray) (H' : Heap) : @drawCA P ⟨m⟩ ⟨all⟩ ⟨rest⟩ H0 Hb i n l (some dd) N S T ⟨K⟩ (.str x) H' = (H'.take Hb.length = Hb ∧ drawC P m all H0 (i + 1) rest (U n ((dd, .str x) :: l)) (N ++ (H'.drop Hb.length).map fun x => (i, x)) S T K) := by
  show (_ ∧ drawC P m all H0 (i + 1) rest ((U n l).set dd _) _ S T K) = _
  rw [U_set]
@[simp] theorem drawCA_ifc (dd : Nat) (x : Bool) (H' : Heap) : @drawCA P ⟨m⟩ ⟨all⟩ ⟨rest⟩ H0 Hb i n l (some dd) N S T ⟨K⟩ (.ifc x) H' = (H'.take Hb.length = Hb ∧ drawC P m all H0 (i + 1) rest (U n ((dd, .ifc x) :: l)) (N ++ (H'.drop Hb.length).map fun x => (i, x)) S T K) := by
  show (_ ∧ drawC P m all H0 (i + 1) rest ((U n l).set dd _) _ S T K) = _
  rw [U_set]
@[simp] theorem drawCA_agg (dd : Nat) (x : List AV) (H' : Heap) : @drawCA P ⟨m⟩ ⟨all⟩ ⟨rest⟩ H0 Hb i n l (some dd) N S T ⟨K⟩ (.agg x) H' = (H'.take Hb.length = Hb ∧ drawC P m all H0 (i + 1) rest (U n ((dd, .agg x) :: l)) (N ++ (H'.drop Hb.length).map fun x => (i, x)) S T K) := by
  show (_ ∧ drawC P m all H0 (i + 1) rest ((U n l).set dd _) _ S T K) = _
  rw [U_set]
@[simp] theorem drawCA_tup (dd : Nat) (x : List AV) (H' : Heap) : @drawCA P ⟨m⟩ ⟨all⟩ ⟨rest⟩ H0 Hb i n l (some dd) N S T ⟨K⟩ (.tup x) H' = (H'.take Hb.length = Hb ∧ drawC P m all H0 (i + 1) rest (U n ((dd, .tup x) :: l)) (N ++ (H'.drop Hb.length).map fun x => (i, x)) S T K) := by
  show (_ ∧ drawC P m all H0 (i + 1) rest ((U n l).set dd _) _ S T K) = _
  rw [U_set]
@[simp] theorem drawCA_nilp (dd : Nat)  (H' : Heap) : @drawCA P ⟨m⟩ ⟨all⟩ ⟨rest⟩ H0 Hb i n l (some dd) N S T ⟨K⟩ (.nilp) H' = (H'.take Hb.length = Hb ∧ drawC P m all H0 (i + 1) rest (U n ((dd, .nilp) :: l)) (N ++ (H'.drop Hb.length).map fun x => (i, x)) S T K) := by
  show (_ ∧ drawC P m all H0 (i + 1) rest ((U n l).set dd _) _ S T K) = _
  rw [U_set]
@[simp] theorem drawCA_ptr (dd : Nat) (r o : Nat) (H' : Heap) : @drawCA P ⟨m⟩ ⟨all⟩ ⟨rest⟩ H0 Hb i n l (some dd) N S T ⟨K⟩ (.ptr r o) H' = (H'.take Hb.length = Hb ∧ drawC P m all H0 (i + 1) rest (U n ((dd, .ptr r o) :: l)) (N ++ (H'.drop Hb.length).map fun x => (i, x)) S T K) := by
  show (_ ∧ drawC P m all H0 (i + 1) rest ((U n l).set dd _) _ S T K) = _
  rw [U_set]
@[simp] theorem drawCA_nils (dd : Nat)  (H' : Heap) : @drawCA P ⟨m⟩ ⟨all⟩ ⟨rest⟩ H0 Hb i n l (some dd) N S T ⟨K⟩ (.nils) H' = (H'.take Hb.length = Hb ∧ drawC P m all H0 (i + 1) rest (U n ((dd, .nils) :: l)) (N ++ (H'.drop Hb.length).map fun x => (i, x)) S T K) := by
  show (_ ∧ drawC P m all H0 (i + 1) rest ((U n l).set dd _) _ S T K) = _
  rw [U_set]
@[simp] theorem drawCA_slc (dd : Nat) (ro oo mo qo : Nat) (H' : Heap) : @drawCA P ⟨m⟩ ⟨all⟩ ⟨rest⟩ H0 Hb i n l (some dd) N S T ⟨K⟩ (.slc ro oo mo qo) H' = (H'.take Hb.length = Hb ∧ drawC P m all H0 (i + 1) rest (U n ((dd, .slc ro oo mo qo) :: l)) (N ++ (H'.drop Hb.length).map fun x => (i, x)) S T K) := by
  show (_ ∧ drawC P m all H0 (i + 1) rest ((U n l).set dd _) _ S T K) = _
  rw [U_set]
@[simp] theorem drawCA_view (dd : Nat) (b : Bool) (c : List AV) (mo : Nat) (H' : Heap) : @drawCA P ⟨m⟩ ⟨all⟩ ⟨rest⟩ H0 Hb i n l (some dd) N S T ⟨K⟩ (.view b c mo) H' = (H'.take Hb.length = Hb ∧ drawC P m all H0 (i + 1) rest (U n ((dd, .view b c mo) :: l)) (N ++ (H'.drop Hb.length).map fun x => (i, x)) S T K) := by
  show (_ ∧ drawC P m all H0 (i + 1) rest ((U n l).set dd _) _ S T K) = _
  rw [U_set]
@[simp] theorem drawCA_vptr (dd : Nat) (b : Bool) (c : List AV) (H' : Heap) : @drawCA P ⟨m⟩ ⟨all⟩ ⟨rest⟩ H0 Hb i n l (some dd) N S T ⟨K⟩ (.vptr b c) H' = (H'.take Hb.length = Hb ∧ drawC P m all H0 (i + 1) rest (U n ((dd, .vptr b c) :: l)) (N ++ (H'.drop Hb.length).map fun x => (i, x)) S T K) := by
  show (_ ∧ drawC P m all H0 (i + 1) rest ((U n l).set dd _) _ S T K) = _
  rw [U_set]
@[simp] theorem drawCA_mp (dd : Nat) (rr : Nat) (H' : Heap) : @drawCA P ⟨m⟩ ⟨all⟩ ⟨rest⟩ H0 Hb i n l (some dd) N S T ⟨K⟩ (.mp rr) H' = (H'.take Hb.length = Hb ∧ drawC P m all H0 (i + 1) rest (U n ((dd, .mp rr) :: l)) (N ++ (H'.drop Hb.length).map fun x => (i, x)) S T K) := by
  show (_ ∧ drawC P m all H0 (i + 1) rest ((U n l).set dd _) _ S T K) = _
  rw [U_set]
@[simp] theorem drawCA_mview (dd : Nat) (b : Bool) (ee : Nat) (kk : List (List Int)) (c : List AV) (H' : Heap) : @drawCA P ⟨m⟩ ⟨all⟩ ⟨rest⟩ H0 Hb i n l (some dd) N S T ⟨K⟩ (.mview b ee kk c) H' = (H'.take Hb.length = Hb ∧ drawC P m all H0 (i + 1) rest (U n ((dd, .mview b ee kk c) :: l)) (N ++ (H'.drop Hb.length).map fun x => (i, x)) S T K) := by
  show (_ ∧ drawC P m all H0 (i + 1) rest ((U n l).set dd _) _ S T K) = _
  rw [U_set]
@[simp] theorem drawCA_clo (dd : Nat) (f : FuncId) (a c : List AV) (H' : Heap) : @drawCA P ⟨m⟩ ⟨all⟩ ⟨rest⟩ H0 Hb i n l (some dd) N S T ⟨K⟩ (.clo f a c) H' = (H'.take Hb.length = Hb ∧ drawC P m all H0 (i + 1) rest (U n ((dd, .clo f a c) :: l)) (N ++ (H'.drop Hb.length).map fun x => (i, x)) S T K) := by
  show (_ ∧ drawC P m all H0 (i + 1) rest ((U n l).set dd _) _ S T K) = _
  rw [U_set]
@[simp] theorem drawCA_nilf (dd : Nat)  (H' : Heap) : @drawCA P ⟨m⟩ ⟨all⟩ ⟨rest⟩ H0 Hb i n l (some dd) N S T ⟨K⟩ (.nilf) H' = (H'.take Hb.length = Hb ∧ drawC P m all H0 (i + 1) rest (U n ((dd, .nilf) :: l)) (N ++ (H'.drop Hb.length).map fun x => (i, x)) S T K) := by
  show (_ ∧ drawC P m all H0 (i + 1) rest ((U n l).set dd _) _ S T K) = _
  rw [U_set]
end
def guardC (g : Option AV) (want : Bool) (x y z : Prop) : Prop := match g with
  | some (.bool t) => (t = want → x) ∧ (t = !want → y)
  | some (.tup []) => z
  | _ => False
@[congr] theorem guardC_congr {g g' : Option AV} {want : Bool} {x y z : Prop} (h : g = g') : guardC g want x y z = guardC g' want x y z := by rw [h]
@[simp high] theorem guardC_skip (want : Bool) (x y z : Prop) : guardC (some (.tup [])) want x y z = z := .trans rfl rfl
def gval (s : List AV) (o : Option Tmp) : Option AV := match o with
  | some g => s[g]?
  | none => none
@[simp] theorem gval_some (n g : Nat) (l : List (Nat × AV)) (h : g < n) : gval (U n l) (some g) = some (look l g) := by
  show (U n l)[g]? = _
  rw [U_get, if_pos h]
section
variable (m : List Nat) (all rest : List Oper) (H0 : Heap) (i j n : Nat) (want : Bool) (l : List (Nat × AV)) (d : Option Tmp) (N : List (Nat × Root)) (S : List (Nat × Nat × Root)) (T : List (Nat × Option Nat)) (K : List AV → Heap → Prop) (op : Op) (t : TypeId) (p : String) (af : Array Edge)
@[simp ↓] theorem drawC_guard :
    drawC P m all H0 i ({ dst := d, op := op, type := t, pos := p, after := af, guard := some (j, want) } :: rest) (U n l) N S T K =
      optG (dstOf all j) fun g => guardC (gval (U n l) (some g)) want (drawC P m all H0 i ({ dst := d, op := op, type := t, pos := p, after := af, guard := none } :: rest) ((U n l).set g (.bool want)) N S T K) (drawC P m all H0 (i + 1) rest (setDst ((U n l).set g (.bool (!want))) d (.tup [])) N S T K) (drawC P m all H0 (i + 1) rest (setDst (U n l) d (.tup [])) N S T K) := by
  conv => lhs; unfold drawC
  dsimp only
  cases dstOf all j <;> rfl
@[simp ↓] theorem opsG_guard (H : Heap) :
    opsG P all ({ dst := d, op := op, type := t, pos := p, after := af, guard := some (j, want) } :: rest) (U n l) H K =
      optG (dstOf all j) fun g => guardC (gval (U n l) (some g)) want (opsG P all ({ dst := d, op := op, type := t, pos := p, after := af, guard := none } :: rest) ((U n l).set g (.bool want)) H K) (opsG P all rest (setDst ((U n l).set g (.bool (!want))) d (.tup [])) H K) (opsG P all rest (setDst (U n l) d (.tup [])) H K) := by
  conv => lhs; unfold opsG
  dsimp only
  change (match dstOf all j with | none => False | some g => _) = _
  cases dstOf all j <;> rfl
@[congr] theorem opsG_congr {s s' : List AV} {H H' : Heap} (h1 : s = s') (h2 : H = H') : opsG P all rest s H K = opsG P all rest s' H' K := by rw [h1, h2]
end
@[simp] theorem U_at {n g : Nat} {l : List (Nat × AV)} (h : g < n) : (U n l)[g]? = some (look l g) := by rw [U_get, if_pos h]
@[simp] theorem U_put (n : Nat) (l : List (Nat × AV)) (d : Nat) (v : AV) : (U n l).set d v = U n ((d, v) :: l) := U_set n l d v
@[simp] theorem U_getD {n t : Nat} {l : List (Nat × AV)} (h : t < n) : (U n l).getD t .any = look l t := by rw [List.getD_eq_getElem?_getD, U_get, if_pos h]; rfl
@[simp ↓] theorem resL_nil (s : List AV) (H : Heap) (K : List AV → Prop) : resL P s H [] K = K [] := .trans rfl rfl
@[simp ↓] theorem resL_tmp {n t : Nat} {l : List (Nat × AV)} (h : t < n) (H : Heap) (rs : List ResultVar) (K : List AV → Prop) : resL P (U n l) H (.tmp t :: rs) K = resL P (U n l) H rs fun l' => K (look l t :: l') := by
  simp only [resL, U_getD h]
@[simp ↓] theorem resL_cell {n a : Nat} {l : List (Nat × AV)} (h : a < n) (t : TypeId) (H : Heap) (rs : List ResultVar) (K : List AV → Prop) : resL P (U n l) H (.cell a t :: rs) K = loadG P t (look l a) H fun av => resL P (U n l) H rs fun l' => K (av :: l') := by
  simp only [resL, U_getD h]
@[simp high] theorem guardC_tt (x y z : Prop) : guardC (some (.bool true)) true x y z = x := by simp [guardC]
@[simp high] theorem guardC_ff (x y z : Prop) : guardC (some (.bool false)) false x y z = x := by simp [guardC]
@[simp high] theorem guardC_tf (x y z : Prop) : guardC (some (.bool true)) false x y z = y := by simp [guardC]
@[simp high] theorem guardC_ft (x y z : Prop) : guardC (some (.bool false)) true x y z = y := by simp [guardC]
@[simp high] theorem condG_t (x y : Prop) : condG (.bool true) x y = x := by simp [condG]
@[simp high] theorem condG_f (x y : Prop) : condG (.bool false) x y = y := by simp [condG]
@[simp] theorem guardC_bool (t want : Bool) (x y z : Prop) : guardC (some (.bool t)) want x y z = ((t = want → x) ∧ (t = !want → y)) := .trans rfl rfl
@[simp] theorem condG_bool (t : Bool) (x y : Prop) : condG (.bool t) x y = ((t = true → x) ∧ (t = false → y)) := .trans rfl rfl
@[simp ↓] theorem dstOf_zero (l : List Oper) (d : Option Tmp) (op : Op) (t : TypeId) (p : String) (af : Array Edge) (g : Option (Nat × Bool)) : dstOf ({ dst := d, op := op, type := t, pos := p, after := af, guard := g } :: l) 0 = d := by
  cases d <;> rfl
@[simp ↓] theorem dstOf_succ (o : Oper) (l : List Oper) (n : Nat) : dstOf (o :: l) (n + 1) = dstOf l n := by
  simp [dstOf]

-- the looks of types
def sliceT (u : Option TypeDesc) (K : TypeId → Prop) : Prop := match u with
  | some (.slice e) => K e
  | _ => False
@[simp] theorem sliceT_eq (e : TypeId) (K : TypeId → Prop) : sliceT (some (.slice e)) K = K e := .trans rfl rfl
@[congr] theorem sliceT_congr {x x' : Option TypeDesc} {K : TypeId → Prop} (h : x = x') : sliceT x K = sliceT x' K := by rw [h]
def structT (u : Option TypeDesc) (K : Array Field → Prop) : Prop := match u with
  | some (.struct e) => K e
  | _ => False
@[simp] theorem structT_eq (e : Array Field) (K : Array Field → Prop) : structT (some (.struct e)) K = K e := .trans rfl rfl
@[congr] theorem structT_congr {x x' : Option TypeDesc} {K : Array Field → Prop} (h : x = x') : structT x K = structT x' K := by rw [h]
def arrayT (u : Option TypeDesc) (K : Nat → TypeId → Prop) : Prop := match u with
  | some (.array n e) => K n e
  | _ => False
@[simp] theorem arrayT_eq (n : Nat) (e : TypeId) (K : Nat → TypeId → Prop) : arrayT (some (.array n e)) K = K n e := .trans rfl rfl
@[congr] theorem arrayT_congr {x x' : Option TypeDesc} {K : Nat → TypeId → Prop} (h : x = x') : arrayT x K = arrayT x' K := by rw [h]
def blkT (x : Option Root) (K : Bool → Bool → TypeId → List AV → Prop) : Prop := match x with
  | some (.blk n b e c) => K n b e c
  | _ => False
@[simp] theorem blkT_blk (n b : Bool) (e : TypeId) (c : List AV) (K : Bool → Bool → TypeId → List AV → Prop) : blkT (some (.blk n b e c)) K = K n b e c := .trans rfl rfl
@[congr] theorem blkT_congr {x x' : Option Root} {K : Bool → Bool → TypeId → List AV → Prop} (h : x = x') : blkT x K = blkT x' K := by rw [h]

-- what is reckoned first
@[congr] theorem pickG_congr {c c' a a' b b' : AV} {K : AV → Prop} (h1 : c = c') (h2 : a = a') (h3 : b = b') : pickG c a b K = pickG c' a' b' K := by rw [h1, h2, h3]
@[simp high] theorem pickG_t (a b : AV) (K : AV → Prop) : pickG (.bool true) a b K = K a := by simp [pickG]
@[simp high] theorem pickG_f (a b : AV) (K : AV → Prop) : pickG (.bool false) a b K = K b := by simp [pickG]
@[simp] theorem pickG_bool (t : Bool) (a b : AV) (K : AV → Prop) : pickG (.bool t) a b K = ((t = true → K a) ∧ (t = false → K b)) := .trans rfl rfl
@[congr] theorem nilG_congr {c c' : AV} {K : AV → Prop} (h1 : c = c') : nilG c K = nilG c' K := by rw [h1]
@[congr] theorem binG_congr {op : BinOp} {t : TypeId} {a a' b b' : AV} {K : AV → Prop} (h1 : a = a') (h2 : b = b') : binG P op t a b K = binG P op t a' b' K := by rw [h1, h2]
@[congr] theorem unG_congr {op : UnOp} {a a' : AV} {K : AV → Prop} (h : a = a') : unG op a K = unG op a' K := by rw [h]
@[congr] theorem cvtX_congr {s d : TypeId} {a a' : AV} {H : Heap} {K : AV → Prop} (h : a = a') : cvtX P s d a H K = cvtX P s d a' H K := by rw [h]
@[congr] theorem cvtN_congr {l l' : Option (List Int)} {n n' : Nat} {K : AV → Prop} (h : l = l') (h2 : n = n') : cvtN l n K = cvtN l' n' K := by rw [h, h2]
@[congr] theorem cvtR_congr {l l' : Option Root} {o n : Nat} {K : AV → Prop} (h : l = l') : cvtR l o n K = cvtR l' o n K := by rw [h]
@[simp] theorem cvtX_int (s d : TypeId) (k : IntKind) (n : Int) (H : Heap) (K : AV → Prop) : cvtX P s d (.int k n) H K = cvtG P s d (.int k n) K := .trans rfl rfl
@[simp] theorem cvtX_flt (s d : TypeId) (k : FloatKind) (n : Nat) (H : Heap) (K : AV → Prop) : cvtX P s d (.flt k n) H K = cvtG P s d (.flt k n) K := .trans rfl rfl
@[simp] theorem cvtX_str (s d : TypeId) (x : ByteArray) (H : Heap) (K : AV → Prop) : cvtX P s d (.str x) H K = cvtG P s d (.str x) K := .trans rfl rfl
def isByt (P : Program) (s : TypeId) : Prop := ∃ e, P.underlying s = some (.slice e) ∧ P.underlying e = some (.int .u8)
@[simp] theorem cvtX_nils (s d : TypeId) (H : Heap) (K : AV → Prop) : cvtX P s d .nils H K = (isByt P s ∧ P.underlying d = some .string ∧ K (.str (strOfNums []))) := .trans rfl rfl
@[simp] theorem cvtX_view (s d : TypeId) (b : Bool) (c : List AV) (n : Nat) (H : Heap) (K : AV → Prop) : cvtX P s d (.view b c n) H K = (isByt P s ∧ P.underlying d = some .string ∧ cvtN (numsA (c.take n)) n K) := .trans rfl rfl
@[simp] theorem cvtX_slc (s d : TypeId) (r o n q : Nat) (H : Heap) (K : AV → Prop) : cvtX P s d (.slc r o n q) H K = (isByt P s ∧ P.underlying d = some .string ∧ q = 1 ∧ cvtR H[r]? o n K) := .trans rfl rfl
@[simp] theorem cvtR_blk (b : Bool) (e : TypeId) (c : List AV) (o n : Nat) (K : AV → Prop) : cvtR (some (.blk b false e c)) o n K = cvtN (numsA ((c.drop o).take n)) n K := .trans rfl rfl
@[simp] theorem cvtN_some (l : List Int) (n : Nat) (K : AV → Prop) : cvtN (some l) n K = (l.length = n ∧ K (.str (strOfNums l))) := .trans rfl rfl
@[congr] theorem cvtG_congr {s d : TypeId} {a a' : AV} {K : AV → Prop} (h : a = a') : cvtG P s d a K = cvtG P s d a' K := by rw [h]
def cvtK (u : Option TypeDesc) (s : Option TypeDesc) (a : AV) (K : AV → Prop) : Prop := match u, a with
  | some (.int k), .int _ n => K (.int k (k.wrap n))
  | some (.float k), .int _ n => K (.flt k (fint k n))
  | some (.int k), .flt s x => optG (floatToIntVal s x k) fun n => K (.int k n)
  | some (.float k), .flt s x => optG (fcvt s k x) fun c => K (.flt k c)
  | some .string, .str x => s = some .string ∧ K (.str x)
  | _, _ => False
@[congr] theorem cvtK_congr {u u' s s' : Option TypeDesc} {a a' : AV} {K : AV → Prop} (h : u = u') (h1 : s = s') (h2 : a = a') : cvtK u s a K = cvtK u' s' a' K := by rw [h, h1, h2]
@[simp] theorem cvtG_eq (s d : TypeId) (a : AV) (K : AV → Prop) : cvtG P s d a K = ((P.underlying s).isSome = true ∧ cvtK (P.underlying d) (P.underlying s) a K) := by
  unfold cvtG cvtK
  congr 1
  cases P.underlying d with
  | none => rfl
  | some u => cases u <;> cases a <;> first | rfl | exact optG_ex _ _
def cloG (P : Program) (f : AV) (args : List AV) (H : Heap) (K : AV → Heap → Prop) : Prop := match f with
  | .clo g first caps => callG P g (first ++ args ++ caps) H K
  | _ => False
@[congr] theorem cloG_congr {f f' : AV} {avs avs' : List AV} {H H' : Heap} {K : AV → Heap → Prop} (h0 : f = f') (h1 : avs = avs') (h2 : H = H') : cloG P f avs H K = cloG P f' avs' H' K := by rw [h0, h1, h2]
@[congr] theorem callG_congr {f : FuncId} {avs avs' : List AV} {H H' : Heap} {K : AV → Heap → Prop} (h1 : avs = avs') (h2 : H = H') : callG P f avs H K = callG P f avs' H' K := by rw [h1, h2]
@[congr] theorem lenG_congr {t : TypeId} {a a' : AV} {K : AV → Prop} (h : a = a') : lenG P t a K = lenG P t a' K := by rw [h]
@[congr] theorem mxG_congr {m : Bool} {a a' b b' : AV} {K : AV → Prop} (h : a = a') (h2 : b = b') : mxG m a b K = mxG m a' b' K := by rw [h, h2]
@[congr] theorem appendG_congr {t : TypeId} {a a' b b' : AV} {H H' : Heap} {K : AV → Heap → Prop} (h : a = a') (h2 : b = b') (h3 : H = H') : appendG P t a b H K = appendG P t a' b' H' K := by rw [h, h2, h3]
@[congr] theorem newsG_congr {sz : Nat} {b b' : AV} {H H' : Heap} {K : List AV → Nat → Prop} (h3 : H = H') (h2 : b = b') : newsG H sz b K = newsG H' sz b' K := by rw [h2, h3]
@[congr] theorem loadG_congr {t : TypeId} {a a' : AV} {H H' : Heap} {K : AV → Prop} (h : a = a') (h2 : H = H') : loadG P t a H K = loadG P t a' H' K := by rw [h, h2]
@[congr] theorem storeG_congr {t : TypeId} {a a' x x' : AV} {H H' : Heap} {K : AV → Heap → Prop} (h : a = a') (h1 : x = x') (h2 : H = H') : storeG P t a x H K = storeG P t a' x' H' K := by rw [h, h1, h2]
@[congr] theorem allocG_congr {e : TypeId} {H H' : Heap} {K : AV → Heap → Prop} (h2 : H = H') : allocG P e H K = allocG P e H' K := by rw [h2]
@[congr] theorem boxG_congr {e : TypeId} {x x' : AV} {H H' : Heap} {K : AV → Heap → Prop} (h1 : x = x') (h2 : H = H') : boxG e x H K = boxG e x' H' K := by rw [h1, h2]
@[congr] theorem buildG_congr {t : TypeId} {x x' : List (Nat × AV)} {K : AV → Prop} (h1 : x = x') : buildG P t x K = buildG P t x' K := by rw [h1]
@[congr] theorem buildSliceG_congr {t : TypeId} {n : Nat} {x x' : List (Nat × AV)} {H H' : Heap} {K : AV → Heap → Prop} (h1 : x = x') (h2 : H = H') : buildSliceG P t n x H K = buildSliceG P t n x' H' K := by rw [h1, h2]
@[congr] theorem makeSliceG_congr {t : TypeId} {x x' y y' : AV} {H H' : Heap} {K : AV → Heap → Prop} (h : x = x') (h1 : y = y') (h2 : H = H') : makeSliceG P t x y H K = makeSliceG P t x' y' H' K := by rw [h, h1, h2]
@[congr] theorem fieldAddrG_congr {t : TypeId} {x x' : AV} {f : Nat} {K : AV → Prop} (h : x = x') : fieldAddrG P t x f K = fieldAddrG P t x' f K := by rw [h]
@[congr] theorem indexAddrG_congr {t : TypeId} {x x' y y' : AV} {K : AV → Prop} (h : x = x') (h1 : y = y') : indexAddrG P t x y K = indexAddrG P t x' y' K := by rw [h, h1]
@[congr] theorem partG_congr {t : TypeId} {l l' : List AV} {off off' : Nat} {K : AV → Prop} (h : l = l') (h1 : off = off') : partG P t l off K = partG P t l' off' K := by rw [h, h1]
@[congr] theorem fieldG_congr {t : TypeId} {x x' : AV} {f : Nat} {K : AV → Prop} (h : x = x') : fieldG P t x f K = fieldG P t x' f K := by rw [h]
@[congr] theorem indexG_congr {t : TypeId} {x x' y y' : AV} {K : AV → Prop} (h : x = x') (h1 : y = y') : indexG P t x y K = indexG P t x' y' K := by rw [h, h1]
@[congr] theorem extractG_congr {x x' : AV} {f : Nat} {K : AV → Prop} (h : x = x') : extractG x f K = extractG x' f K := by rw [h]
@[congr] theorem sliceG_congr {t : TypeId} {x x' : AV} {lo lo' hi hi' : Option AV} {K : AV → Prop} (h : x = x') (h1 : lo = lo') (h2 : hi = hi') : sliceG P t x lo hi K = sliceG P t x' lo' hi' K := by rw [h, h1, h2]

-- operations
@[simp ↓] theorem opG_move (x : Operand) (ρ : Operand → AV) (H : Heap) (K : AV → Heap → Prop) : opG P (.move x) ρ H K = (K (ρ x) H) := .trans rfl rfl
@[simp ↓] theorem detOp_move (x : Operand) : detOp (.move x) = (true) := .trans rfl rfl
@[simp ↓] theorem opG_assign (x : Operand) (ρ : Operand → AV) (H : Heap) (K : AV → Heap → Prop) : opG P (.assign x) ρ H K = (K (ρ x) H) := .trans rfl rfl
@[simp ↓] theorem detOp_assign (x : Operand) : detOp (.assign x) = (true) := .trans rfl rfl
@[simp ↓] theorem opG_pick (c a b : Operand) (ρ : Operand → AV) (H : Heap) (K : AV → Heap → Prop) : opG P (.pick c a b) ρ H K = (pickG (ρ c) (ρ a) (ρ b) (atH K H)) := .trans rfl rfl
@[simp ↓] theorem detOp_pick (c a b : Operand) : detOp (.pick c a b) = (true) := .trans rfl rfl
@[simp ↓] theorem opG_alloc (e : TypeId) (ρ : Operand → AV) (H : Heap) (K : AV → Heap → Prop) : opG P (.alloc e) ρ H K = (allocG P e H K) := .trans rfl rfl
@[simp ↓] theorem detOp_alloc (e : TypeId) : detOp (.alloc e) = (true) := .trans rfl rfl
@[simp ↓] theorem opG_box (e : TypeId) (x : Operand) (ρ : Operand → AV) (H : Heap) (K : AV → Heap → Prop) : opG P (.box e x) ρ H K = (boxG e (ρ x) H K) := .trans rfl rfl
@[simp ↓] theorem detOp_box (e : TypeId) (x : Operand) : detOp (.box e x) = (true) := .trans rfl rfl
@[simp ↓] theorem opG_build (t : TypeId) (ps : Array (Nat × Operand)) (ρ : Operand → AV) (H : Heap) (K : AV → Heap → Prop) : opG P (.build t ps) ρ H K = (buildG P t (partsA ρ ps) (atH K H)) := .trans rfl rfl
@[simp ↓] theorem detOp_build (t : TypeId) (ps : Array (Nat × Operand)) : detOp (.build t ps) = (true) := .trans rfl rfl
@[simp ↓] theorem opG_buildSlice (t : TypeId) (n : Nat) (ps : Array (Nat × Operand)) (ρ : Operand → AV) (H : Heap) (K : AV → Heap → Prop) : opG P (.buildSlice t n ps) ρ H K = (buildSliceG P t n (partsA ρ ps) H K) := .trans rfl rfl
@[simp ↓] theorem detOp_buildSlice (t : TypeId) (n : Nat) (ps : Array (Nat × Operand)) : detOp (.buildSlice t n ps) = (false) := .trans rfl rfl
@[simp] theorem valOp_buildSlice (t : TypeId) (n : Nat) (ps : Array (Nat × Operand)) : valOp (.buildSlice t n ps) = false := .trans rfl rfl
@[simp] theorem apOf_buildSlice (t : TypeId) (n : Nat) (ps : Array (Nat × Operand)) : apOf (.buildSlice t n ps) = none := .trans rfl rfl
@[simp] theorem bsOf_buildSlice (t : TypeId) (n : Nat) (ps : Array (Nat × Operand)) : bsOf (.buildSlice t n ps) = some (t, n, ps) := .trans rfl rfl
@[congr] theorem bsC_congr {t : TypeId} {n : Nat} {x x' : List (Nat × AV)} {H H' : Heap} {K : AV → List (Nat × Root) → List Root → Prop} (h1 : x = x') (h2 : H = H') : bsC P t n x H K = bsC P t n x' H' K := by rw [h1, h2]
@[simp ↓] theorem opG_load (t : TypeId) (a : Operand) (ρ : Operand → AV) (H : Heap) (K : AV → Heap → Prop) : opG P (.load t a) ρ H K = (loadG P t (ρ a) H (atH K H)) := .trans rfl rfl
@[simp ↓] theorem detOp_load (t : TypeId) (a : Operand) : detOp (.load t a) = (true) := .trans rfl rfl
@[simp ↓] theorem opG_store (t : TypeId) (a x : Operand) (ρ : Operand → AV) (H : Heap) (K : AV → Heap → Prop) : opG P (.store t a x) ρ H K = (storeG P t (ρ a) (ρ x) H K) := .trans rfl rfl
@[simp ↓] theorem detOp_store (t : TypeId) (a x : Operand) : detOp (.store t a x) = (true) := .trans rfl rfl
@[simp ↓] theorem opG_nilCheck (x : Operand) (ρ : Operand → AV) (H : Heap) (K : AV → Heap → Prop) : opG P (.nilCheck x) ρ H K = (nilG (ρ x) (atH K H)) := .trans rfl rfl
@[simp ↓] theorem detOp_nilCheck (x : Operand) : detOp (.nilCheck x) = (true) := .trans rfl rfl
@[simp ↓] theorem opG_binOp (op : BinOp) (t yt : TypeId) (x : Operand) (y : Nat) (ρ : Operand → AV) (H : Heap) (K : AV → Heap → Prop) : opG P (.binOp op t x (.tmp y) yt) ρ H K = (binG P op t (ρ x) (ρ (.tmp y)) (atH K H)) := .trans rfl rfl
@[simp ↓] theorem opG_binOpI (op : BinOp) (t yt : TypeId) (x : Operand) (k : IntKind) (n : Int) (ρ : Operand → AV) (H : Heap) (K : AV → Heap → Prop) : opG P (.binOp op t x (.const (.int k n)) yt) ρ H K = (binG P op t (ρ x) (ρ (.const (.int k n))) (atH K H)) := .trans rfl rfl
@[simp ↓] theorem opG_binOpF (op : BinOp) (t yt : TypeId) (x : Operand) (k : FloatKind) (n : Nat) (ρ : Operand → AV) (H : Heap) (K : AV → Heap → Prop) : opG P (.binOp op t x (.const (.float k n)) yt) ρ H K = (binG P op t (ρ x) (ρ (.const (.float k n))) (atH K H)) := .trans rfl rfl
@[simp ↓] theorem opG_binOpB (op : BinOp) (t yt : TypeId) (x : Operand) (b : Bool) (ρ : Operand → AV) (H : Heap) (K : AV → Heap → Prop) : opG P (.binOp op t x (.const (.bool b)) yt) ρ H K = (binG P op t (ρ x) (ρ (.const (.bool b))) (atH K H)) := .trans rfl rfl
@[simp ↓] theorem opG_binOpS (op : BinOp) (t yt : TypeId) (x : Operand) (s : ByteArray) (ρ : Operand → AV) (H : Heap) (K : AV → Heap → Prop) : opG P (.binOp op t x (.const (.string s)) yt) ρ H K = (binG P op t (ρ x) (ρ (.const (.string s))) (atH K H)) := .trans rfl rfl
@[simp ↓] theorem opG_binOpA (op : BinOp) (t yt : TypeId) (x : Operand) (s : Array Value) (ρ : Operand → AV) (H : Heap) (K : AV → Heap → Prop) : opG P (.binOp op t x (.const (.agg s)) yt) ρ H K = (binG P op t (ρ x) (ρ (.const (.agg s))) (atH K H)) := .trans rfl rfl
@[simp ↓] theorem opG_binOpN (op : BinOp) (t yt : TypeId) (x : Operand) (ρ : Operand → AV) (H : Heap) (K : AV → Heap → Prop) : opG P (.binOp op t x (.const .nilIface) yt) ρ H K = (ifcG P op t (ρ x) (ρ (.const .nilIface)) (atH K H)) := .trans rfl rfl
@[congr] theorem ifcG_congr {op : BinOp} {t : TypeId} {a a' b b' : AV} {K : AV → Prop} (h1 : a = a') (h2 : b = b') : ifcG P op t a b K = ifcG P op t a' b' K := by rw [h1, h2]
@[simp] theorem ifcG_eql (t : TypeId) (z : Bool) (K : AV → Prop) (h : isIfc P t = true) : ifcG P .eql t (.ifc z) (.ifc true) K = K (.bool z) := by simp [ifcG, h]
@[simp] theorem ifcG_neq (t : TypeId) (z : Bool) (K : AV → Prop) (h : isIfc P t = true) : ifcG P .neq t (.ifc z) (.ifc true) K = K (.bool (!z)) := by simp [ifcG, h]
@[simp] theorem binA_eql (t : TypeId) (a b c a' b' c' : Nat) (K : AV → Prop) (h : EqTy P t) : binG P .eql t (.agg [.flt .f32 a, .flt .f32 b, .flt .f32 c]) (.agg [.flt .f32 a', .flt .f32 b', .flt .f32 c']) K = K (.bool (ford .f32 a a' == some .eq && (ford .f32 b b' == some .eq && ford .f32 c c' == some .eq))) := by simp [binG, binA, h]
@[simp] theorem binA_neq (t : TypeId) (a b c a' b' c' : Nat) (K : AV → Prop) (h : EqTy P t) : binG P .neq t (.agg [.flt .f32 a, .flt .f32 b, .flt .f32 c]) (.agg [.flt .f32 a', .flt .f32 b', .flt .f32 c']) K = K (.bool (!(ford .f32 a a' == some .eq && (ford .f32 b b' == some .eq && ford .f32 c c' == some .eq)))) := by simp [binG, binA, h]
@[simp ↓] theorem detOp_binOp (op : BinOp) (t yt : TypeId) (x y : Operand) : detOp (.binOp op t x y yt) = (true) := .trans rfl rfl
@[simp ↓] theorem opG_unOp (op : UnOp) (t : TypeId) (x : Operand) (ρ : Operand → AV) (H : Heap) (K : AV → Heap → Prop) : opG P (.unOp op t x) ρ H K = (unG op (ρ x) (atH K H)) := .trans rfl rfl
@[simp ↓] theorem detOp_unOp (op : UnOp) (t : TypeId) (x : Operand) : detOp (.unOp op t x) = (true) := .trans rfl rfl
@[simp ↓] theorem opG_convert (s d : TypeId) (x : Operand) (ρ : Operand → AV) (H : Heap) (K : AV → Heap → Prop) : opG P (.convert s d x) ρ H K = (cvtX P s d (ρ x) H (atH K H)) := .trans rfl rfl
@[simp ↓] theorem detOp_convert (s d : TypeId) (x : Operand) : detOp (.convert s d x) = (true) := .trans rfl rfl
@[simp ↓] theorem opG_makeSlice (t : TypeId) (l c : Operand) (ρ : Operand → AV) (H : Heap) (K : AV → Heap → Prop) : opG P (.makeSlice t l c) ρ H K = (makeSliceG P t (ρ l) (ρ c) H K) := .trans rfl rfl
@[simp ↓] theorem detOp_makeSlice (t : TypeId) (l c : Operand) : detOp (.makeSlice t l c) = (true) := .trans rfl rfl
@[simp ↓] theorem opG_slice (t : TypeId) (x : Operand) (lo hi : Option Operand) (ρ : Operand → AV) (H : Heap) (K : AV → Heap → Prop) : opG P (.slice t x lo hi none) ρ H K = (sliceG P t (ρ x) (lo.map ρ) (hi.map ρ) (atH K H)) := .trans rfl rfl
@[simp ↓] theorem detOp_slice (t : TypeId) (x : Operand) (lo hi : Option Operand) : detOp (.slice t x lo hi none) = (true) := .trans rfl rfl
@[simp ↓] theorem opG_fieldAddr (s : TypeId) (x : Operand) (f : Nat) (ρ : Operand → AV) (H : Heap) (K : AV → Heap → Prop) : opG P (.fieldAddr s x f) ρ H K = (fieldAddrG P s (ρ x) f (atH K H)) := .trans rfl rfl
@[simp ↓] theorem detOp_fieldAddr (s : TypeId) (x : Operand) (f : Nat) : detOp (.fieldAddr s x f) = (true) := .trans rfl rfl
@[simp ↓] theorem opG_field (t : TypeId) (x : Operand) (f : Nat) (ρ : Operand → AV) (H : Heap) (K : AV → Heap → Prop) : opG P (.field t x f) ρ H K = (fieldG P t (ρ x) f (atH K H)) := .trans rfl rfl
@[simp ↓] theorem detOp_field (t : TypeId) (x : Operand) (f : Nat) : detOp (.field t x f) = (true) := .trans rfl rfl
@[simp ↓] theorem opG_indexAddr (t : TypeId) (x i : Operand) (ρ : Operand → AV) (H : Heap) (K : AV → Heap → Prop) : opG P (.indexAddr t x i) ρ H K = (indexAddrG P t (ρ x) (ρ i) (atH K H)) := .trans rfl rfl
@[simp ↓] theorem detOp_indexAddr (t : TypeId) (x i : Operand) : detOp (.indexAddr t x i) = (true) := .trans rfl rfl
@[simp ↓] theorem opG_index (t : TypeId) (x i : Operand) (ρ : Operand → AV) (H : Heap) (K : AV → Heap → Prop) : opG P (.index t x i) ρ H K = (indexG P t (ρ x) (ρ i) (atH K H)) := .trans rfl rfl
@[simp ↓] theorem detOp_index (t : TypeId) (x i : Operand) : detOp (.index t x i) = (true) := .trans rfl rfl
@[simp ↓] theorem opG_extract (x : Operand) (i : Nat) (ρ : Operand → AV) (H : Heap) (K : AV → Heap → Prop) : opG P (.extract x i) ρ H K = (extractG (ρ x) i (atH K H)) := .trans rfl rfl
@[simp ↓] theorem detOp_extract (x : Operand) (i : Nat) : detOp (.extract x i) = (true) := .trans rfl rfl
@[simp ↓] theorem opG_makeFunc (f : FuncId) (a b : Array Operand) (ρ : Operand → AV) (H : Heap) (K : AV → Heap → Prop) : opG P (.makeFunc (.func f) a b) ρ H K = (K (.clo f (a.toList.map ρ) (b.toList.map ρ)) H) := .trans rfl rfl
@[simp ↓] theorem detOp_makeFunc (f : FuncId) (a b : Array Operand) : detOp (.makeFunc (.func f) a b) = (true) := .trans rfl rfl
@[simp ↓] theorem opG_call (c : Call) (ρ : Operand → AV) (H : Heap) (K : AV → Heap → Prop) : opG P (.call c) ρ H K = (callOpG P c ρ H K) := .trans rfl rfl
@[simp] theorem binI_add (t : TypeId) (k k' : IntKind) (x y : Int) (K : AV → Prop) : binG P .add t (.int k x) (.int k' y) K = (k = k' ∧ K (.int k (k.wrap (x + y)))) := .trans rfl rfl
@[simp] theorem binI_sub (t : TypeId) (k k' : IntKind) (x y : Int) (K : AV → Prop) : binG P .sub t (.int k x) (.int k' y) K = (k = k' ∧ K (.int k (k.wrap (x - y)))) := .trans rfl rfl
@[simp] theorem binI_mul (t : TypeId) (k k' : IntKind) (x y : Int) (K : AV → Prop) : binG P .mul t (.int k x) (.int k' y) K = (k = k' ∧ K (.int k (k.wrap (x * y)))) := .trans rfl rfl
@[simp] theorem binI_quo (t : TypeId) (k k' : IntKind) (x y : Int) (K : AV → Prop) : binG P .quo t (.int k x) (.int k' y) K = (k = k' ∧ y ≠ 0 ∧ K (.int k (k.wrap (x.tdiv y)))) := .trans rfl rfl
@[simp] theorem binI_rem (t : TypeId) (k k' : IntKind) (x y : Int) (K : AV → Prop) : binG P .rem t (.int k x) (.int k' y) K = (k = k' ∧ y ≠ 0 ∧ K (.int k (x.tmod y))) := .trans rfl rfl
@[simp] theorem binI_and (t : TypeId) (k k' : IntKind) (x y : Int) (K : AV → Prop) : binG P .and t (.int k x) (.int k' y) K = (k = k' ∧ K (.int k (bitsV .and k x y))) := .trans rfl rfl
@[simp] theorem binI_or (t : TypeId) (k k' : IntKind) (x y : Int) (K : AV → Prop) : binG P .or t (.int k x) (.int k' y) K = (k = k' ∧ K (.int k (bitsV .or k x y))) := .trans rfl rfl
@[simp] theorem binI_xor (t : TypeId) (k k' : IntKind) (x y : Int) (K : AV → Prop) : binG P .xor t (.int k x) (.int k' y) K = (k = k' ∧ K (.int k (bitsV .xor k x y))) := .trans rfl rfl
@[simp] theorem binI_andNot (t : TypeId) (k k' : IntKind) (x y : Int) (K : AV → Prop) : binG P .andNot t (.int k x) (.int k' y) K = (k = k' ∧ K (.int k (bitsV .andNot k x y))) := .trans rfl rfl
@[simp] theorem binI_eql (t : TypeId) (k k' : IntKind) (x y : Int) (K : AV → Prop) : binG P .eql t (.int k x) (.int k' y) K = (k = k' ∧ K (.bool (x == y))) := .trans rfl rfl
@[simp] theorem binI_neq (t : TypeId) (k k' : IntKind) (x y : Int) (K : AV → Prop) : binG P .neq t (.int k x) (.int k' y) K = (k = k' ∧ K (.bool (x != y))) := .trans rfl rfl
@[simp] theorem binI_lss (t : TypeId) (k k' : IntKind) (x y : Int) (K : AV → Prop) : binG P .lss t (.int k x) (.int k' y) K = (k = k' ∧ K (.bool (decide (x < y)))) := .trans rfl rfl
@[simp] theorem binI_leq (t : TypeId) (k k' : IntKind) (x y : Int) (K : AV → Prop) : binG P .leq t (.int k x) (.int k' y) K = (k = k' ∧ K (.bool (decide (x ≤ y)))) := .trans rfl rfl
@[simp] theorem binI_gtr (t : TypeId) (k k' : IntKind) (x y : Int) (K : AV → Prop) : binG P .gtr t (.int k x) (.int k' y) K = (k = k' ∧ K (.bool (decide (x > y)))) := .trans rfl rfl
@[simp] theorem binI_geq (t : TypeId) (k k' : IntKind) (x y : Int) (K : AV → Prop) : binG P .geq t (.int k x) (.int k' y) K = (k = k' ∧ K (.bool (decide (x ≥ y)))) := .trans rfl rfl
@[simp] theorem binI_shl (t : TypeId) (k k' : IntKind) (x y : Int) (K : AV → Prop) : binG P .shl t (.int k x) (.int k' y) K = (0 ≤ y ∧ K (.int k (k.wrap (x * 2 ^ (min y.toNat k.bits))))) := .trans rfl rfl
@[simp] theorem binI_shr (t : TypeId) (k k' : IntKind) (x y : Int) (K : AV → Prop) : binG P .shr t (.int k x) (.int k' y) K = (0 ≤ y ∧ K (.int k (x.fdiv (2 ^ (min y.toNat k.bits))))) := .trans rfl rfl
@[simp] theorem binF_add (t : TypeId) (k k' : FloatKind) (x y : Nat) (K : AV → Prop) : binG P .add t (.flt k x) (.flt k' y) K = (k = k' ∧ K (.flt k (fop .add k x y))) := .trans rfl rfl
@[simp] theorem binF_sub (t : TypeId) (k k' : FloatKind) (x y : Nat) (K : AV → Prop) : binG P .sub t (.flt k x) (.flt k' y) K = (k = k' ∧ K (.flt k (fop .sub k x y))) := .trans rfl rfl
@[simp] theorem binF_mul (t : TypeId) (k k' : FloatKind) (x y : Nat) (K : AV → Prop) : binG P .mul t (.flt k x) (.flt k' y) K = (k = k' ∧ K (.flt k (fop .mul k x y))) := .trans rfl rfl
@[simp] theorem binF_quo (t : TypeId) (k k' : FloatKind) (x y : Nat) (K : AV → Prop) : binG P .quo t (.flt k x) (.flt k' y) K = (k = k' ∧ K (.flt k (fop .quo k x y))) := .trans rfl rfl
@[simp] theorem binF_eql (t : TypeId) (k k' : FloatKind) (x y : Nat) (K : AV → Prop) : binG P .eql t (.flt k x) (.flt k' y) K = (k = k' ∧ K (.bool (ford k x y == some .eq))) := .trans rfl rfl
@[simp] theorem binF_neq (t : TypeId) (k k' : FloatKind) (x y : Nat) (K : AV → Prop) : binG P .neq t (.flt k x) (.flt k' y) K = (k = k' ∧ K (.bool (ford k x y != some .eq))) := .trans rfl rfl
@[simp] theorem binF_lss (t : TypeId) (k k' : FloatKind) (x y : Nat) (K : AV → Prop) : binG P .lss t (.flt k x) (.flt k' y) K = (k = k' ∧ K (.bool (ford k x y == some .lt))) := .trans rfl rfl
@[simp] theorem binF_leq (t : TypeId) (k k' : FloatKind) (x y : Nat) (K : AV → Prop) : binG P .leq t (.flt k x) (.flt k' y) K = (k = k' ∧ K (.bool (ford k x y == some .lt || ford k x y == some .eq))) := .trans rfl rfl
@[simp] theorem binF_gtr (t : TypeId) (k k' : FloatKind) (x y : Nat) (K : AV → Prop) : binG P .gtr t (.flt k x) (.flt k' y) K = (k = k' ∧ K (.bool (ford k x y == some .gt))) := .trans rfl rfl
@[simp] theorem binF_geq (t : TypeId) (k k' : FloatKind) (x y : Nat) (K : AV → Prop) : binG P .geq t (.flt k x) (.flt k' y) K = (k = k' ∧ K (.bool (ford k x y == some .gt || ford k x y == some .eq))) := .trans rfl rfl
@[simp] theorem binS_add (t : TypeId) (x y : ByteArray) (K : AV → Prop) : binG P .add t (.str x) (.str y) K = (x.size + y.size ≤ 9223372036854775807 ∧ K (.str (x ++ y))) := .trans rfl rfl
@[simp] theorem binS_eql (t : TypeId) (x y : ByteArray) (K : AV → Prop) : binG P .eql t (.str x) (.str y) K = (K (.bool (x.toList == y.toList))) := .trans rfl rfl
@[simp] theorem binS_neq (t : TypeId) (x y : ByteArray) (K : AV → Prop) : binG P .neq t (.str x) (.str y) K = (K (.bool (!(x.toList == y.toList)))) := .trans rfl rfl
@[simp] theorem binS_lss (t : TypeId) (x y : ByteArray) (K : AV → Prop) : binG P .lss t (.str x) (.str y) K = (K (.bool (Op.bytesLess x.toList y.toList))) := .trans rfl rfl
@[simp] theorem binS_leq (t : TypeId) (x y : ByteArray) (K : AV → Prop) : binG P .leq t (.str x) (.str y) K = (K (.bool (Op.bytesLess x.toList y.toList || x.toList == y.toList))) := .trans rfl rfl
@[simp] theorem binS_gtr (t : TypeId) (x y : ByteArray) (K : AV → Prop) : binG P .gtr t (.str x) (.str y) K = (K (.bool (!(Op.bytesLess x.toList y.toList || x.toList == y.toList)))) := .trans rfl rfl
@[simp] theorem binS_geq (t : TypeId) (x y : ByteArray) (K : AV → Prop) : binG P .geq t (.str x) (.str y) K = (K (.bool (!(Op.bytesLess x.toList y.toList)))) := .trans rfl rfl
@[simp] theorem binB_eql (t : TypeId) (x y : Bool) (K : AV → Prop) : binG P .eql t (.bool x) (.bool y) K = (P.underlying t = some .bool ∧ K (.bool (x == y))) := .trans rfl rfl
@[simp] theorem binB_neq (t : TypeId) (x y : Bool) (K : AV → Prop) : binG P .neq t (.bool x) (.bool y) K = (P.underlying t = some .bool ∧ K (.bool (!(x == y)))) := .trans rfl rfl
@[simp] theorem unG_neg (k : IntKind) (n : Int) (K : AV → Prop) : unG .neg (.int k n) K = (K (.int k (k.wrap (0 - n)))) := .trans rfl rfl
@[simp] theorem unG_not (b : Bool) (K : AV → Prop) : unG .not (.bool b) K = (K (.bool (!b))) := .trans rfl rfl
@[simp] theorem unG_fneg (k : FloatKind) (x : Nat) (K : AV → Prop) : unG .neg (.flt k x) K = (K (.flt k (fneg k x))) := .trans rfl rfl
@[simp] theorem unG_xor (k : IntKind) (n : Int) (K : AV → Prop) : unG .xor (.int k n) K = (K (.int k (bitsV .xor k (if k.signed then -1 else k.max) n))) := .trans rfl rfl
@[simp] theorem nilG_ptr (r off : Nat) (K : AV → Prop) : nilG (.ptr r off) K = (K (.ptr r off)) := .trans rfl rfl
@[simp] theorem nilG_vptr (n : Bool) (c : List AV) (K : AV → Prop) : nilG (.vptr n c) K = (K (.vptr n c)) := .trans rfl rfl
@[simp] theorem nilG_clo (f : FuncId) (a b : List AV) (K : AV → Prop) : nilG (.clo f a b) K = (K (.clo f a b)) := .trans rfl rfl
@[simp] theorem cvtK_ii (k k' : IntKind) (n : Int) (s : Option TypeDesc) (K : AV → Prop) : cvtK (some (.int k)) s (.int k' n) K = (K (.int k (k.wrap n))) := .trans rfl rfl
@[simp] theorem cvtK_if (k : FloatKind) (k' : IntKind) (n : Int) (s : Option TypeDesc) (K : AV → Prop) : cvtK (some (.float k)) s (.int k' n) K = (K (.flt k (fint k n))) := .trans rfl rfl
@[simp] theorem cvtK_fi (k : IntKind) (k' : FloatKind) (x : Nat) (s : Option TypeDesc) (K : AV → Prop) : cvtK (some (.int k)) s (.flt k' x) K = (optG (floatToIntVal k' x k) fun n => K (.int k n)) := .trans rfl rfl
@[simp] theorem cvtK_ff (k k' : FloatKind) (x : Nat) (s : Option TypeDesc) (K : AV → Prop) : cvtK (some (.float k)) s (.flt k' x) K = (optG (fcvt k' k x) fun c => K (.flt k c)) := .trans rfl rfl
@[simp] theorem cvtK_ss (x : ByteArray) (s : Option TypeDesc) (K : AV → Prop) : cvtK (some .string) s (.str x) K = (s = some .string ∧ K (.str x)) := .trans rfl rfl
@[simp ↓] theorem callOpG_value (f : Operand) (args : Array Operand) (ts : Array TypeId) (ρ : Operand → AV) (H : Heap) (K : AV → Heap → Prop) : callOpG P { callee := .value f, args := args, argTypes := ts } ρ H K = (cloG P (ρ f) (args.toList.map ρ) H K) := .trans rfl rfl
@[simp] theorem cloG_clo (g : FuncId) (a b l : List AV) (H : Heap) (K : AV → Heap → Prop) : cloG P (.clo g a b) l H K = @callS P g (a ++ l ++ b) H ⟨K⟩ trivial := .trans rfl rfl
def cloX (P : Program) (f : AV) (args : List AV) (H : Heap) (K : AV → List (Nat × Root) → List Root → Prop) : Prop := match f with
  | .clo g first caps => @callD P g (first ++ args ++ caps) H ⟨K⟩ trivial
  | _ => False
@[congr] theorem cloX_congr {f f' : AV} {avs avs' : List AV} {H H' : Heap} {K : AV → List (Nat × Root) → List Root → Prop} (h0 : f = f') (h1 : avs = avs') (h2 : H = H') : cloX P f avs H K = cloX P f' avs' H' K := by rw [h0, h1, h2]
@[simp ↓] theorem callV_value (f : Operand) (args : Array Operand) (ts : Array TypeId) (ρ : Operand → AV) (H : Heap) (K : AV → List (Nat × Root) → List Root → Prop) : callV P (.call { callee := .value f, args := args, argTypes := ts }) ρ H K = cloX P (ρ f) (args.toList.map ρ) H K := by
  unfold callV cloX callD
  simp only [opG, callOpG]
  generalize ρ f = v
  cases v <;> simp
@[simp] theorem cloX_clo (g : FuncId) (a b l : List AV) (H : Heap) (K : AV → List (Nat × Root) → List Root → Prop) : cloX P (.clo g a b) l H K = @callD P g (a ++ l ++ b) H ⟨K⟩ trivial := .trans rfl rfl
@[simp ↓] theorem callOpG_builtin (f : Builtin) (args : Array Operand) (ts : Array TypeId) (ρ : Operand → AV) (H : Heap) (K : AV → Heap → Prop) : callOpG P { callee := .builtin f, args := args, argTypes := ts } ρ H K = (builtinG P f ts (args.toList.map ρ) H K) := .trans rfl rfl
@[simp ↓] theorem builtinG_len (t : TypeId) (x : AV) (H : Heap) (K : AV → Heap → Prop) : builtinG P .len #[t] [x] H K = (lenG P t x (atH K H)) := .trans rfl rfl
@[simp ↓] theorem builtinG_append (t t' : TypeId) (s x : AV) (H : Heap) (K : AV → Heap → Prop) : builtinG P .append #[t, t'] [s, x] H K = (t' = t ∧ appendG P t s x H K) := .trans rfl rfl
@[simp ↓] theorem builtinG_max (t t' : TypeId) (s x : AV) (H : Heap) (K : AV → Heap → Prop) : builtinG P .max #[t, t'] [s, x] H K = (mxG true s x (atH K H)) := .trans rfl rfl
@[simp ↓] theorem builtinG_min (t t' : TypeId) (s x : AV) (H : Heap) (K : AV → Heap → Prop) : builtinG P .min #[t, t'] [s, x] H K = (mxG false s x (atH K H)) := .trans rfl rfl
@[simp ↓] theorem detOp_value (f : Operand) (args : Array Operand) (ts : Array TypeId) : detOp (.call { callee := .value f, args := args, argTypes := ts }) = (false) := .trans rfl rfl
@[simp ↓] theorem detOp_len (args : Array Operand) (ts : Array TypeId) : detOp (.call { callee := .builtin .len, args := args, argTypes := ts }) = (true) := .trans rfl rfl
@[simp ↓] theorem detOp_max (args : Array Operand) (ts : Array TypeId) : detOp (.call { callee := .builtin .max, args := args, argTypes := ts }) = (true) := .trans rfl rfl
@[simp ↓] theorem detOp_min (args : Array Operand) (ts : Array TypeId) : detOp (.call { callee := .builtin .min, args := args, argTypes := ts }) = (true) := .trans rfl rfl
@[simp] theorem mxG_int (m : Bool) (k k' : IntKind) (x y : Int) (K : AV → Prop) : mxG m (.int k x) (.int k' y) K = (K (if m then mxI k x y else mnI k x y)) := .trans rfl rfl
@[simp] theorem mxG_flt (m : Bool) (k k' : FloatKind) (x y : Nat) (K : AV → Prop) : mxG m (.flt k x) (.flt k' y) K = (k = k' ∧ K (.flt k (if m then fmax k x y else fmin k x y))) := .trans rfl rfl
@[simp] theorem cellsOf_int (k : IntKind) (n : Int) : AV.cellsOf (.int k n) = (some [.int k n]) := .trans rfl rfl
@[simp] theorem isPure_int (k : IntKind) (n : Int) : AV.isPure (.int k n) = (true) := .trans rfl rfl
@[simp] theorem flat_int (k : IntKind) (n : Int) : AV.flat (.int k n) = (true) := .trans rfl rfl
@[simp] theorem cellsOf_bool (b : Bool) : AV.cellsOf (.bool b) = (some [.bool b]) := .trans rfl rfl
@[simp] theorem isPure_bool (b : Bool) : AV.isPure (.bool b) = (true) := .trans rfl rfl
@[simp] theorem flat_bool (b : Bool) : AV.flat (.bool b) = (true) := .trans rfl rfl
@[simp] theorem cellsOf_flt (k : FloatKind) (x : Nat) : AV.cellsOf (.flt k x) = (some [.flt k x]) := .trans rfl rfl
@[simp] theorem isPure_flt (k : FloatKind) (x : Nat) : AV.isPure (.flt k x) = (true) := .trans rfl rfl
@[simp] theorem flat_flt (k : FloatKind) (x : Nat) : AV.flat (.flt k x) = (true) := .trans rfl rfl
@[simp] theorem cellsOf_str (s : ByteArray) : AV.cellsOf (.str s) = (some [.str s]) := .trans rfl rfl
@[simp] theorem cellsOf_ifc (s : Bool) : AV.cellsOf (.ifc s) = (some [.ifc s]) := .trans rfl rfl
@[simp] theorem isPure_str (s : ByteArray) : AV.isPure (.str s) = (true) := .trans rfl rfl
@[simp] theorem isPure_ifc (s : Bool) : AV.isPure (.ifc s) = (true) := .trans rfl rfl
@[simp] theorem flat_str (s : ByteArray) : AV.flat (.str s) = (true) := .trans rfl rfl
@[simp] theorem flat_ifc (s : Bool) : AV.flat (.ifc s) = (true) := .trans rfl rfl
@[simp] theorem cellsOf_nilp  : AV.cellsOf (.nilp) = (some [.nilp]) := .trans rfl rfl
@[simp] theorem isPure_nilp  : AV.isPure (.nilp) = (true) := .trans rfl rfl
@[simp] theorem cellsOf_ptr (r o : Nat) : AV.cellsOf (.ptr r o) = (some [.ptr r o]) := .trans rfl rfl
@[simp] theorem isPure_ptr (r o : Nat) : AV.isPure (.ptr r o) = (false) := .trans rfl rfl
@[simp] theorem cellsOf_nils  : AV.cellsOf (.nils) = (some [.nils]) := .trans rfl rfl
@[simp] theorem isPure_nils  : AV.isPure (.nils) = (true) := .trans rfl rfl
@[simp] theorem cellsOf_slc (r o n q : Nat) : AV.cellsOf (.slc r o n q) = (some [.slc r o n q]) := .trans rfl rfl
@[simp] theorem isPure_slc (r o n q : Nat) : AV.isPure (.slc r o n q) = (false) := .trans rfl rfl
@[simp] theorem cellsOf_view (b : Bool) (c : List AV) (n : Nat) : AV.cellsOf (.view b c n) = (some [.view b c n]) := .trans rfl rfl
@[simp] theorem isPure_view (b : Bool) (c : List AV) (n : Nat) : AV.isPure (.view b c n) = (true) := .trans rfl rfl
@[simp] theorem cellsOf_vptr (b : Bool) (c : List AV) : AV.cellsOf (.vptr b c) = (some [.vptr b c]) := .trans rfl rfl
@[simp] theorem cellsOf_mp (rr : Nat) : AV.cellsOf (.mp rr) = (some [.mp rr]) := .trans rfl rfl
@[simp] theorem cellsOf_mview (b : Bool) (ee : Nat) (kk : List (List Int)) (c : List AV) : AV.cellsOf (.mview b ee kk c) = (some [.mview b ee kk c]) := .trans rfl rfl
@[simp] theorem isPure_vptr (b : Bool) (c : List AV) : AV.isPure (.vptr b c) = (true) := .trans rfl rfl
@[simp] theorem isPure_mp (rr : Nat) : AV.isPure (.mp rr) = (false) := .trans rfl rfl
@[simp] theorem isPure_mview (b : Bool) (ee : Nat) (kk : List (List Int)) (c : List AV) : AV.isPure (.mview b ee kk c) = (true) := .trans rfl rfl
@[simp] theorem cellsOf_nilf  : AV.cellsOf (.nilf) = (some [.nilf]) := .trans rfl rfl
@[simp] theorem isPure_nilf  : AV.isPure (.nilf) = (true) := .trans rfl rfl
@[simp] theorem cellsOf_agg (l : List AV) : AV.cellsOf (.agg l) = (some l) := .trans rfl rfl
@[simp] theorem isPure_agg (l : List AV) : AV.isPure (.agg l) = (false) := .trans rfl rfl
@[simp] theorem isPure_any  : AV.isPure .any = (true) := .trans rfl rfl
@[simp] theorem isPure_clo (f : FuncId) : AV.isPure (.clo f [] []) = (true) := .trans rfl rfl
@[simp] theorem resOne_one (a : AV) : resOne [a] = (a) := .trans rfl rfl
@[simp] theorem resOne_two (a b : AV) (l : List AV) : resOne (a :: b :: l) = (.tup (a :: b :: l)) := .trans rfl rfl
@[simp] theorem resOne_nil  : resOne [] = (.tup []) := .trans rfl rfl
@[simp] theorem boundA_none (d : Nat) : boundA d none = (some (d : Int)) := .trans rfl rfl
@[simp] theorem boundA_int (d : Nat) (k : IntKind) (i : Int) : boundA d (some (.int k i)) = (some i) := .trans rfl rfl
@[simp] theorem splice_nil (l : List AV) : splice l 0 [] = (l) := by simp [splice]
@[simp] theorem splice_head (a b : AV) (l cs : List AV) : splice (a :: l) 0 (b :: cs) = (b :: splice l 0 cs) := by simp [splice]
@[simp] theorem splice_tail (a : AV) (l cs : List AV) (n : Nat) : splice (a :: l) (n + 1) cs = (a :: splice l n cs) := by simp [splice, Nat.add_right_comm]

attribute [simp] fillL partsA
@[simp] theorem loadL_agg (sz : Nat) (cells : List AV) (off : Nat) : loadL true sz cells off = if off + sz ≤ cells.length then some (.agg ((cells.drop off).take sz)) else none := .trans rfl rfl
@[simp] theorem loadL_one (sz : Nat) (cells : List AV) (off : Nat) : loadL false sz cells off = cells[off]? := .trans rfl rfl
@[simp] theorem loadG_ptr (t : TypeId) (r off : Nat) (H : Heap) (K : AV → Prop) : loadG P t (.ptr r off) H K = optG (aggOf P t) fun ag => optG (szOf P t) fun sz => rootG H[r]? fun cells => optG (loadL ag sz cells off) K := by
  unfold loadG
  cases aggOf P t <;> cases szOf P t <;> simp only [optG]
  split <;> rename_i h
  · simp only [h, rootG]; exact optG_ex _ _
  · cases hr : H[r]? with
    | none => rfl
    | some x => cases x with
      | gone => rfl
      | blk n b e c => exact (h n b e c hr).elim
@[simp] theorem loadG_vptr (t : TypeId) (n : Bool) (cells : List AV) (H : Heap) (K : AV → Prop) : loadG P t (.vptr n cells) H K = optG (aggOf P t) fun ag => optG (szOf P t) fun sz => optG (loadL ag sz cells 0) K := by
  unfold loadG
  cases aggOf P t <;> cases szOf P t <;> simp only [optG]
  exact optG_ex _ _
@[simp] theorem buildG_eq (t : TypeId) (ps : List (Nat × AV)) (K : AV → Prop) : buildG P t ps K = optG (zeroOf P t) fun zs => optG (placesOf P t) fun place => optG (fillL place zs ps) fun out => K (.agg out) := by
  unfold buildG
  cases zeroOf P t <;> cases placesOf P t <;> simp only [optG]
  exact optG_ex _ _
@[simp] theorem buildSliceG_eq (t : TypeId) (n : Nat) (ps : List (Nat × AV)) (H : Heap) (K : AV → Heap → Prop) : buildSliceG P t n ps H K = sliceT (P.underlying t) fun e => optG (szOf P e) fun sz => optG (zeroOf P e) fun zs =>
    n * sz ≤ 16777216 ∧ n ≤ 16777216 ∧ zs.length = sz ∧ optG (fillL (fun i => some (i * sz, sz)) (makeL n zs) (frzL ps H).1) fun out => out.all AV.isPure = true ∧ (if n = 0 then K .nils (frzL ps H).2 else K (.slc (frzL ps H).2.length 0 n sz) ((frzL ps H).2 ++ [.blk true false e out])) := by
  unfold buildSliceG
  cases P.underlying t with
  | none => rfl
  | some u =>
    cases u <;> try rfl
    rename_i e
    simp only [sliceT_eq]
    cases szOf P e <;> cases zeroOf P e <;> try rfl
    simp only [optG_some]
    rw [← optG_ex]
attribute [simp] isRow
@[simp] theorem makeSliceG_int (t : TypeId) (k k' : IntKind) (l c : Int) (H : Heap) (K : AV → Heap → Prop) : makeSliceG P t (.int k l) (.int k' c) H K = sliceT (P.underlying t) fun e => optG (szOf P e) fun sz => optG (bytesOf P e) fun by_ => optG (zeroOf P e) fun zs =>
    0 ≤ l ∧ l ≤ c ∧ (by_ : Int) * c ≤ 281474976710656 ∧ c ≤ 9223372036854775807 ∧ zs.length = sz ∧ zs.all AV.isPure = true ∧ K (.slc H.length 0 l.toNat sz) (H ++ [.blk true (isRow (P.underlying e)) e (makeL c.toNat zs)]) := by
  unfold makeSliceG
  cases P.underlying t with
  | none => rfl
  | some u =>
    cases u <;> try rfl
    rename_i e
    simp only [sliceT_eq]
    cases szOf P e <;> cases bytesOf P e <;> cases zeroOf P e <;> rfl
@[simp] theorem allocG_eq (e : TypeId) (H : Heap) (K : AV → Heap → Prop) : allocG P e H K = optG (zeroOf P e) fun zs => K (.ptr H.length 0) (H ++ [.blk true true e zs]) := by
  unfold allocG
  cases zeroOf P e <;> rfl
@[simp] theorem boxG_eq (e : TypeId) (x : AV) (H : Heap) (K : AV → Heap → Prop) : boxG e x H K = optG x.cellsOf fun cs => K (.ptr H.length 0) (H ++ [.blk true true e cs]) := by
  unfold boxG
  cases x.cellsOf <;> rfl
@[simp] theorem storeG_ptr (t : TypeId) (r off : Nat) (x : AV) (H : Heap) (K : AV → Heap → Prop) : storeG P t (.ptr r off) x H K = optG (szOf P t) fun sz => optG x.cellsOf fun cs => blkT H[r]? fun new box e cells =>
    cs.length = sz ∧ off + cs.length ≤ cells.length ∧ (box || cs.all AV.isPure) = true ∧ K .any (H.set r (.blk new box e (splice cells off cs))) := by
  unfold storeG
  cases szOf P t <;> cases x.cellsOf
  case some.some =>
    simp only [optG_some]
    cases H[r]? with
    | none => rfl
    | some y => cases y <;> rfl
  all_goals rfl
@[simp] theorem storeC_ptr (t : TypeId) (r off : Nat) (x : AV) (H : Heap) (K : Nat → Root → Prop) : storeC P t (.ptr r off) x H K = optG (szOf P t) fun sz => optG x.cellsOf fun cs => blkT H[r]? fun new box e cells =>
    cs.length = sz ∧ off + cs.length ≤ cells.length ∧ (box || cs.all AV.isPure) = true ∧ K r (.blk new box e (splice cells off cs)) := by
  unfold storeC
  cases szOf P t <;> cases x.cellsOf
  case some.some =>
    simp only [optG_some]
    cases H[r]? with
    | none => rfl
    | some y => cases y <;> rfl
  all_goals rfl
@[simp] theorem fieldAddrG_ptr (s : TypeId) (r off f : Nat) (K : AV → Prop) : fieldAddrG P s (.ptr r off) f K = structT (P.underlying s) fun fields => optG fields[f]? fun fd => optG (szOf P fd.type) fun n => n ≠ 0 ∧ K (.ptr r (off + fd.offset)) := by
  unfold fieldAddrG
  cases P.underlying s with
  | none => rfl
  | some u =>
    cases u <;> try rfl
    rename_i fields
    simp only [structT_eq]
    cases fields[f]? with
    | none => rfl
    | some fd =>
      simp only [optG_some]
      cases szOf P fd.type with
      | none => rfl
      | some n => cases n <;> simp
@[simp] theorem fieldAddrG_vptr (s : TypeId) (n : Bool) (c : List AV) (f : Nat) (K : AV → Prop) : fieldAddrG P s (.vptr n c) f K = structT (P.underlying s) fun fields => optG fields[f]? fun fd => optG (szOf P fd.type) fun m => m ≠ 0 ∧ K (.vptr n (c.drop fd.offset)) := by
  unfold fieldAddrG
  cases P.underlying s with
  | none => rfl
  | some u =>
    cases u <;> try rfl
    rename_i fields
    simp only [structT_eq]
    cases fields[f]? with
    | none => rfl
    | some fd =>
      simp only [optG_some]
      cases szOf P fd.type with
      | none => rfl
      | some n => cases n <;> simp
@[simp] theorem fieldG_agg (t : TypeId) (l : List AV) (f : Nat) (K : AV → Prop) : fieldG P t (.agg l) f K = structT (P.underlying t) fun fields => optG fields[f]? fun fd => partG P fd.type l fd.offset K := by
  unfold fieldG
  cases P.underlying t with
  | none => rfl
  | some u =>
    cases u <;> try rfl
    rename_i fields
    simp only [structT_eq]
    cases fields[f]? <;> rfl
@[simp] theorem partG_eq (t : TypeId) (l : List AV) (off : Nat) (K : AV → Prop) : partG P t l off K = optG (aggOf P t) fun ag => optG (szOf P t) fun sz => optG (loadL ag sz l off) K := by
  unfold partG
  cases aggOf P t <;> cases szOf P t <;> simp only [optG]
  exact optG_ex _ _
@[simp] theorem indexAddrG_slc (t : TypeId) (r off n q : Nat) (k : IntKind) (i : Int) (K : AV → Prop) : indexAddrG P t (.slc r off n q) (.int k i) K = sliceT (P.underlying t) fun e => optG (szOf P e) fun sz => 0 ≤ i ∧ i < n ∧ K (.ptr r (off + i.toNat * sz)) := by
  unfold indexAddrG
  cases P.underlying t with
  | none => rfl
  | some u =>
    cases u <;> try rfl
    · rename_i e; simp only [sliceT_eq]; cases szOf P e <;> rfl
    · rename_i e; dsimp only; cases szOf P e <;> rfl
@[simp] theorem indexAddrG_view (t : TypeId) (w : Bool) (c : List AV) (n : Nat) (k : IntKind) (i : Int) (K : AV → Prop) : indexAddrG P t (.view w c n) (.int k i) K = sliceT (P.underlying t) fun e => optG (szOf P e) fun sz => 0 ≤ i ∧ i < n ∧ K (.vptr w (c.drop (i.toNat * sz))) := by
  unfold indexAddrG
  cases P.underlying t with
  | none => rfl
  | some u =>
    cases u <;> try rfl
    · rename_i e; simp only [sliceT_eq]; cases szOf P e <;> rfl
    · rename_i e; dsimp only; cases szOf P e <;> rfl
@[simp] theorem indexAddrG_ptr (t : TypeId) (r off : Nat) (k : IntKind) (i : Int) (K : AV → Prop) : indexAddrG P t (.ptr r off) (.int k i) K = arrayT (P.underlying t) fun len e => optG (szOf P e) fun sz => 0 ≤ i ∧ i < len ∧ K (.ptr r (off + i.toNat * sz)) := by
  unfold indexAddrG
  cases P.underlying t with
  | none => rfl
  | some u =>
    cases u <;> try rfl
    · rename_i e; dsimp only; cases szOf P e <;> rfl
    · rename_i n e; simp only [arrayT_eq]; cases szOf P e <;> rfl
@[simp] theorem indexG_str (t : TypeId) (k : IntKind) (i : Int) (s : ByteArray) (K : AV → Prop) (h : P.underlying t = some .string) : indexG P t (.str s) (.int k i) K = (0 ≤ i ∧ optG s[i.toNat]? fun b => K (.int .u8 b.toNat)) := by
  unfold indexG
  simp only [h]
  rw [← optG_ex]
@[simp] theorem indexG_arr {len : Nat} {e : TypeId} (t : TypeId) (k : IntKind) (i : Int) (l : List AV) (K : AV → Prop) (h : P.underlying t = some (.array len e)) : indexG P t (.agg l) (.int k i) K = (0 ≤ i ∧ i < len ∧ optG (szOf P e) fun sz => partG P e l (i.toNat * sz) K) := by
  unfold indexG
  simp only [h]
  rw [← optG_ex]
@[simp] theorem extractG_tup (l : List AV) (i : Nat) (K : AV → Prop) : extractG (.tup l) i K = optG l[i]? K := by
  unfold extractG
  exact optG_ex _ _
@[simp] theorem lenG_slc (t : TypeId) (r off n q : Nat) (K : AV → Prop) : lenG P t (.slc r off n q) K = sliceT (P.underlying t) fun _ => K (.int .i64 n) := by
  unfold lenG
  cases P.underlying t with
  | none => rfl
  | some u => cases u <;> rfl
@[simp] theorem lenG_view (t : TypeId) (w : Bool) (c : List AV) (n : Nat) (K : AV → Prop) : lenG P t (.view w c n) K = sliceT (P.underlying t) fun _ => K (.int .i64 n) := by
  unfold lenG
  cases P.underlying t with
  | none => rfl
  | some u => cases u <;> rfl
@[simp] theorem lenG_nils (t : TypeId) (K : AV → Prop) : lenG P t .nils K = sliceT (P.underlying t) fun _ => K (.int .i64 0) := by
  unfold lenG
  cases P.underlying t with
  | none => rfl
  | some u => cases u <;> rfl
@[simp] theorem lenG_str (t : TypeId) (s : ByteArray) (K : AV → Prop) (h : P.underlying t = some .string) : lenG P t (.str s) K = K (.int .i64 s.size) := by
  unfold lenG
  simp only [h]
@[simp] theorem newsG_slc (H : Heap) (sz r off m q : Nat) (K : List AV → Nat → Prop) : newsG H sz (.slc r off m q) K = rootG H[r]? fun cells => q = sz ∧ off + m * sz ≤ cells.length ∧ K ((cells.drop off).take (m * sz)) m := by
  unfold newsG
  dsimp only
  cases H[r]? with
  | none => rfl
  | some y => cases y <;> rfl
@[simp] theorem newsG_view (H : Heap) (sz m : Nat) (w : Bool) (cells : List AV) (K : List AV → Nat → Prop) : newsG H sz (.view w cells m) K = (m * sz ≤ cells.length ∧ K (cells.take (m * sz)) m) := .trans rfl rfl
@[simp] theorem newsG_nils (H : Heap) (sz : Nat) (K : List AV → Nat → Prop) : newsG H sz .nils K = K [] 0 := .trans rfl rfl
@[simp] theorem appendG_slc (t : TypeId) (r n q : Nat) (x : AV) (H : Heap) (K : AV → Heap → Prop) : appendG P t (.slc r 0 n q) x H K = sliceT (P.underlying t) fun e => optG (szOf P e) fun sz => optG (bytesOf P e) fun by_ => optG (zeroOf P e) fun zs =>
    blkT H[r]? fun new box e' cells => box = false ∧ newsG H sz x fun news m => q = sz ∧ e' = e ∧ 0 < sz ∧ zs.length = sz ∧ n * sz ≤ cells.length ∧ n + m ≤ 9223372036854775807 ∧ (n + m) * by_ ≤ 140737488355328 ∧ news.all AV.isPure = true ∧
      K (.slc H.length 0 (n + m) sz) (H.set r .gone ++ [.blk new false e (cells.take (n * sz) ++ news)]) := by
  unfold appendG
  cases P.underlying t with
  | none => rfl
  | some u =>
    cases u <;> try rfl
    rename_i e
    simp only [sliceT_eq]
    cases szOf P e <;> cases bytesOf P e <;> cases zeroOf P e <;> try rfl
    simp only [optG_some]
    cases H[r]? with
    | none => rfl
    | some y =>
      cases y with
      | gone => rfl
      | blk a b c d => cases b <;> simp
@[simp] theorem appendG_nils (t : TypeId) (x : AV) (H : Heap) (K : AV → Heap → Prop) : appendG P t .nils x H K = sliceT (P.underlying t) fun e => optG (szOf P e) fun sz => optG (bytesOf P e) fun by_ => optG (zeroOf P e) fun zs =>
    newsG H sz x fun news m => 0 < sz ∧ zs.length = sz ∧ m ≤ 9223372036854775807 ∧ m * by_ ≤ 140737488355328 ∧ news.all AV.isPure = true ∧ K (.slc H.length 0 m sz) (H ++ [.blk true false e news]) := by
  unfold appendG
  cases P.underlying t with
  | none => rfl
  | some u =>
    cases u <;> try rfl
    rename_i e
    simp only [sliceT_eq]
    cases szOf P e <;> cases bytesOf P e <;> cases zeroOf P e <;> rfl
@[simp] theorem sliceG_view (t : TypeId) (w : Bool) (c : List AV) (n : Nat) (lo hi : Option AV) (K : AV → Prop) : sliceG P t (.view w c n) lo hi K = sliceT (P.underlying t) fun e => optG (szOf P e) fun sz => optG (boundA 0 lo) fun l => optG (boundA n hi) fun h =>
    0 ≤ l ∧ l ≤ h ∧ h ≤ n ∧ K (.view w ((c.drop (l.toNat * sz)).take ((h.toNat - l.toNat) * sz)) (h.toNat - l.toNat)) := by
  unfold sliceG
  cases P.underlying t with
  | none => rfl
  | some u =>
    cases u <;> try rfl
    rename_i e
    simp only [sliceT_eq]
    cases szOf P e <;> try rfl
    simp only [optG_some]
    cases boundA 0 lo <;> cases boundA n hi <;> rfl
@[simp] theorem sliceG_slc (t : TypeId) (r off n q : Nat) (lo hi : Option AV) (K : AV → Prop) : sliceG P t (.slc r off n q) lo hi K = sliceT (P.underlying t) fun e => optG (szOf P e) fun sz => optG (boundA 0 lo) fun l => optG (boundA n hi) fun h =>
    q = sz ∧ 0 ≤ l ∧ l ≤ h ∧ h ≤ n ∧ (l = 0 → K (.slc r off h.toNat q)) ∧ (0 < l → l < h → K (.slc r (off + l.toNat * sz) (h.toNat - l.toNat) q)) ∧ (0 < l → l = h → K (.view false [] 0)) := by
  unfold sliceG
  cases P.underlying t with
  | none => rfl
  | some u =>
    cases u <;> try rfl
    rename_i e
    simp only [sliceT_eq]
    cases szOf P e <;> try rfl
    simp only [optG_some]
    cases boundA 0 lo <;> cases boundA n hi <;> rfl
@[simp] theorem sliceG_str (t : TypeId) (s : ByteArray) (lo hi : Option AV) (K : AV → Prop) (h : P.underlying t = some .string) : sliceG P t (.str s) lo hi K = optG (boundA 0 lo) fun l => optG (boundA s.size hi) fun h =>
    0 ≤ l ∧ l ≤ h ∧ h ≤ s.size ∧ K (.str (s.extract l.toNat h.toNat)) := by
  unfold sliceG
  simp only [h]
  cases boundA 0 lo <;> cases boundA s.size hi <;> rfl
-- clear
@[simp ↓] theorem builtinG_clear (t : TypeId) (x : AV) (H : Heap) (K : AV → Heap → Prop) : builtinG P .clear #[t] [x] H K = clearG P t x H K := .trans rfl rfl
@[congr] theorem clearG_congr {t : TypeId} {a a' : AV} {H H' : Heap} {K : AV → Heap → Prop} (h : a = a') (h3 : H = H') : clearG P t a H K = clearG P t a' H' K := by rw [h, h3]
@[simp] theorem clearG_slc (t : TypeId) (r off n q : Nat) (H : Heap) (K : AV → Heap → Prop) : clearG P t (.slc r off n q) H K = sliceT (P.underlying t) fun e => optG (szOf P e) fun sz => optG (zeroOf P e) fun zs =>
    blkT H[r]? fun new box e' cells => q = sz ∧ zs.length = sz ∧ off + n * sz ≤ cells.length ∧ zs.all AV.isPure = true ∧ K (.tup []) (H.set r (.blk new box e' (splice cells off (makeL n zs)))) := by
  unfold clearG
  cases P.underlying t with
  | none => rfl
  | some u =>
    cases u <;> try rfl
    rename_i e
    simp only [sliceT_eq]
    cases szOf P e <;> cases zeroOf P e <;> try rfl
@[simp] theorem clearG_view0 (t : TypeId) (w : Bool) (c : List AV) (H : Heap) (K : AV → Heap → Prop) : clearG P t (.view w c 0) H K = sliceT (P.underlying t) fun e => optG (szOf P e) fun sz => optG (zeroOf P e) fun zs => K (.tup []) H := by
  unfold clearG
  cases P.underlying t with
  | none => rfl
  | some u =>
    cases u <;> try rfl
    rename_i e
    simp only [sliceT_eq]
    cases szOf P e <;> cases zeroOf P e <;> rfl
-- drawn regions
@[simp ↓] theorem detOp_append (args : Array Operand) (ts : Array TypeId) : detOp (.call { callee := .builtin .append, args := args, argTypes := ts }) = (false) := .trans rfl rfl
@[simp ↓] theorem apOf_append (s x : Operand) (t t' : TypeId) : apOf (.call { callee := .builtin .append, args := #[s, x], argTypes := #[t, t'] }) = some (t, t', s, x) := .trans rfl rfl
@[congr] theorem appC_congr {t : TypeId} {a a' b b' : AV} {H H' : Heap} {K : AV → List (Nat × Root) → List Root → Prop} (h : a = a') (h2 : b = b') (h3 : H = H') : appC P t a b H K = appC P t a' b' H' K := by rw [h, h2, h3]
@[simp] theorem appC_nils (t : TypeId) (x : AV) (H : Heap) (K : AV → List (Nat × Root) → List Root → Prop) : appC P t .nils x H K = sliceT (P.underlying t) fun e => optG (szOf P e) fun sz => optG (bytesOf P e) fun by_ => optG (zeroOf P e) fun zs =>
    newsG H sz x fun news m => 0 < sz ∧ zs.length = sz ∧ m ≤ 9223372036854775807 ∧ m * by_ ≤ 140737488355328 ∧ news.all AV.isPure = true ∧ K (.slc H.length 0 m sz) [] [.blk true false e news] := by
  unfold appC
  cases P.underlying t with
  | none => rfl
  | some u =>
    cases u <;> try rfl
    rename_i e
    simp only [sliceT_eq]
    cases szOf P e <;> cases bytesOf P e <;> cases zeroOf P e <;> rfl
@[simp] theorem appC_slc (t : TypeId) (r n q : Nat) (x : AV) (H : Heap) (K : AV → List (Nat × Root) → List Root → Prop) : appC P t (.slc r 0 n q) x H K = sliceT (P.underlying t) fun e => optG (szOf P e) fun sz => optG (bytesOf P e) fun by_ => optG (zeroOf P e) fun zs =>
    blkT H[r]? fun new box e' cells => box = false ∧ newsG H sz x fun news m => q = sz ∧ e' = e ∧ 0 < sz ∧ zs.length = sz ∧ n * sz ≤ cells.length ∧ n + m ≤ 9223372036854775807 ∧ (n + m) * by_ ≤ 140737488355328 ∧ news.all AV.isPure = true ∧
      K (.slc H.length 0 (n + m) sz) [(r, .gone)] [.blk new false e (cells.take (n * sz) ++ news)] := by
  unfold appC
  cases P.underlying t with
  | none => rfl
  | some u =>
    cases u <;> try rfl
    rename_i e
    simp only [sliceT_eq]
    cases szOf P e <;> cases bytesOf P e <;> cases zeroOf P e <;> try rfl
    simp only [optG_some]
    cases H[r]? with
    | none => rfl
    | some y =>
      cases y with
      | gone => rfl
      | blk a b c d => cases b <;> simp
@[simp] theorem stoN_move (x : Operand) : stoN (.move x) = true := .trans rfl rfl
@[simp] theorem tcO_move (x : Operand) (ρ : Operand → AV) : tcO (.move x) ρ = none := .trans rfl rfl
@[simp] theorem stoN_assign (x : Operand) : stoN (.assign x) = true := .trans rfl rfl
@[simp] theorem tcO_assign (x : Operand) (ρ : Operand → AV) : tcO (.assign x) ρ = none := .trans rfl rfl
@[simp] theorem stoN_pick (c a b : Operand) : stoN (.pick c a b) = true := .trans rfl rfl
@[simp] theorem tcO_pick (c a b : Operand) (ρ : Operand → AV) : tcO (.pick c a b) ρ = none := .trans rfl rfl
@[simp] theorem stoN_alloc (e : TypeId) : stoN (.alloc e) = true := .trans rfl rfl
@[simp] theorem tcO_alloc (e : TypeId) (ρ : Operand → AV) : tcO (.alloc e) ρ = none := .trans rfl rfl
@[simp] theorem stoN_box (e : TypeId) (x : Operand) : stoN (.box e x) = true := .trans rfl rfl
@[simp] theorem tcO_box (e : TypeId) (x : Operand) (ρ : Operand → AV) : tcO (.box e x) ρ = none := .trans rfl rfl
@[simp] theorem stoN_build (t : TypeId) (ps : Array (Nat × Operand)) : stoN (.build t ps) = true := .trans rfl rfl
@[simp] theorem tcO_build (t : TypeId) (ps : Array (Nat × Operand)) (ρ : Operand → AV) : tcO (.build t ps) ρ = none := .trans rfl rfl
@[simp] theorem stoN_buildSlice (t : TypeId) (n : Nat) (ps : Array (Nat × Operand)) : stoN (.buildSlice t n ps) = true := .trans rfl rfl
@[simp] theorem stoN_load (t : TypeId) (a : Operand) : stoN (.load t a) = true := .trans rfl rfl
@[simp] theorem tcO_load (t : TypeId) (a : Operand) (ρ : Operand → AV) : tcO (.load t a) ρ = tcA (ρ a) := .trans rfl rfl
@[simp] theorem stoN_nilCheck (x : Operand) : stoN (.nilCheck x) = true := .trans rfl rfl
@[simp] theorem tcO_nilCheck (x : Operand) (ρ : Operand → AV) : tcO (.nilCheck x) ρ = none := .trans rfl rfl
@[simp] theorem stoN_binOp (op : BinOp) (t yt : TypeId) (x y : Operand) : stoN (.binOp op t x y yt) = true := .trans rfl rfl
@[simp] theorem tcO_binOp (op : BinOp) (t yt : TypeId) (x y : Operand) (ρ : Operand → AV) : tcO (.binOp op t x y yt) ρ = none := .trans rfl rfl
@[simp] theorem stoN_unOp (op : UnOp) (t : TypeId) (x : Operand) : stoN (.unOp op t x) = true := .trans rfl rfl
@[simp] theorem tcO_unOp (op : UnOp) (t : TypeId) (x : Operand) (ρ : Operand → AV) : tcO (.unOp op t x) ρ = none := .trans rfl rfl
@[simp] theorem stoN_convert (s d : TypeId) (x : Operand) : stoN (.convert s d x) = true := .trans rfl rfl
@[simp] theorem tcO_convert (s d : TypeId) (x : Operand) (ρ : Operand → AV) : tcO (.convert s d x) ρ = tcB (ρ x) := .trans rfl rfl
@[simp] theorem tcB_int (k : IntKind) (n : Int) : tcB (.int k n) = none := .trans rfl rfl
@[simp] theorem tcB_flt (k : FloatKind) (n : Nat) : tcB (.flt k n) = none := .trans rfl rfl
@[simp] theorem tcB_str (s : ByteArray) : tcB (.str s) = none := .trans rfl rfl
@[simp] theorem tcB_nils : tcB .nils = none := .trans rfl rfl
@[simp] theorem tcB_view (b : Bool) (c : List AV) (n : Nat) : tcB (.view b c n) = none := .trans rfl rfl
@[simp] theorem tcB_slc (r o n q : Nat) : tcB (.slc r o n q) = some (some r) := .trans rfl rfl
@[simp] theorem stoN_makeSlice (t : TypeId) (l c : Operand) : stoN (.makeSlice t l c) = true := .trans rfl rfl
@[simp] theorem tcO_makeSlice (t : TypeId) (l c : Operand) (ρ : Operand → AV) : tcO (.makeSlice t l c) ρ = none := .trans rfl rfl
@[simp] theorem stoN_slice (t : TypeId) (x : Operand) (lo hi : Option Operand) : stoN (.slice t x lo hi none) = true := .trans rfl rfl
@[simp] theorem tcO_slice (t : TypeId) (x : Operand) (lo hi : Option Operand) (ρ : Operand → AV) : tcO (.slice t x lo hi none) ρ = none := .trans rfl rfl
@[simp] theorem stoN_fieldAddr (s : TypeId) (x : Operand) (f : Nat) : stoN (.fieldAddr s x f) = true := .trans rfl rfl
@[simp] theorem tcO_fieldAddr (s : TypeId) (x : Operand) (f : Nat) (ρ : Operand → AV) : tcO (.fieldAddr s x f) ρ = none := .trans rfl rfl
@[simp] theorem stoN_field (t : TypeId) (x : Operand) (f : Nat) : stoN (.field t x f) = true := .trans rfl rfl
@[simp] theorem tcO_field (t : TypeId) (x : Operand) (f : Nat) (ρ : Operand → AV) : tcO (.field t x f) ρ = none := .trans rfl rfl
@[simp] theorem stoN_indexAddr (t : TypeId) (x i : Operand) : stoN (.indexAddr t x i) = true := .trans rfl rfl
@[simp] theorem tcO_indexAddr (t : TypeId) (x i : Operand) (ρ : Operand → AV) : tcO (.indexAddr t x i) ρ = none := .trans rfl rfl
@[simp] theorem stoN_index (t : TypeId) (x i : Operand) : stoN (.index t x i) = true := .trans rfl rfl
@[simp] theorem tcO_index (t : TypeId) (x i : Operand) (ρ : Operand → AV) : tcO (.index t x i) ρ = none := .trans rfl rfl
@[simp] theorem stoN_extract (x : Operand) (i : Nat) : stoN (.extract x i) = true := .trans rfl rfl
@[simp] theorem tcO_extract (x : Operand) (i : Nat) (ρ : Operand → AV) : tcO (.extract x i) ρ = none := .trans rfl rfl
@[simp] theorem stoN_makeFunc (f : FuncId) (a b : Array Operand) : stoN (.makeFunc (.func f) a b) = true := .trans rfl rfl
@[simp] theorem tcO_makeFunc (f : FuncId) (a b : Array Operand) (ρ : Operand → AV) : tcO (.makeFunc (.func f) a b) ρ = none := .trans rfl rfl
@[simp] theorem stoN_value (f : Operand) (args : Array Operand) (ts : Array TypeId) : stoN (.call { callee := .value f, args := args, argTypes := ts }) = true := .trans rfl rfl
@[simp] theorem stoN_len (args : Array Operand) (ts : Array TypeId) : stoN (.call { callee := .builtin .len, args := args, argTypes := ts }) = true := .trans rfl rfl
@[simp] theorem tcO_len (args : Array Operand) (ts : Array TypeId) (ρ : Operand → AV) : tcO (.call { callee := .builtin .len, args := args, argTypes := ts }) ρ = none := .trans rfl rfl
@[simp] theorem stoN_max (args : Array Operand) (ts : Array TypeId) : stoN (.call { callee := .builtin .max, args := args, argTypes := ts }) = true := .trans rfl rfl
@[simp] theorem tcO_max (args : Array Operand) (ts : Array TypeId) (ρ : Operand → AV) : tcO (.call { callee := .builtin .max, args := args, argTypes := ts }) ρ = none := .trans rfl rfl
@[simp] theorem stoN_min (args : Array Operand) (ts : Array TypeId) : stoN (.call { callee := .builtin .min, args := args, argTypes := ts }) = true := .trans rfl rfl
@[simp] theorem tcO_min (args : Array Operand) (ts : Array TypeId) (ρ : Operand → AV) : tcO (.call { callee := .builtin .min, args := args, argTypes := ts }) ρ = none := .trans rfl rfl
@[simp] theorem stoN_append (args : Array Operand) (ts : Array TypeId) : stoN (.call { callee := .builtin .append, args := args, argTypes := ts }) = true := .trans rfl rfl
@[simp] theorem valOp_value (f : Operand) (args : Array Operand) (ts : Array TypeId) : valOp (.call { callee := .value f, args := args, argTypes := ts }) = true := .trans rfl rfl
@[simp] theorem valOp_builtin (f : Builtin) (args : Array Operand) (ts : Array TypeId) : valOp (.call { callee := .builtin f, args := args, argTypes := ts }) = false := .trans rfl rfl
@[simp] theorem tcA_ptr (r o : Nat) : tcA (.ptr r o) = some (some r) := .trans rfl rfl
@[simp] theorem tcA_vptr (b : Bool) (c : List AV) : tcA (.vptr b c) = none := .trans rfl rfl
@[simp] theorem addT_none (i : Nat) (T : List (Nat × Option Nat)) : addT i none T = T := .trans rfl rfl
@[simp] theorem addT_some (i : Nat) (t : Option Nat) (T : List (Nat × Option Nat)) : addT i (some t) T = (i, t) :: T := .trans rfl rfl
@[simp] theorem tOk_nil (m : List Nat) (i r : Nat) : tOk m i r [] = True := .trans rfl rfl
theorem befB_eq (m : List Nat) (i j : Nat) : (befB m i j = true) = (m.getD i 0 / 2 ^ j % 2 = 1) := by
  unfold befB
  rw [Nat.testBit_eq_decide_div_mod_eq]
  simp
@[simp] theorem tOk_none (m : List Nat) (i r j : Nat) (T : List (Nat × Option Nat)) : tOk m i r ((j, none) :: T) = (m.getD i 0 / 2 ^ j % 2 = 1 ∧ tOk m i r T) := by
  simp only [tOk, befB_eq, Tch, not_true, or_false]
@[simp] theorem tOk_some (m : List Nat) (i r j r' : Nat) (T : List (Nat × Option Nat)) : tOk m i r ((j, some r') :: T) = ((r = r' → m.getD i 0 / 2 ^ j % 2 = 1) ∧ tOk m i r T) := by
  simp only [tOk, befB_eq, Tch]
  congr 1
  apply propext
  constructor
  · rintro (h | h) e
    · exact h
    · exact absurd e h
  · intro h
    by_cases e : r = r'
    · exact .inl (h e)
    · exact .inr e
@[simp] theorem viewS_nil (m : List Nat) (i : Nat) (H : Heap) : viewS m i [] H = H := .trans rfl rfl
@[simp] theorem viewS_cons (m : List Nat) (i k r : Nat) (x : Root) (S : List (Nat × Nat × Root)) (H : Heap) : viewS m i ((k, r, x) :: S) H = setL (viewS m i S H) r (if m.getD i 0 / 2 ^ k % 2 = 1 then x else .gone) := by
  simp only [viewS, befB_eq]
@[simp] theorem allS_nil (H : Heap) : allS [] H = H := .trans rfl rfl
@[simp] theorem allS_cons (k r : Nat) (x : Root) (S : List (Nat × Nat × Root)) (H : Heap) : allS ((k, r, x) :: S) H = setL (allS S H) r x := .trans rfl rfl
@[simp] theorem setL_g0 (x : Root) (H : Heap) : setL (.gone :: H) 0 x = .gone :: H := .trans rfl rfl
@[simp] theorem setL_b0 (x : Root) (n b : Bool) (e : TypeId) (c : List AV) (H : Heap) : setL (.blk n b e c :: H) 0 x = x :: H := .trans rfl rfl
@[simp] theorem setL_gs (x : Root) (k : Nat) (H : Heap) : setL (.gone :: H) (k + 1) x = .gone :: setL H k x := .trans rfl rfl
@[simp] theorem setL_bs (x : Root) (n b : Bool) (e : TypeId) (c : List AV) (k : Nat) (H : Heap) : setL (.blk n b e c :: H) (k + 1) x = .blk n b e c :: setL H k x := .trans rfl rfl
@[congr] theorem storeC_congr {t : TypeId} {a a' x x' : AV} {H H' : Heap} {K : Nat → Root → Prop} (h : a = a') (h1 : x = x') (h2 : H = H') : storeC P t a x H K = storeC P t a' x' H' K := by rw [h, h1, h2]
@[congr] theorem callV_congr {op : Op} {ρ ρ' : Operand → AV} {H H' : Heap} {K : AV → List (Nat × Root) → List Root → Prop} (h1 : ρ = ρ') (h2 : H = H') : callV P op ρ H K = callV P op ρ' H' K := by rw [h1, h2]
-- rows of a literal: given up
def frzR (x : Option Root) (H : Heap) (r n q : Nat) : AV × Heap := match x with
  | some (.blk true false _ cells) => if n * q ≤ cells.length then (.view true (cells.take (n * q)) n, H.set r .gone) else (.slc r 0 n q, H)
  | _ => (.slc r 0 n q, H)
@[simp] theorem frzR_blk (e : TypeId) (cells : List AV) (H : Heap) (r n q : Nat) : frzR (some (.blk true false e cells)) H r n q = if n * q ≤ cells.length then (.view true (cells.take (n * q)) n, H.set r .gone) else (.slc r 0 n q, H) := .trans rfl rfl
def gnR (x : Option Root) (r n q : Nat) : List (Nat × Root) := match x with
  | some (.blk true false _ cells) => if n * q ≤ cells.length then [(r, .gone)] else []
  | _ => []
@[simp] theorem gnR_blk (e : TypeId) (cells : List AV) (r n q : Nat) : gnR (some (.blk true false e cells)) r n q = if n * q ≤ cells.length then [(r, .gone)] else [] := .trans rfl rfl
@[simp] theorem gone1_slc (H : Heap) (r n q : Nat) : gone1 H (.slc r 0 n q) = gnR H[r]? r n q := .trans rfl rfl
@[simp] theorem gone1_any (H : Heap)  : gone1 H (.any) = [] := .trans rfl rfl
@[simp] theorem gone1_int (H : Heap) (k : IntKind) (n : Int) : gone1 H (.int k n) = [] := .trans rfl rfl
@[simp] theorem gone1_bool (H : Heap) (b : Bool) : gone1 H (.bool b) = [] := .trans rfl rfl
@[simp] theorem gone1_flt (H : Heap) (k : FloatKind) (x : Nat) : gone1 H (.flt k x) = [] := .trans rfl rfl
@[simp] theorem gone1_str (H : Heap) (s : ByteArray) : gone1 H (.str s) = [] := .trans rfl rfl
@[simp] theorem gone1_ifc (H : Heap) (s : Bool) : gone1 H (.ifc s) = [] := .trans rfl rfl
@[simp] theorem gone1_nilp (H : Heap)  : gone1 H (.nilp) = [] := .trans rfl rfl
@[simp] theorem gone1_ptr (H : Heap) (r o : Nat) : gone1 H (.ptr r o) = [] := .trans rfl rfl
@[simp] theorem gone1_nils (H : Heap)  : gone1 H (.nils) = [] := .trans rfl rfl
@[simp] theorem gone1_agg (H : Heap) (l : List AV) : gone1 H (.agg l) = [] := .trans rfl rfl
@[simp] theorem gone1_view (H : Heap) (b : Bool) (c : List AV) (n : Nat) : gone1 H (.view b c n) = [] := .trans rfl rfl
@[simp] theorem gone1_vptr (H : Heap) (b : Bool) (c : List AV) : gone1 H (.vptr b c) = [] := .trans rfl rfl
@[simp] theorem gone1_mp (H : Heap) (rr : Nat) : gone1 H (.mp rr) = [] := .trans rfl rfl
@[simp] theorem gone1_nilf (H : Heap)  : gone1 H (.nilf) = [] := .trans rfl rfl
@[simp] theorem bsT_eq (i : Nat) (ps : List (Nat × AV)) (T : List (Nat × Option Nat)) : bsT i ps T = if ps.all (fun p => p.2.flat) = true then T else (i, none) :: T := .trans rfl rfl
@[simp] theorem flatB_nils  : AV.flat .nils = true := .trans rfl rfl
@[simp] theorem flatB_nilp  : AV.flat .nilp = true := .trans rfl rfl
@[simp] theorem flatB_nilf  : AV.flat .nilf = true := .trans rfl rfl
@[simp] theorem flatB_any  : AV.flat .any = true := .trans rfl rfl
@[simp] theorem flatB_slc (r o n q : Nat) : AV.flat (.slc r o n q) = false := .trans rfl rfl
@[simp] theorem flatB_view (b : Bool) (c : List AV) (n : Nat) : AV.flat (.view b c n) = false := .trans rfl rfl
@[simp] theorem flatB_vptr (b : Bool) (c : List AV) : AV.flat (.vptr b c) = false := .trans rfl rfl
@[simp] theorem flatB_ptr (r o : Nat) : AV.flat (.ptr r o) = false := .trans rfl rfl
@[simp] theorem flatB_agg (l : List AV) : AV.flat (.agg l) = false := .trans rfl rfl
@[simp] theorem flatB_tup (l : List AV) : AV.flat (.tup l) = false := .trans rfl rfl
@[simp] theorem flatB_clo (f : FuncId) (a c : List AV) : AV.flat (.clo f a c) = false := .trans rfl rfl
@[simp] theorem flatB_mp (r : Nat) : AV.flat (.mp r) = false := .trans rfl rfl
@[simp] theorem goneL_nil (H : Heap) : goneL [] H = [] := .trans rfl rfl
@[simp] theorem goneL_cons (i : Nat) (a : AV) (l : List (Nat × AV)) (H : Heap) : goneL ((i, a) :: l) H = goneL l (freeze1 H a).2 ++ gone1 H a := .trans rfl rfl
@[simp] theorem bsC_eq (t : TypeId) (n : Nat) (ps : List (Nat × AV)) (H : Heap) (K : AV → List (Nat × Root) → List Root → Prop) : bsC P t n ps H K = sliceT (P.underlying t) fun e => optG (szOf P e) fun sz => optG (zeroOf P e) fun zs =>
    n * sz ≤ 16777216 ∧ n ≤ 16777216 ∧ zs.length = sz ∧ optG (fillL (fun i => some (i * sz, sz)) (makeL n zs) (frzL ps H).1) fun out => out.all AV.isPure = true ∧ (if n = 0 then K .nils (goneL ps H) [] else K (.slc H.length 0 n sz) (goneL ps H) [.blk true false e out]) := by
  unfold bsC
  cases P.underlying t with
  | none => rfl
  | some u =>
    cases u <;> try rfl
    rename_i e
    simp only [sliceT_eq]
    cases szOf P e <;> cases zeroOf P e <;> try rfl
    simp only [optG_some]
    rw [← optG_ex]
@[simp] theorem frzL_nil (H : Heap) : frzL [] H = ([], H) := .trans rfl rfl
@[simp] theorem frzL_cons (i : Nat) (a : AV) (l : List (Nat × AV)) (H : Heap) : frzL ((i, a) :: l) H = ((i, (freeze1 H a).1) :: (frzL l (freeze1 H a).2).1, (frzL l (freeze1 H a).2).2) := .trans rfl rfl
@[simp] theorem freeze1_slc (H : Heap) (r n q : Nat) : freeze1 H (.slc r 0 n q) = frzR H[r]? H r n q := by
  have key : ∀ (x : Option Root), (match x with
    | some (.blk true false _ cells) => if n * q ≤ cells.length then (AV.view true (cells.take (n * q)) n, H.set r .gone) else (AV.slc r 0 n q, H)
    | _ => (AV.slc r 0 n q, H)) = frzR x H r n q := by
    intro x
    cases x with
    | none => rfl
    | some y => cases y with
      | gone => rfl
      | blk a b c d => cases a <;> cases b <;> rfl
  exact key H[r]?
@[simp] theorem freeze1_any (H : Heap)  : freeze1 H (.any) = (.any, H) := .trans rfl rfl
@[simp] theorem freeze1_int (H : Heap) (k : IntKind) (n : Int) : freeze1 H (.int k n) = (.int k n, H) := .trans rfl rfl
@[simp] theorem freeze1_bool (H : Heap) (b : Bool) : freeze1 H (.bool b) = (.bool b, H) := .trans rfl rfl
@[simp] theorem freeze1_flt (H : Heap) (k : FloatKind) (x : Nat) : freeze1 H (.flt k x) = (.flt k x, H) := .trans rfl rfl
@[simp] theorem freeze1_str (H : Heap) (s : ByteArray) : freeze1 H (.str s) = (.str s, H) := .trans rfl rfl
@[simp] theorem freeze1_ifc (H : Heap) (s : Bool) : freeze1 H (.ifc s) = (.ifc s, H) := .trans rfl rfl
@[simp] theorem freeze1_nilp (H : Heap)  : freeze1 H (.nilp) = (.nilp, H) := .trans rfl rfl
@[simp] theorem freeze1_ptr (H : Heap) (r o : Nat) : freeze1 H (.ptr r o) = (.ptr r o, H) := .trans rfl rfl
@[simp] theorem freeze1_nils (H : Heap)  : freeze1 H (.nils) = (.nils, H) := .trans rfl rfl
@[simp] theorem freeze1_agg (H : Heap) (l : List AV) : freeze1 H (.agg l) = (.agg l, H) := .trans rfl rfl
@[simp] theorem freeze1_view (H : Heap) (b : Bool) (c : List AV) (n : Nat) : freeze1 H (.view b c n) = (.view b c n, H) := .trans rfl rfl
@[simp] theorem freeze1_vptr (H : Heap) (b : Bool) (c : List AV) : freeze1 H (.vptr b c) = (.vptr b c, H) := .trans rfl rfl
@[simp] theorem freeze1_mp (H : Heap) (rr : Nat) : freeze1 H (.mp rr) = (.mp rr, H) := .trans rfl rfl
@[simp] theorem freeze1_mview (H : Heap) (b : Bool) (ee : Nat) (kk : List (List Int)) (c : List AV) : freeze1 H (.mview b ee kk c) = (.mview b ee kk c, H) := .trans rfl rfl
@[simp] theorem freeze1_nilf (H : Heap)  : freeze1 H (.nilf) = (.nilf, H) := .trans rfl rfl
@[simp] theorem flat_nils : AV.flat .nils = true := .trans rfl rfl
@[simp] theorem flat_nilp : AV.flat .nilp = true := .trans rfl rfl
@[simp] theorem flat_nilf : AV.flat .nilf = true := .trans rfl rfl
-- maps
@[simp ↓] theorem opG_makeMap (t : TypeId) (ρ : Operand → AV) (H : Heap) (K : AV → Heap → Prop) : opG P (.makeMap t none) ρ H K = makeMapG P t H K := .trans rfl rfl
@[simp ↓] theorem opG_lookup (t : TypeId) (m x : Operand) (ok : Bool) (ρ : Operand → AV) (H : Heap) (K : AV → Heap → Prop) : opG P (.lookup t m x ok) ρ H K = lookupG P t (ρ m) (ρ x) ok H (@atH K H) := .trans rfl rfl
@[simp ↓] theorem opG_mapUpdate (t : TypeId) (m x v : Operand) (ρ : Operand → AV) (H : Heap) (K : AV → Heap → Prop) : opG P (.mapUpdate t m x v) ρ H K = mapUpdateG P t (ρ m) (ρ x) (ρ v) H K := .trans rfl rfl
@[simp ↓] theorem opG_mapEntry (t : TypeId) (m x : Operand) (ρ : Operand → AV) (H : Heap) (K : AV → Heap → Prop) : opG P (.mapEntry t m x) ρ H K = mapEntryG P t (ρ m) (ρ x) H K := .trans rfl rfl
@[simp ↓] theorem opG_entryStore (t : TypeId) (m s v : Operand) (ρ : Operand → AV) (H : Heap) (K : AV → Heap → Prop) : opG P (.entryStore t m s v) ρ H K = entryStoreG (ρ m) (ρ s) (ρ v) H K := .trans rfl rfl
@[simp ↓] theorem detOp_makeMap (t : TypeId) : detOp (.makeMap t none) = false := .trans rfl rfl
@[simp] theorem valOp_makeMap (t : TypeId) : valOp (.makeMap t none) = true := .trans rfl rfl
@[simp] theorem stoN_makeMap (t : TypeId) : stoN (.makeMap t none) = true := .trans rfl rfl
@[simp] theorem tcO_makeMap (t : TypeId) (ρ : Operand → AV) : tcO (.makeMap t none) ρ = some none := .trans rfl rfl
@[simp ↓] theorem detOp_lookup (t : TypeId) (m x : Operand) (ok : Bool) : detOp (.lookup t m x ok) = false := .trans rfl rfl
@[simp] theorem valOp_lookup (t : TypeId) (m x : Operand) (ok : Bool) : valOp (.lookup t m x ok) = true := .trans rfl rfl
@[simp] theorem stoN_lookup (t : TypeId) (m x : Operand) (ok : Bool) : stoN (.lookup t m x ok) = true := .trans rfl rfl
@[simp] theorem tcO_lookup (t : TypeId) (m x : Operand) (ok : Bool) (ρ : Operand → AV) : tcO (.lookup t m x ok) ρ = some none := .trans rfl rfl
@[simp ↓] theorem detOp_mapUpdate (t : TypeId) (m x v : Operand) : detOp (.mapUpdate t m x v) = false := .trans rfl rfl
@[simp] theorem valOp_mapUpdate (t : TypeId) (m x v : Operand) : valOp (.mapUpdate t m x v) = true := .trans rfl rfl
@[simp] theorem stoN_mapUpdate (t : TypeId) (m x v : Operand) : stoN (.mapUpdate t m x v) = true := .trans rfl rfl
@[simp] theorem tcO_mapUpdate (t : TypeId) (m x v : Operand) (ρ : Operand → AV) : tcO (.mapUpdate t m x v) ρ = some none := .trans rfl rfl
@[simp ↓] theorem detOp_mapEntry (t : TypeId) (m x : Operand) : detOp (.mapEntry t m x) = false := .trans rfl rfl
@[simp] theorem valOp_mapEntry (t : TypeId) (m x : Operand) : valOp (.mapEntry t m x) = true := .trans rfl rfl
@[simp] theorem stoN_mapEntry (t : TypeId) (m x : Operand) : stoN (.mapEntry t m x) = true := .trans rfl rfl
@[simp] theorem tcO_mapEntry (t : TypeId) (m x : Operand) (ρ : Operand → AV) : tcO (.mapEntry t m x) ρ = some none := .trans rfl rfl
@[simp ↓] theorem detOp_entryStore (t : TypeId) (m x v : Operand) : detOp (.entryStore t m x v) = false := .trans rfl rfl
@[simp] theorem valOp_entryStore (t : TypeId) (m x v : Operand) : valOp (.entryStore t m x v) = true := .trans rfl rfl
@[simp] theorem stoN_entryStore (t : TypeId) (m x v : Operand) : stoN (.entryStore t m x v) = true := .trans rfl rfl
@[simp] theorem tcO_entryStore (t : TypeId) (m x v : Operand) (ρ : Operand → AV) : tcO (.entryStore t m x v) ρ = some none := .trans rfl rfl
@[congr] theorem lookupG_congr {t : TypeId} {m m' x x' : AV} {ok : Bool} {H H' : Heap} {K : AV → Prop} (h : m = m') (h1 : x = x') (h2 : H = H') : lookupG P t m x ok H K = lookupG P t m' x' ok H' K := by rw [h, h1, h2]
@[congr] theorem mapUpdateG_congr {t : TypeId} {m m' x x' v v' : AV} {H H' : Heap} {K : AV → Heap → Prop} (h : m = m') (h1 : x = x') (h3 : v = v') (h2 : H = H') : mapUpdateG P t m x v H K = mapUpdateG P t m' x' v' H' K := by rw [h, h1, h2, h3]
@[congr] theorem mapEntryG_congr {t : TypeId} {m m' x x' : AV} {H H' : Heap} {K : AV → Heap → Prop} (h : m = m') (h1 : x = x') (h2 : H = H') : mapEntryG P t m x H K = mapEntryG P t m' x' H' K := by rw [h, h1, h2]
@[congr] theorem entryStoreG_congr {m m' x x' v v' : AV} {H H' : Heap} {K : AV → Heap → Prop} (h : m = m') (h1 : x = x') (h3 : v = v') (h2 : H = H') : entryStoreG m x v H K = entryStoreG m' x' v' H' K := by rw [h, h1, h2, h3]
@[congr] theorem makeMapG_congr {t : TypeId} {H H' : Heap} {K : AV → Heap → Prop} (h2 : H = H') : makeMapG P t H K = makeMapG P t H' K := by rw [h2]
/-- A look into a map, a map's cell written: in a drawn region. -/
def lookD (P : Program) (t : TypeId) (m x : AV) (ok : Bool) (Hb : Heap) [K : Hold (AV → List (Nat × Root) → List Root → Prop)] (_t : True) : Prop :=
  ∃ av st news, lookupG P t m x ok Hb (fun a => a = av ∧ Hb = setA st Hb ++ news) ∧ K.v av st news
def putD (P : Program) (t : TypeId) (m x v : AV) (Hb : Heap) [K : Hold (AV → List (Nat × Root) → List Root → Prop)] (_t : True) : Prop :=
  ∃ av st news, mapUpdateG P t m x v Hb (fun a h => a = av ∧ h = setA st Hb ++ news) ∧ K.v av st news
@[simp] theorem callV_lookup (t : TypeId) (m x : Operand) (ok : Bool) (ρ : Operand → AV) (Hb : Heap) (K : AV → List (Nat × Root) → List Root → Prop) : callV P (.lookup t m x ok) ρ Hb K = @lookD P t (ρ m) (ρ x) ok Hb ⟨K⟩ trivial := .trans rfl rfl
@[simp] theorem callV_mapUpdate (t : TypeId) (m x v : Operand) (ρ : Operand → AV) (Hb : Heap) (K : AV → List (Nat × Root) → List Root → Prop) : callV P (.mapUpdate t m x v) ρ Hb K = @putD P t (ρ m) (ρ x) (ρ v) Hb ⟨K⟩ trivial := .trans rfl rfl
theorem lookD_r {t kt et : TypeId} {m x : AV} {Hb : Heap} {K : AV → List (Nat × Root) → List Root → Prop} {e r : Nat} {k : List Int} {z : AV} {nw bx : Bool} {ks : List (List Int)} {vs : List AV} (ht : P.underlying t = some (.map kt et)) (hK : KeyOk P kt e) (hl : k.length = kwid e) (hw : WfK k)
    (hz : zeroOne P et = some z) (hat : MapAt Hb r nw bx e ks vs) (hm : m = .mp r) (hx : x = keyA e k) (hk : K (getM ks vs k z) [] []) : @lookD P t m x false Hb ⟨K⟩ trivial := by
  subst hm; subst hx
  refine ⟨_, [], [], ?_, hk⟩
  unfold lookupG mapT
  rw [ht]
  exact ⟨rfl, e, k, z, hK, hl, hw, rfl, hz, nw, bx, ks, vs, hat, rfl, by simp [setA]⟩
theorem putD_r {t kt et : TypeId} {m x v : AV} {Hb : Heap} {K : AV → List (Nat × Root) → List Root → Prop} {e r : Nat} {k : List Int} {nw bx : Bool} {ks : List (List Int)} {vs : List AV} (ht : P.underlying t = some (.map kt et)) (hK : KeyOk P kt e) (hl : k.length = kwid e) (hw : WfK k)
    (hat : MapAt Hb r nw bx e ks vs) (hm : m = .mp r) (hx : x = keyA e k) (hv : v.cellsOf = some [v]) (hp : (bx || v.isPure) = true) (hk : K .any [(r, .blk nw bx e (rowA (putK ks k) (putV ks vs k v)))] []) : @putD P t m x v Hb ⟨K⟩ trivial := by
  subst hm; subst hx
  refine ⟨_, [(r, .blk nw bx e (rowA (putK ks k) (putV ks vs k v)))], [], ?_, hk⟩
  unfold mapUpdateG mapT
  rw [ht]
  refine ⟨e, k, hK, hl, hw, rfl, hv, nw, bx, ks, vs, hat, hp, rfl, ?_⟩
  simp only [setA, List.append_nil]
  rw [setL_eq hat.1]
theorem look_r {t kt et : TypeId} {m x : AV} {H : Heap} {K : AV → Prop} {e r : Nat} {k : List Int} {z : AV} {nw bx : Bool} {ks : List (List Int)} {vs : List AV} (ht : P.underlying t = some (.map kt et)) (hK : KeyOk P kt e) (hl : k.length = kwid e) (hw : WfK k)
    (hz : zeroOne P et = some z) (hat : MapAt H r nw bx e ks vs) (hm : m = .mp r) (hx : x = keyA e k) (hk : K (getM ks vs k z)) : lookupG P t m x false H K := by
  subst hm; subst hx
  unfold lookupG mapT
  rw [ht]
  exact ⟨rfl, e, k, z, hK, hl, hw, rfl, hz, nw, bx, ks, vs, hat, hk⟩
theorem look_v {t kt et : TypeId} {m x : AV} {H : Heap} {K : AV → Prop} {e : Nat} {k : List Int} {z : AV} {nw : Bool} {ks : List (List Int)} {vs : List AV} (ht : P.underlying t = some (.map kt et)) (hK : KeyOk P kt e) (hl : k.length = kwid e) (hw : WfK k)
    (hz : zeroOne P et = some z) (hks : KeysOk e ks) (hm : m = .mview nw e ks vs) (hx : x = keyA e k) (hk : K (getM ks vs k z)) : lookupG P t m x false H K := by
  subst hm; subst hx
  unfold lookupG mapT
  rw [ht]
  exact ⟨rfl, e, k, z, hK, hl, hw, rfl, hz, rfl, hks, hk⟩
theorem entry_r {t kt et : TypeId} {m x : AV} {H : Heap} {K : AV → Heap → Prop} {e r : Nat} {k : List Int} {z : AV} {nw bx : Bool} {ks : List (List Int)} {vs : List AV} (ht : P.underlying t = some (.map kt et)) (hK : KeyOk P kt e) (hl : k.length = kwid e) (hw : WfK k)
    (hz : zeroOne P et = some z) (hzp : z.isPure = true) (hat : MapAt H r nw bx e ks vs) (hm : m = .mp r) (hx : x = keyA e k)
    (hk : K (.tup [getM ks vs k z, .int .i64 (idxM ks k)]) (H.set r (.blk nw bx e (rowA (putK ks k) (putV ks vs k (getM ks vs k z)))))) : mapEntryG P t m x H K := by
  subst hm; subst hx
  unfold mapEntryG mapT
  rw [ht]
  exact ⟨e, k, z, hK, hl, hw, rfl, hz, hzp, nw, bx, ks, vs, hat, hk⟩
theorem estore_r {m s v : AV} {H : Heap} {K : AV → Heap → Prop} {e r j : Nat} {nw bx : Bool} {ks : List (List Int)} {vs : List AV} (hj : j < ks.length) (hat : MapAt H r nw bx e ks vs) (hm : m = .mp r) (hs : s = .int .i64 j) (hv : v.cellsOf = some [v]) (hp : (bx || v.isPure) = true)
    (hk : K .any (H.set r (.blk nw bx e (rowA ks (vs.set j v))))) : entryStoreG m s v H K := by
  subst hm; subst hs
  exact ⟨j, nw, bx, e, ks, vs, rfl, hj, hat, hv, hp, hk⟩
theorem make_r {t kt et : TypeId} {H : Heap} {K : AV → Heap → Prop} (e : Nat) (ht : P.underlying t = some (.map kt et)) (hk : K (.mp H.length) (H ++ [.blk true true e []])) : makeMapG P t H K := by
  unfold makeMapG mapT
  rw [ht]
  exact ⟨e, hk⟩
/-- The keys that int64s are, and arrays of them. -/
theorem keyOk_int {kt : TypeId} (h : P.underlying kt = some (.int .i64)) : KeyOk P kt 0 where
  law := Maps.int_keyed h
  lit k hl hw := by
    obtain ⟨a, rfl⟩ := List.length_eq_one_iff.1 hl
    have := hw a (List.mem_cons_self ..)
    refine ⟨.int .i64 a, Maps.keyOf_int_mk h ?_⟩
    have e1 : IntKind.i64.min = -9223372036854775808 := by decide
    have e2 : IntKind.i64.max = 9223372036854775807 := by decide
    have h2 : Lit.wf (.int .i64 a) = decide (IntKind.i64.min ≤ a ∧ a ≤ IntKind.i64.max) := by simp [Lit.wf]
    show Lit.wf (.int .i64 a) = true
    rw [h2, e1, e2]
    exact decide_eq_true (by omega)
/-- A map that is given up to be read alone, its rows with it. -/
inductive Froz (H : Heap) (F : Nat → Prop) : AV → AV → Prop
  | row (q n : Nat) (e : TypeId) (cells : List AV) (h : H[q]? = some (.blk true false e cells)) (hn : n ≤ cells.length) (hF : F q) : Froz H F (.slc q 0 n 1) (.view true (cells.take n) n)
  | pure (a : AV) (h : a.isPure = true) : Froz H F a a
theorem weak_freeze {H0 H H1 : Heap} {s s1 : List AV} (F : Nat → Prop) {r : Nat} {bx : Bool} {e : Nat} {ks : List (List Int)} {vs ws : List AV} (hat : MapAt H r true bx e ks vs) (hFr : F r)
    (hl : ws.length = vs.length) (hv : ∀ (j : Nat) a b, vs[j]? = some a → ws[j]? = some b → Froz H F a b)
    (hlen : H1.length = H.length) (hH : ∀ (q : Nat) nw bx e c, H1[q]? = some (.blk nw bx e c) → H[q]? = some (.blk nw bx e c) ∧ ¬ F q)
    (hs : s1.length = s.length) (hsv : ∀ (i : Nat) b, s1[i]? = some b → b = .any ∨ s[i]? = some b ∨ s[i]? = some (.mp r) ∧ b = .mview true e ks ws) : Weak H0 s H s1 H1 := by
  rintro m0 w0 X a w hX hm0 ⟨map, h1, h2, h3, h4, h5⟩
  have hmut : ∀ b, mutOf map H1 b → mutOf map H b := by
    rintro b ⟨q, N, nw, bx, e, c, g1, g2⟩
    exact ⟨q, N, nw, bx, e, c, (hH q nw bx e c g1).1, g2⟩
  have hL : Later (env map H X w0.heap.size) w (env map H1 X w0.heap.size) w := ⟨fun _ _ h => h, Nat.le_refl _, fun b _ g => g.imp (hmut b) id, Nat.le_refl _, fun _ _ _ => rfl⟩
  -- what is given up is no longer live
  have hdead : ∀ (q : Nat) (nw bx : Bool) (e : TypeId) (c : List AV) (b N : Nat), F q → H[q]? = some (.blk nw bx e c) → map q = some (some (b, N)) → w0.heap.size ≤ b → ¬ (env map H1 X w0.heap.size).live b := by
    rintro q nw bx e c b N hF hq hm hb (⟨q', N', nw', bx', e', c', g1, g2⟩ | g)
    · obtain ⟨g3, g4⟩ := hH q' _ _ _ _ g1
      have := h2.inj q' q b N' N _ _ _ _ _ _ _ _ g3 hq g2 hm
      exact g4 (by rw [this]; exact hF)
    · exact absurd (hX b g).1 (Nat.not_lt.2 hb)
  have hval : ∀ (x y : AV) (v : Value), Froz H F x y → VRel w (env map H X w0.heap.size) x v → VRel w (env map H1 X w0.heap.size).pure y v := by
    intro x y v hf hr
    cases hf with
    | pure _ h => exact (hr.to_pure h).later hL.pure
    | row q n e cells hq hn hF =>
      cases hr with
      | slcv _ _ hm =>
        exact .view0 _ _ _ _ (Nat.zero_le _)
      | slc _ _ _ _ b N cap hm k1 k2 k3 =>
        rcases h2.root q _ _ _ _ hq with ⟨q1, _⟩ | ⟨b', N', arr, q1, q2, q3, q4, q6, q5⟩
        · rw [q1] at hm; cases hm
        · rw [q1] at hm; cases hm
          replace q2 := q2.cells
          refine .view true (cells.take n) n b 0 cap k1 k2 (block_lt q2) (fun _ => q6 rfl) (hdead q _ _ _ _ b (N + 1) hF hq q1 (q6 rfl)) (fun j => arr.getD j undef) (fun j a' ha' => ?_) (fun j a' ha' => ?_) (fun j a' ha' => ?_)
          all_goals
            rw [List.getElem?_take] at ha'
            split at ha'
            · obtain ⟨u, u1, u2, u3⟩ := q5 j a' ha'
              have hu : arr.getD j undef = u := by rw [Array.getD_eq_getD_getElem?, u1]; rfl
              first
                | (rw [cell_at q2, Nat.zero_add, u1, hu])
                | (rw [hu]; exact u2)
                | (rw [hu]; exact u3.later hL.pure)
            · cases ha'
  refine ⟨map, ⟨by rw [hs]; exact h1.1, fun i b v hb hv' => ?_⟩, ⟨fun q nw bx e c hq => ?_, fun q q' b N N' n1 n2 x1 x2 e1 e2 c1 c2 g1 g2 => h2.inj q q' b N N' _ _ _ _ _ _ _ _ (hH q _ _ _ _ g1).1 (hH q' _ _ _ _ g2).1, h2.glob.later hL⟩,
    ⟨h3.os, h3.tape, h3.output, h3.size, h3.block, h3.same, fun q hq => h3.out q (by rw [hlen] at hq; exact hq), by rw [hlen]; exact h3.len, fun b hb g => h3.old b hb (hmut b g)⟩, fun q hq => h4 q (by omega), h5⟩
  · rcases hsv i b hb with rfl | g | ⟨g, rfl⟩
    · exact .any v
    · exact (h1.2 i b v g hv').later hL
    · have hr := h1.2 i _ v g hv'
      obtain ⟨b, us, rfl, hmr, hh, hlu, hbx, hnb, hrel⟩ := map_root h2 hr hat
      have hlv := hat.2.1
      refine .mview true e ks ws b us (block_lt hh) hnb (hdead r _ _ _ _ b 0 hFr hat.1 hmr (hnb rfl)) hh hlu (by omega) hat.2.2.len fun j a' u ha' hu => ?_
      have hlt := (List.getElem?_eq_some_iff.1 ha').1
      have hx : vs[j]? = some (vs[j]'(by omega)) := List.getElem?_eq_getElem (by omega)
      exact hval _ a' u (hv j _ a' hx ha') (hrel j _ u hx hu).2
  · exact (h2.root q _ _ _ _ (hH q _ _ _ _ hq).1).later hL fun _ _ _ => rfl
end Go.Awp
