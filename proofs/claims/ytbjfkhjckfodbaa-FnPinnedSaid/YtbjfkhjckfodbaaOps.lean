/- Operations that leave memory alone: what they come to, on abstract values.
Conditions: none. -/
import Derived.Test.YtbjfkhjckfodbaaRel
import Derived.Laws.StructEq
namespace Go.Awp
set_option linter.all false
open Go

def AV.of1 : Value → AV
  | .int k n => .int k n
  | .bool b => .bool b
  | .float k b => if b < 2 ^ k.format.width then .flt k (cn k b) else .any
  | .string s => .str s
  | .nilIface => .ifc true
  | .pointer none => .nilp
  | .slice none 0 0 => .nils
  | .nilFunc => .nilf
  | .func (.func f) #[] #[] => .clo f [] []
  | _ => .any
def AV.ofVal : Value → AV
  | .agg vs => if vs.all (·.oneCell') then .agg (vs.toList.map AV.of1) else .any
  | v => AV.of1 v

theorem rel_of1 (w : World) (E : Env) (v : Value) : VRel w E (AV.of1 v) v := by
  cases v with
  | int k n => exact .int _ _
  | bool b => exact .bool _
  | float k b =>
    show VRel w E (if b < 2 ^ k.format.width then .flt k (cn k b) else .any) _
    split
    · exact .flt _ _ _ rfl ‹_›
    · exact .any _
  | string s => exact .str _
  | nilIface => exact .ifc true _ rfl
  | pointer a => cases a with
    | none => exact .nilp
    | some a => exact .any _
  | slice a l c =>
    cases a with
    | none =>
      cases l with
      | zero => cases c with
        | zero => exact .nils
        | succ c => exact .any _
      | succ l => exact .any _
    | some a => exact .any _
  | nilFunc => exact .nilf
  | func fn x y =>
    cases fn with
    | func f =>
      obtain ⟨x⟩ := x
      obtain ⟨y⟩ := y
      cases x with
      | nil => cases y with
        | nil => exact .clo _ [] [] #[] #[] rfl rfl (fun i a v h => by simp at h) (fun i a v h => by simp at h)
        | cons a l => exact .any _
      | cons a l => exact .any _
    | _ => exact .any _
  | _ => exact .any _
theorem rel_ofVal (w : World) (E : Env) (v : Value) : VRel w E (AV.ofVal v) v := by
  unfold AV.ofVal
  split
  · split
    · rename_i vs h
      refine .agg _ vs (by simp) (fun i v hv => ?_) (fun i a v ha hv => ?_)
      · rw [Array.all_eq_true] at h
        obtain ⟨hi, rfl⟩ := Array.getElem?_eq_some_iff.1 hv
        exact h i hi
      · rw [List.getElem?_map, Array.getElem?_toList, hv] at ha
        cases ha
        exact rel_of1 w E v
    · exact .any _
  · exact rel_of1 w E _

/-- What an operand is worth. -/
def evalA (slots : List AV) : Operand → AV
  | .tmp t => slots.getD t .any
  | .const v => AV.ofVal v
  | .global _ => .any
  | .func f => .clo f [] []

def SRel (w : World) (E : Env) (slots : List AV) (tmps : Array Value) : Prop :=
  slots.length = tmps.size ∧ ∀ (i : Nat) a v, slots[i]? = some a → tmps[i]? = some v → VRel w E a v

theorem rel_eval {w : World} {E : Env} {slots : List AV} {a : Act} (h : SRel w E slots a.tmps) (x : Operand) : VRel w E (evalA slots x) (a.eval x) := by
  cases x with
  | tmp t =>
    show VRel w E (slots.getD t .any) (a.tmps.getD t undef)
    rw [List.getD_eq_getElem?_getD, Array.getD_eq_getD_getElem?]
    cases h1 : slots[t]? with
    | none => exact .any _
    | some av =>
      cases h2 : a.tmps[t]? with
      | none =>
        have h3 := (List.getElem?_eq_some_iff.1 h1).1
        have h4 := Array.getElem?_eq_none_iff.1 h2
        rw [h.1] at h3; omega
      | some v => exact h.2 t av v h1 h2
  | const v => exact rel_ofVal w E v
  | global g => exact .any _
  | func f => exact .clo _ [] [] #[] #[] rfl rfl (fun i a v h => by simp at h) (fun i a v h => by simp at h)

/-- The run of one operation: a value, that the continuation gets. -/
def OpRun (P : Program) (o : Oper) (ρ : Operand → Value) (w : World) (R : Value → World → Prop) : Prop :=
  ∀ (a : Act) (next : Act → World → Prop) (Q : Exit → Act → World → Prop), (∀ v w', R v w' → next (a.put o.dst v) w') → o.upon P a next Q ((execOp ρ o).run P w)

theorem OpRun.value {P : Program} {o : Oper} {ρ : Operand → Value} {w w' : World} {R : Value → World → Prop} {v : Value} (h : (execOp ρ o).run P w = .ok (.value v) w') (hr : R v w') : OpRun P o ρ w R := by
  intro a next Q hn; rw [h]; exact hn v w' hr
theorem OpRun.skip {P : Program} {o : Oper} {ρ : Operand → Value} {w w' : World} {R : Value → World → Prop} (h : (execOp ρ o).run P w = .ok .skip w') (hr : R undef w') : OpRun P o ρ w R := by
  intro a next Q hn; rw [h]; exact hn undef w' hr
theorem OpRun.mono {P : Program} {o : Oper} {ρ : Operand → Value} {w : World} {R R' : Value → World → Prop} (h : OpRun P o ρ w R) (hr : ∀ v w', R v w' → R' v w') : OpRun P o ρ w R' :=
  fun a next Q hn => h a next Q fun v w' hv => hn v w' (hr v w' hv)

/-- A computation that leaves memory alone. -/
def PureOk (P : Program) (w : World) (E : Env) (s : Sem Value) (K : AV → Prop) : Prop :=
  ∃ v n av, s.run P w = .ok v (w.drewN n) ∧ VRel (w.drewN n) E av v ∧ K av

theorem PureOk.of {P : Program} {w : World} {E : Env} {s : Sem Value} {K : AV → Prop} {v : Value} {av : AV} (h : s.run P w = .ok v w) (hr : VRel w E av v) (hk : K av) : PureOk P w E s K :=
  ⟨v, 0, av, h, hr, hk⟩

def bitsV (op : BinOp) (k : IntKind) (x y : Int) : Int :=
  match op with
  | .and => k.wrap (BitVec.ofInt k.bits x &&& BitVec.ofInt k.bits y).toNat
  | .or => k.wrap (BitVec.ofInt k.bits x ||| BitVec.ofInt k.bits y).toNat
  | .xor => k.wrap (BitVec.ofInt k.bits x ^^^ BitVec.ofInt k.bits y).toNat
  | _ => k.wrap (BitVec.ofInt k.bits x &&& ~~~BitVec.ofInt k.bits y).toNat

def binI (op : BinOp) (k : IntKind) (x y : Int) (K : AV → Prop) : Prop :=
  match op with
  | .add => K (.int k (k.wrap (x + y)))
  | .sub => K (.int k (k.wrap (x - y)))
  | .mul => K (.int k (k.wrap (x * y)))
  | .quo => y ≠ 0 ∧ K (.int k (k.wrap (x.tdiv y)))
  | .rem => y ≠ 0 ∧ K (.int k (x.tmod y))
  | .and => K (.int k (bitsV .and k x y))
  | .or => K (.int k (bitsV .or k x y))
  | .xor => K (.int k (bitsV .xor k x y))
  | .andNot => K (.int k (bitsV .andNot k x y))
  | .eql => K (.bool (x == y))
  | .neq => K (.bool (x != y))
  | .lss => K (.bool (decide (x < y)))
  | .leq => K (.bool (decide (x ≤ y)))
  | .gtr => K (.bool (decide (x > y)))
  | .geq => K (.bool (decide (x ≥ y)))
  | _ => False

def binF (op : BinOp) (k : FloatKind) (x y : Nat) (K : AV → Prop) : Prop :=
  match op with
  | .add => K (.flt k (fop .add k x y))
  | .sub => K (.flt k (fop .sub k x y))
  | .mul => K (.flt k (fop .mul k x y))
  | .quo => K (.flt k (fop .quo k x y))
  | .eql => K (.bool (ford k x y == some .eq))
  | .neq => K (.bool (ford k x y != some .eq))
  | .lss => K (.bool (ford k x y == some .lt))
  | .leq => K (.bool (ford k x y == some .lt || ford k x y == some .eq))
  | .gtr => K (.bool (ford k x y == some .gt))
  | .geq => K (.bool (ford k x y == some .gt || ford k x y == some .eq))
  | _ => False

def binS (op : BinOp) (x y : ByteArray) (K : AV → Prop) : Prop :=
  match op with
  | .add => x.size + y.size ≤ 9223372036854775807 ∧ K (.str (x ++ y))
  | .eql => K (.bool (x.toList == y.toList))
  | .neq => K (.bool (!(x.toList == y.toList)))
  | .lss => K (.bool (Op.bytesLess x.toList y.toList))
  | .leq => K (.bool (Op.bytesLess x.toList y.toList || x.toList == y.toList))
  | .gtr => K (.bool (!(Op.bytesLess x.toList y.toList || x.toList == y.toList)))
  | .geq => K (.bool (!(Op.bytesLess x.toList y.toList)))
  | _ => False

/-- '==' of structs of three numbers is that of their parts. -/
def EqTy (P : Program) (t : TypeId) : Prop := P.eqGuardType P.depth t = false ∧
  ∀ (a b c a' b' c' : Nat) (w : World), (Op.equalIn 10000 t (.agg #[.float .f32 a, .float .f32 b, .float .f32 c]) (.agg #[.float .f32 a', .float .f32 b', .float .f32 c'])).run P w =
    .ok (ford .f32 a a' == some .eq && (ford .f32 b b' == some .eq && ford .f32 c c' == some .eq)) w
def binA (P : Program) (op : BinOp) (t : TypeId) (l l' : List AV) (K : AV → Prop) : Prop :=
  match l, l' with
  | [.flt .f32 a, .flt .f32 b, .flt .f32 c], [.flt .f32 a', .flt .f32 b', .flt .f32 c'] => EqTy P t ∧ (match op with
    | .eql => K (.bool (ford .f32 a a' == some .eq && (ford .f32 b b' == some .eq && ford .f32 c c' == some .eq)))
    | .neq => K (.bool (!(ford .f32 a a' == some .eq && (ford .f32 b b' == some .eq && ford .f32 c c' == some .eq))))
    | _ => False)
  | _, _ => False
/-- The literal nil of an interface's type. -/
def isNilC : Operand → Bool
  | .const .nilIface => true
  | _ => false
def isIfc (P : Program) (t : TypeId) : Bool := match P.underlying t with
  | some (.interface _) => true
  | _ => false
/-- An interface value against the literal nil. -/
def ifcG (P : Program) (op : BinOp) (t : TypeId) (a b : AV) (K : AV → Prop) : Prop :=
  match a, b with
  | .ifc z, .ifc true => isIfc P t = true ∧ (match op with
    | .eql => K (.bool z)
    | .neq => K (.bool (!z))
    | _ => False)
  | _, _ => False

def binG (P : Program) (op : BinOp) (t : TypeId) (a b : AV) (K : AV → Prop) : Prop :=
  match a, b with
  | .int k x, .int k' y =>
    match op with
    | .shl => 0 ≤ y ∧ K (.int k (k.wrap (x * 2 ^ (min y.toNat k.bits))))
    | .shr => 0 ≤ y ∧ K (.int k (x.fdiv (2 ^ (min y.toNat k.bits))))
    | op => k = k' ∧ binI op k x y K
  | .flt k x, .flt k' y => k = k' ∧ binF op k x y K
  | .bool x, .bool y => P.underlying t = some .bool ∧ (match op with
    | .eql => K (.bool (x == y))
    | .neq => K (.bool (!(x == y)))
    | _ => False)
  | .str x, .str y => binS op x y K
  | .agg l, .agg l' => binA P op t l l' K
  | _, _ => False
def binX (P : Program) (op : BinOp) (t : TypeId) (c : Bool) (a b : AV) (K : AV → Prop) : Prop := if c = true then ifcG P op t a b K else binG P op t a b K

section
variable {P : Program} {w : World} {E : Env}

theorem binI_ok {op : BinOp} {t : TypeId} {k : IntKind} {x y : Int} {K : AV → Prop} (h : binI op k x y K) : PureOk P w E (binOp op t (.int k x) (.int k y)) K := by
  unfold binI at h
  cases op <;> simp only at h <;> first | exact h.elim | skip
  · exact .of (by simp [binOp, Op.intArith]) (.int _ _) h
  · exact .of (by simp [binOp, Op.intArith]) (.int _ _) h
  · exact .of (by simp [binOp, Op.intArith]) (.int _ _) h
  · exact .of (by simp [binOp, Op.intDiv, h.1]) (.int _ _) h.2
  · exact .of (by simp [binOp, Op.intDiv, h.1]) (.int _ _) h.2
  · exact .of (v := .int k (bitsV .and k x y)) (by simp only [binOp_and, Op.intBits]; rfl) (.int _ _) h
  · exact .of (v := .int k (bitsV .or k x y)) (by simp only [binOp_or, Op.intBits]; rfl) (.int _ _) h
  · exact .of (v := .int k (bitsV .xor k x y)) (by simp only [binOp_xor, Op.intBits]; rfl) (.int _ _) h
  · exact .of (v := .int k (bitsV .andNot k x y)) (by simp only [binOp_andNot, Op.intBits]; rfl) (.int _ _) h
  · exact .of (by simp [binOp, Op.intCmp]) (.bool _) h
  · exact .of (by simp [binOp, Op.intCmp]) (.bool _) h
  · exact .of (by simp [binOp, Op.intCmp]) (.bool _) h
  · exact .of (by simp [binOp, Op.intCmp]) (.bool _) h
  · exact .of (by simp [binOp, Op.intCmp]) (.bool _) h
  · exact .of (by simp [binOp, Op.intCmp]) (.bool _) h

theorem binF_ok {op : BinOp} {t : TypeId} {k : FloatKind} {x y x' y' : Nat} {K : AV → Prop} (hx : cn k x' = x) (hy : cn k y' = y) (h : binF op k x y K) :
    PureOk P w E (binOp op t (.float k x') (.float k y')) K := by
  subst hx; subst hy
  have arith : ∀ op', (op' = BinOp.add ∨ op' = .sub ∨ op' = .mul ∨ op' = .quo) → K (.flt k (fop op' k (cn k x') (cn k y'))) → PureOk P w E (binOp op' t (.float k x') (.float k y')) K := by
    intro op' ho hk
    obtain ⟨r, n, hr, hc, hl⟩ := run_fop (P := P) w op' t k x' y' ho
    exact ⟨_, n, _, hr, .flt _ _ _ hc hl, by rw [fop_cn] at hk; exact hk⟩
  have cmp : ∀ op' b, fcmp op' k (cn k x') (cn k y') = some b → K (.bool b) → PureOk P w E (binOp op' t (.float k x') (.float k y')) K := by
    intro op' b hb hk
    rw [fcmp_cn] at hb
    exact .of (run_fcmp hb) (.bool _) hk
  unfold binF at h
  cases op <;> simp only at h <;> first | exact h.elim | skip
  · exact arith _ (by simp) h
  · exact arith _ (by simp) h
  · exact arith _ (by simp) h
  · exact arith _ (by simp) h
  · exact cmp _ _ rfl h
  · exact cmp _ _ rfl h
  · exact cmp _ _ rfl h
  · exact cmp _ _ rfl h
  · exact cmp _ _ rfl h
  · exact cmp _ _ rfl h

theorem binS_ok {op : BinOp} {t : TypeId} {x y : ByteArray} {K : AV → Prop} (h : binS op x y K) : PureOk P w E (binOp op t (.string x) (.string y)) K := by
  unfold binS at h
  cases op <;> simp only at h <;> first | exact h.elim | skip
  · refine .of (v := .string (x ++ y)) ?_ (.str _) h.2
    have h1 : ¬ ((x.size : Int) + (y.size : Int) > IntKind.i64.max) := by
      have : IntKind.i64.max = 9223372036854775807 := by decide
      rw [this]; omega
    show (binOp .add t (.string x) (.string y)).run P w = _
    have h2 : ¬ (((x.size + y.size : Nat) : Int) > IntKind.i64.max) := by rw [Int.natCast_add]; exact h1
    simp only [binOp, Op.stringOp, if_neg h2]
    rfl
  · exact .of (by simp [binOp, Op.stringOp]) (.bool _) h
  · exact .of (by simp [binOp, Op.stringOp]) (.bool _) h
  · exact .of (by simp [binOp, Op.stringOp]) (.bool _) h
  · exact .of (by simp [binOp, Op.stringOp]) (.bool _) h
  · exact .of (by simp [binOp, Op.stringOp]) (.bool _) h
  · exact .of (by simp [binOp, Op.stringOp]) (.bool _) h

theorem three_flt {a b c : Nat} {vs : Array Value} (h1 : [AV.flt .f32 a, .flt .f32 b, .flt .f32 c].length = vs.size) (h3 : ∀ (i : Nat) av v, [AV.flt .f32 a, .flt .f32 b, .flt .f32 c][i]? = some av → vs[i]? = some v → VRel w E av v) :
    ∃ x y z : Nat, vs = #[.float .f32 x, .float .f32 y, .float .f32 z] ∧ cn .f32 x = a ∧ cn .f32 y = b ∧ cn .f32 z = c := by
  obtain ⟨vs⟩ := vs
  match vs, h1 with
  | [v0, v1, v2], _ =>
    have r0 := h3 0 _ v0 rfl rfl
    have r1 := h3 1 _ v1 rfl rfl
    have r2 := h3 2 _ v2 rfl rfl
    cases r0 with
    | flt _ _ x hx _ =>
      cases r1 with
      | flt _ _ y hy _ =>
        cases r2 with
        | flt _ _ z hz _ => exact ⟨x, y, z, rfl, hx, hy, hz⟩
theorem binA_ok {op : BinOp} {t : TypeId} {l l' : List AV} {vs vs' : Array Value} {K : AV → Prop} (h1 : l.length = vs.size) (h1' : l'.length = vs'.size) (h3 : ∀ (i : Nat) av v, l[i]? = some av → vs[i]? = some v → VRel w E av v)
    (h3' : ∀ (i : Nat) av v, l'[i]? = some av → vs'[i]? = some v → VRel w E av v) (h : binA P op t l l' K) : PureOk P w E (binOp op t (.agg vs) (.agg vs')) K := by
  unfold binA at h
  split at h
  · obtain ⟨x, y, z, rfl, e1, e2, e3⟩ := three_flt h1 h3
    obtain ⟨x', y', z', rfl, e1', e2', e3'⟩ := three_flt h1' h3'
    subst e1; subst e2; subst e3; subst e1'; subst e2'; subst e3'
    obtain ⟨⟨_, he⟩, h⟩ := h
    simp only [ford_cn] at h
    split at h
    · exact .of (v := .bool _) (by rw [run_eql_struct, he]; rfl) (.bool _) h
    · exact .of (v := .bool _) (by rw [run_neq_struct, he]; rfl) (.bool _) h
    · exact h.elim
  · exact h.elim
theorem run_eqI_nn (d : Nat) (t : TypeId) (ms : Array (String × TypeId)) (hu : P.underlying t = some (.interface ms)) : (Op.equalIn (d + 1) t .nilIface .nilIface).run P w = .ok true w := by
  simp [Op.equalIn, run_underlying hu]
theorem run_eqI_in (d : Nat) (t ti : TypeId) (p : Value) (ms : Array (String × TypeId)) (hu : P.underlying t = some (.interface ms)) : (Op.equalIn (d + 1) t (.iface ti p) .nilIface).run P w = .ok false w := by
  simp [Op.equalIn, run_underlying hu]
theorem run_equal_nn (t : TypeId) (ms : Array (String × TypeId)) (hu : P.underlying t = some (.interface ms)) : (Op.equal t .nilIface .nilIface).run P w = .ok true w := run_eqI_nn 9999 t ms hu
theorem run_equal_in (t ti : TypeId) (p : Value) (ms : Array (String × TypeId)) (hu : P.underlying t = some (.interface ms)) : (Op.equal t (.iface ti p) .nilIface).run P w = .ok false w := run_eqI_in 9999 t ti p ms hu
theorem ifcG_ok {op : BinOp} {t : TypeId} {a b : AV} {x y : Value} {K : AV → Prop} (hx : VRel w E a x) (hy : VRel w E b y) (h : ifcG P op t a b K) :
    PureOk P w E (binOp op t x y) K := by
  unfold ifcG at h
  split at h
  · rename_i z
    obtain ⟨hi, h⟩ := h
    unfold isIfc at hi
    split at hi
    · rename_i ms hu
      cases hx with
      | ifc _ _ hz =>
        cases hy with
        | ifc _ _ hz' =>
          have hz' : y = .nilIface := hz'
          subst hz'
          cases z with
          | true =>
            have hz : x = .nilIface := hz
            subst hz
            split at h
            · exact .of (v := .bool true) (by simp only [binOp]; simp [run_equal_nn t ms hu]) (.bool _) h
            · exact .of (v := .bool false) (by simp only [binOp]; simp [run_equal_nn t ms hu]) (.bool _) h
            · exact h.elim
          | false =>
            obtain ⟨ti, p, rfl⟩ := hz
            split at h
            · exact .of (v := .bool false) (by simp only [binOp]; simp [run_equal_in t ti p ms hu]) (.bool _) h
            · exact .of (v := .bool true) (by simp only [binOp]; simp [run_equal_in t ti p ms hu]) (.bool _) h
            · exact h.elim
    · cases hi
  · exact h.elim
theorem binG_ok {op : BinOp} {t : TypeId} {a b : AV} {x y : Value} {K : AV → Prop} (hx : VRel w E a x) (hy : VRel w E b y) (h : binG P op t a b K) :
    PureOk P w E (binOp op t x y) K := by
  unfold binG at h
  split at h
  · cases hx; cases hy
    split at h
    · refine .of (v := .int _ _) ?_ (.int _ _) h.2
      simp [binOp, Op.shift, Int.not_lt.2 h.1]
    · refine .of (v := .int _ _) ?_ (.int _ _) h.2
      simp [binOp, Op.shift, Int.not_lt.2 h.1]
    · obtain ⟨rfl, h⟩ := h
      exact binI_ok h
  · cases hx; cases hy
    obtain ⟨rfl, h⟩ := h
    exact binF_ok ‹_› ‹_› h
  · cases hx; cases hy
    obtain ⟨hu, h⟩ := h
    split at h
    · exact .of (run_eql_bool w t _ _ hu) (.bool _) h
    · exact .of (run_neq_bool w t _ _ hu) (.bool _) h
    · exact h.elim
  · cases hx; cases hy
    exact binS_ok h
  · cases hx with
    | agg _ vs h1 h2 h3 =>
      cases hy with
      | agg _ vs' h1' h2' h3' => exact binA_ok h1 h1' h3 h3' h
  · exact h.elim

/-- '==' asks first whether both are nil interface values, or aggregates that hold such: none of ours. -/
theorem run_eqGuard {op : BinOp} {t : TypeId} {x y : Operand} {a b : Value} (ha : a.oneCell' = true) (hi : a ≠ .nilIface) : (eqGuard op t x y a b).run P w = .ok () w := by
  unfold eqGuard
  by_cases h : op = .eql ∨ op = .neq
  · rcases h with rfl | rfl
    all_goals
      cases a <;> first | (cases ha; done) | (exact absurd rfl hi) | simp
  · cases op <;> first | (exact absurd (.inl rfl) h) | (exact absurd (.inr rfl) h) | simp

def unG (op : UnOp) (a : AV) (K : AV → Prop) : Prop :=
  match op, a with
  | .neg, .int k n => K (.int k (k.wrap (0 - n)))
  | .not, .bool b => K (.bool (!b))
  | .neg, .flt k x => K (.flt k (fneg k x))
  | .xor, .int k n => K (.int k (bitsV .xor k (if k.signed then -1 else k.max) n))
  | _, _ => False

theorem unG_ok {op : UnOp} {a : AV} {x : Value} {K : AV → Prop} (hx : VRel w E a x) (h : unG op a K) : PureOk P w E (Op.unary op x) K := by
  unfold unG at h
  split at h
  · cases hx; exact .of (by simp [Op.unary, Op.intArith]) (.int _ _) h
  · cases hx; exact .of (by simp [Op.unary]) (.bool _) h
  · cases hx with
    | flt _ _ r hr hl =>
      subst hr
      refine .of (v := .float _ (Op.negFloat _ r)) (by simp only [Op.unary]; rfl) (.flt _ _ _ rfl (negFloat_lt _ r hl)) ?_
      rw [fneg_cn _ r hl] at h; exact h
  · cases hx; exact .of (v := .int _ (bitsV .xor _ _ _)) (by simp only [Op.unary, Op.intBits]; rfl) (.int _ _) h
  · exact h.elim

def cvtG (P : Program) (src dst : TypeId) (a : AV) (K : AV → Prop) : Prop :=
  (P.underlying src).isSome = true ∧
  match P.underlying dst, a with
  | some (.int k), .int _ n => K (.int k (k.wrap n))
  | some (.float k), .int _ n => K (.flt k (fint k n))
  | some (.int k), .flt s x => ∃ n, floatToIntVal s x k = some n ∧ K (.int k n)
  | some (.float k), .flt s x => ∃ c, fcvt s k x = some c ∧ K (.flt k c)
  | some .string, .str s => P.underlying src = some .string ∧ K (.str s)
  | _, _ => False

theorem cvtG_ok {src dst : TypeId} {a : AV} {x : Value} {K : AV → Prop} (hx : VRel w E a x) (h : cvtG P src dst a K) : PureOk P w E (convert src dst x) K := by
  unfold cvtG at h
  obtain ⟨hs, h⟩ := h
  obtain ⟨u, hs'⟩ := Option.isSome_iff_exists.1 hs
  split at h
  · rename_i hd; cases hx
    refine .of (v := .int _ _) ?_ (.int _ _) h
    cases u <;> simp [convert, run_underlying hs', run_underlying hd, Conv.intToInt]
  · rename_i hd; cases hx
    refine .of (v := .float _ (fint _ _)) ?_ (.flt _ _ _ (cn_num (fint_num _ _)) (fint_lt _ _)) h
    cases u <;> simp [convert, run_underlying hs', run_underlying hd, Conv.intToFloat, fint]
  · rename_i hd
    cases hx with
    | flt _ _ r hr hl =>
      subst hr
      obtain ⟨n, hn, h⟩ := h
      rw [floatToIntVal_cn] at hn
      exact .of (run_convert_float_int w src dst _ _ r n hs hd hn) (.int _ _) h
  · rename_i hd
    cases hx with
    | flt _ _ r hr hl =>
      subst hr
      obtain ⟨c, hc, h⟩ := h
      rw [fcvt_cn] at hc
      obtain ⟨r', n, hr', hc', hl'⟩ := run_fcvt (P := P) w src dst _ _ r c hs hd hl hc
      exact ⟨_, n, _, hr', .flt _ _ _ hc' hl', h⟩
  · rename_i hd; cases hx
    refine .of (v := .string _) ?_ (.str _) h.2
    simp [convert, run_underlying h.1, run_underlying hd]
  · exact h.elim
end
end Go.Awp
