/- Slots as a list of what was put last; the rules by which a walk is reckoned.
Conditions: none. -/
import Derived.Test.YtbjfkhjckfodbaaGlue
namespace Go.Awp
set_option linter.all false
open Go

def look : List (Nat × AV) → Nat → AV
  | [], _ => .any
  | (d, v) :: l, t => if d = t then v else look l t
/-- n slots, of which those listed are known, what was put last ahead. -/
def U (n : Nat) (l : List (Nat × AV)) : List AV := (List.range n).map (look l)
def inits : Nat → List AV → List (Nat × AV)
  | _, [] => []
  | i, a :: l => (i, a) :: inits (i + 1) l

theorem U_get (n : Nat) (l : List (Nat × AV)) (t : Nat) : (U n l)[t]? = if t < n then some (look l t) else none := by
  unfold U
  rw [List.getElem?_map]
  by_cases h : t < n
  · rw [if_pos h, List.getElem?_range h]; rfl
  · rw [if_neg h, List.getElem?_eq_none (by simp; omega)]; rfl
theorem U_set (n : Nat) (l : List (Nat × AV)) (d : Nat) (v : AV) : (U n l).set d v = U n ((d, v) :: l) := by
  apply List.ext_getElem?
  intro i
  rw [List.getElem?_set, U_get, U_get]
  by_cases e : d = i
  · subst e
    rw [if_pos rfl]
    simp [look, U]
  · rw [if_neg e]
    simp [look, e]
theorem inits_look : ∀ (l : List AV) (i t : Nat), look (inits i l) t = if i ≤ t ∧ t < i + l.length then l.getD (t - i) .any else .any
  | [], i, t => by
    rw [if_neg (by simp)]; rfl
  | a :: l, i, t => by
    show (if i = t then a else look (inits (i + 1) l) t) = _
    by_cases e : i = t
    · subst e
      simp
    · rw [if_neg e, inits_look l (i + 1) t]
      by_cases c : i + 1 ≤ t ∧ t < i + 1 + l.length
      · rw [if_pos c, if_pos (by simp; omega)]
        rw [show t - i = (t - (i + 1)) + 1 by omega]
        simp
      · rw [if_neg c, if_neg (by simp; omega)]
theorem U_init {avs : List AV} {nt : Nat} (h : avs.length ≤ nt) : avs ++ List.replicate (nt - avs.length) .any = U nt (inits 0 avs) := by
  apply List.ext_getElem?
  intro i
  rw [U_get, inits_look, List.getElem?_append, List.getElem?_replicate]
  by_cases c : i < avs.length
  · rw [if_pos c, if_pos (by omega), if_pos (by omega), Nat.sub_zero, List.getD_eq_getElem?_getD, List.getElem?_eq_getElem c]
    rfl
  · rw [if_neg c]
    by_cases c2 : i < nt
    · rw [if_pos (by omega), if_pos c2, if_neg (by omega)]
    · rw [if_neg (by omega), if_neg c2]

section rules
variable {P : Program}
@[simp] theorem inits_nil (i : Nat) : inits i [] = [] := .trans rfl rfl
@[simp] theorem inits_cons (i : Nat) (a : AV) (l : List AV) : inits i (a :: l) = (i, a) :: inits (i + 1) l := .trans rfl rfl
@[simp ↓] theorem look_cons (d t : Nat) (v : AV) (l : List (Nat × AV)) : look ((d, v) :: l) t = if d = t then v else look l t := .trans rfl rfl
@[simp ↓] theorem look_nil (t : Nat) : look [] t = .any := .trans rfl rfl
@[simp ↓] theorem evalA_tmp {n t : Nat} {l : List (Nat × AV)} (h : t < n) : evalA (U n l) (.tmp t) = look l t := by
  simp only [evalA, List.getD_eq_getElem?_getD, U_get, if_pos h]; rfl
@[simp ↓] theorem evalA_const (s : List AV) (v : Value) : evalA s (.const v) = AV.ofVal v := .trans rfl rfl
@[simp ↓] theorem evalA_func (s : List AV) (f : FuncId) : evalA s (.func f) = .clo f [] [] := .trans rfl rfl
@[simp ↓] theorem evalA_global (s : List AV) (g : Nat) : evalA s (.global g) = .any := .trans rfl rfl
theorem setDst_some (n : Nat) (l : List (Nat × AV)) (d : Nat) (v : AV) : setDst (U n l) (some d) v = U n ((d, v) :: l) := U_set n l d v
@[simp] theorem setDst_any (n : Nat) (l : List (Nat × AV)) (d : Nat)  : setDst (U n l) (some d) (.any) = U n ((d, .any) :: l) := U_set n l d _
@[simp] theorem setDst_int (n : Nat) (l : List (Nat × AV)) (d : Nat) (k : IntKind) (x : Int) : setDst (U n l) (some d) (.int k x) = U n ((d, .int k x) :: l) := U_set n l d _
@[simp] theorem setDst_bool (n : Nat) (l : List (Nat × AV)) (d : Nat) (b : Bool) : setDst (U n l) (some d) (.bool b) = U n ((d, .bool b) :: l) := U_set n l d _
@[simp] theorem setDst_flt (n : Nat) (l : List (Nat × AV)) (d : Nat) (k : FloatKind) (x : Nat) : setDst (U n l) (some d) (.flt k x) = U n ((d, .flt k x) :: l) := U_set n l d _
@[simp] theorem setDst_str (n : Nat) (l : List (Nat × AV)) (d : Nat) (x : ByteArray) : setDst (U n l) (some d) (.str x) = U n ((d, .str x) :: l) := U_set n l d _
@[simp] theorem setDst_ifc (n : Nat) (l : List (Nat × AV)) (d : Nat) (x : Bool) : setDst (U n l) (some d) (.ifc x) = U n ((d, .ifc x) :: l) := U_set n l d _
@[simp] theorem setDst_agg (n : Nat) (l : List (Nat × AV)) (d : Nat) (x : List AV) : setDst (U n l) (some d) (.agg x) = U n ((d, .agg x) :: l) := U_set n l d _
@[simp] theorem setDst_tup (n : Nat) (l : List (Nat × AV)) (d : Nat) (x : List AV) : setDst (U n l) (some d) (.tup x) = U n ((d, .tup x) :: l) := U_set n l d _
@[simp] theorem setDst_nilp (n : Nat) (l : List (Nat × AV)) (d : Nat)  : setDst (U n l) (some d) (.nilp) = U n ((d, .nilp) :: l) := U_set n l d _
@[simp] theorem setDst_ptr (n : Nat) (l : List (Nat × AV)) (d : Nat) (r o : Nat) : setDst (U n l) (some d) (.ptr r o) = U n ((d, .ptr r o) :: l) := U_set n l d _
@[simp] theorem setDst_nils (n : Nat) (l : List (Nat × AV)) (d : Nat)  : setDst (U n l) (some d) (.nils) = U n ((d, .nils) :: l) := U_set n l d _
@[simp] theorem setDst_slc (n : Nat) (l : List (Nat × AV)) (d : Nat) (r o m q : Nat) : setDst (U n l) (some d) (.slc r o m q) = U n ((d, .slc r o m q) :: l) := U_set n l d _
@[simp] theorem setDst_view (n : Nat) (l : List (Nat × AV)) (d : Nat) (b : Bool) (c : List AV) (m : Nat) : setDst (U n l) (some d) (.view b c m) = U n ((d, .view b c m) :: l) := U_set n l d _
@[simp] theorem setDst_vptr (n : Nat) (l : List (Nat × AV)) (d : Nat) (b : Bool) (c : List AV) : setDst (U n l) (some d) (.vptr b c) = U n ((d, .vptr b c) :: l) := U_set n l d _
@[simp] theorem setDst_mp (n : Nat) (l : List (Nat × AV)) (d : Nat) (r : Nat) : setDst (U n l) (some d) (.mp r) = U n ((d, .mp r) :: l) := U_set n l d _
@[simp] theorem setDst_mview (n : Nat) (l : List (Nat × AV)) (d : Nat) (b : Bool) (e : Nat) (ks : List (List Int)) (vs : List AV) : setDst (U n l) (some d) (.mview b e ks vs) = U n ((d, .mview b e ks vs) :: l) := U_set n l d _
@[simp] theorem setDst_clo (n : Nat) (l : List (Nat × AV)) (d : Nat) (f : FuncId) (a c : List AV) : setDst (U n l) (some d) (.clo f a c) = U n ((d, .clo f a c) :: l) := U_set n l d _
@[simp] theorem setDst_nilf (n : Nat) (l : List (Nat × AV)) (d : Nat)  : setDst (U n l) (some d) (.nilf) = U n ((d, .nilf) :: l) := U_set n l d _
@[simp] theorem setDst_none (s : List AV) (v : AV) : setDst s none v = s := .trans rfl rfl
@[simp] theorem ofVal_int (k : IntKind) (n : Int) : AV.ofVal (.int k n) = .int k n := .trans rfl rfl
@[simp] theorem ofVal_bool (b : Bool) : AV.ofVal (.bool b) = .bool b := .trans rfl rfl
@[simp] theorem ofVal_string (s : ByteArray) : AV.ofVal (.string s) = .str s := .trans rfl rfl
@[simp] theorem ofVal_nilI : AV.ofVal .nilIface = .ifc true := .trans rfl rfl
@[simp] theorem ofVal_nilp : AV.ofVal (.pointer none) = .nilp := .trans rfl rfl
@[simp] theorem ofVal_nils : AV.ofVal (.slice none 0 0) = .nils := .trans rfl rfl
@[simp] theorem ofVal_nilf : AV.ofVal .nilFunc = .nilf := .trans rfl rfl
@[simp] theorem ofVal_agg (vs : Array Value) (h : vs.all (·.oneCell') = true) : AV.ofVal (.agg vs) = .agg (vs.toList.map AV.of1) := by simp only [AV.ofVal, h, if_true]
theorem of1_flt (k : FloatKind) (b : Nat) (h : b < 2 ^ k.format.width) (hn : nanB k b = false) : AV.of1 (.float k b) = .flt k b := by
  simp only [AV.of1, if_pos h, cn, hn]; rfl
@[simp] theorem of1_f32 (b : Nat) (h : b < 4294967296) (hn : b % 2147483648 ≤ 2139095040) : AV.of1 (.float .f32 b) = .flt .f32 b :=
  of1_flt .f32 b h (by rw [nanB_eq]; exact decide_eq_false (by show ¬ (2139095040 < b % 2147483648); omega))
@[simp] theorem of1_f64 (b : Nat) (h : b < 18446744073709551616) (hn : b % 9223372036854775808 ≤ 9218868437227405312) : AV.of1 (.float .f64 b) = .flt .f64 b :=
  of1_flt .f64 b h (by rw [nanB_eq]; exact decide_eq_false (by show ¬ (9218868437227405312 < b % 9223372036854775808); omega))
@[simp] theorem ofVal_f32 (b : Nat) (h : b < 4294967296) (hn : b % 2147483648 ≤ 2139095040) : AV.ofVal (.float .f32 b) = .flt .f32 b := of1_f32 b h hn
@[simp] theorem ofVal_f64 (b : Nat) (h : b < 18446744073709551616) (hn : b % 9223372036854775808 ≤ 9218868437227405312) : AV.ofVal (.float .f64 b) = .flt .f64 b := of1_f64 b h hn
@[simp] theorem of1_int (k : IntKind) (n : Int) : AV.of1 (.int k n) = .int k n := .trans rfl rfl
@[simp] theorem of1_bool (b : Bool) : AV.of1 (.bool b) = .bool b := .trans rfl rfl
@[simp] theorem of1_string (s : ByteArray) : AV.of1 (.string s) = .str s := .trans rfl rfl
@[simp] theorem of1_nilI : AV.of1 .nilIface = .ifc true := .trans rfl rfl
@[simp] theorem of1_nilp : AV.of1 (.pointer none) = .nilp := .trans rfl rfl
@[simp] theorem of1_nils : AV.of1 (.slice none 0 0) = .nils := .trans rfl rfl
@[simp] theorem of1_nilf : AV.of1 .nilFunc = .nilf := .trans rfl rfl

-- code: what comes behind is a closure, never a lambda
/-- What simp passes by: an argument that is handed on as it is. -/
class Hold (α : Type) where
  v : α
def atH (K : AV → Heap → Prop) (H : Heap) : AV → Prop := fun a => K a H
@[simp] theorem atH_go (K : AV → Heap → Prop) (H : Heap) (a : AV) : atH K H a = K a H := .trans rfl rfl
def seqK (P : Program) (dr : List Oper → List AV → Heap → (List AV → Heap → Prop) → Prop) (H0 : Heap) [y : Hold Code] [Q : Hold (Exit → List AV → Heap → Prop)] : Exit → List AV → Heap → Prop := fun e s' H' => match e with
    | .normal => codeG P dr H0 y.v s' H' Q.v
    | e => Q.v e s' H'
def blockK (i : Nat) [Q : Hold (Exit → List AV → Heap → Prop)] : Exit → List AV → Heap → Prop := fun e s' H' => match e with
    | .exit id' => if id' = i then Q.v .normal s' H' else Q.v (.exit id') s' H'
    | e => Q.v e s' H'
def normK [Q : Hold (Exit → List AV → Heap → Prop)] : List AV → Heap → Prop := fun s H => Q.v .normal s H
@[simp] theorem normK_go (Q : Exit → List AV → Heap → Prop) (s : List AV) (H : Heap) : @normK ⟨Q⟩ s H = Q .normal s H := .trans rfl rfl
def opsA (P : Program) [all : Hold (List Oper)] [rest : Hold (List Oper)] (n : Nat) (l : List (Nat × AV)) (d : Option Tmp) [K : Hold (List AV → Heap → Prop)] (av : AV) (H' : Heap) : Prop := opsG P all.v rest.v (setDst (U n l) d av) H' K.v
def opsK (P : Program) [all : Hold (List Oper)] [rest : Hold (List Oper)] (n : Nat) (l : List (Nat × AV)) (d : Option Tmp) [K : Hold (List AV → Heap → Prop)] : AV → Heap → Prop := fun av H' => opsG P all.v rest.v (setDst (U n l) d av) H' K.v
section
variable {dr : List Oper → List AV → Heap → (List AV → Heap → Prop) → Prop} {H0 : Heap} (n : Nat) (l : List (Nat × AV)) (H : Heap) (Q : Exit → List AV → Heap → Prop)
@[simp ↓] theorem seqK_normal (s : List AV) (y : Code) : @seqK P dr H0 ⟨y⟩ ⟨Q⟩ .normal s H = codeG P dr H0 y s H Q := .trans rfl rfl
@[simp ↓] theorem seqK_exit (s : List AV) (y : Code) (i : Nat) : @seqK P dr H0 ⟨y⟩ ⟨Q⟩ (.exit i) s H = Q (.exit i) s H := .trans rfl rfl
@[simp ↓] theorem seqK_ret (s : List AV) (y : Code) : @seqK P dr H0 ⟨y⟩ ⟨Q⟩ .ret s H = Q .ret s H := .trans rfl rfl
@[simp ↓] theorem blockK_normal (s : List AV) (i : Nat) : @blockK i ⟨Q⟩ .normal s H = Q .normal s H := .trans rfl rfl
@[simp ↓] theorem blockK_ret (s : List AV) (i : Nat) : @blockK i ⟨Q⟩ .ret s H = Q .ret s H := .trans rfl rfl
@[simp ↓] theorem blockK_exit (s : List AV) (i j : Nat) : @blockK i ⟨Q⟩ (.exit j) s H = if j = i then Q .normal s H else Q (.exit j) s H := .trans rfl rfl
@[simp ↓] theorem codeG_skip : codeG P dr H0 .skip (U n l) H Q = Q .normal (U n l) H := .trans rfl rfl
@[simp ↓] theorem codeG_label (i : Nat) : codeG P dr H0 (.label i) (U n l) H Q = Q .normal (U n l) H := .trans rfl rfl
@[simp ↓] theorem codeG_exit (i : Nat) : codeG P dr H0 (.exit i) (U n l) H Q = Q (.exit i) (U n l) H := .trans rfl rfl
@[simp ↓] theorem codeG_ret : codeG P dr H0 .ret (U n l) H Q = Q .ret (U n l) H := .trans rfl rfl
@[simp ↓] theorem codeG_region (i : Nat) (ops : List Oper) : codeG P dr H0 (.region i ops.toArray false) (U n l) H Q = opsG P ops ops (U n l) H (@normK ⟨Q⟩) := .trans rfl rfl
@[simp ↓] theorem codeG_seq (x y : Code) : codeG P dr H0 (.seq x y) (U n l) H Q = codeG P dr H0 x (U n l) H (@seqK P dr H0 ⟨y⟩ ⟨Q⟩) := .trans rfl rfl
@[simp ↓] theorem codeG_block (i : Nat) (x : Code) : codeG P dr H0 (.block i x) (U n l) H Q = codeG P dr H0 x (U n l) H (@blockK i ⟨Q⟩) := .trans rfl rfl
end
def loopG (P : Program) (dr : List Oper → List AV → Heap → (List AV → Heap → Prop) → Prop) (H0 : Heap) [x : Hold Code] (n : Nat) (l : List (Nat × AV)) (H : Heap) [Q : Hold (Exit → List AV → Heap → Prop)] (_t : True) : Prop := codeG P dr H0 (.loop x.v) (U n l) H Q.v
@[simp ↓] theorem codeG_looped {dr : List Oper → List AV → Heap → (List AV → Heap → Prop) → Prop} {H0 : Heap} (n : Nat) (l : List (Nat × AV)) (H : Heap) (Q : Exit → List AV → Heap → Prop) (x : Code) : codeG P dr H0 (.loop x) (U n l) H Q = @loopG P dr H0 ⟨x⟩ n l H ⟨Q⟩ trivial := .trans rfl rfl
def condG (c : AV) (x y : Prop) : Prop := match c with
  | .bool t => (t = true → x) ∧ (t = false → y)
  | _ => False
@[simp ↓] theorem codeG_cond {dr : List Oper → List AV → Heap → (List AV → Heap → Prop) → Prop} {H0 : Heap} (c : Operand) (x y : Code) (n : Nat) (l : List (Nat × AV)) (H : Heap) (Q : Exit → List AV → Heap → Prop) : codeG P dr H0 (.cond c x y) (U n l) H Q = condG (evalA (U n l) c) (codeG P dr H0 x (U n l) H Q) (codeG P dr H0 y (U n l) H Q) := .trans rfl rfl
@[simp ↓] theorem opsG_nil (all : List Oper) (n : Nat) (l : List (Nat × AV)) (H : Heap) (K : List AV → Heap → Prop) : opsG P all [] (U n l) H K = K (U n l) H := .trans rfl rfl
@[simp ↓] theorem opsG_plain (all rest : List Oper) (n : Nat) (l : List (Nat × AV)) (H : Heap) (K : List AV → Heap → Prop) (d : Option Tmp) (op : Op) (t : TypeId) (p : String) (af : Array Edge) :
    opsG P all ({ dst := d, op := op, type := t, pos := p, after := af, guard := none } :: rest) (U n l) H K = opG P op (evalA (U n l)) H (@opsK P ⟨all⟩ ⟨rest⟩ n l d ⟨K⟩) := .trans rfl rfl
@[congr] theorem condG_congr {c c' : AV} {x y : Prop} (h : c = c') : condG c x y = condG c' x y := by rw [h]
@[simp ↓] theorem opsK_go (all rest : List Oper) (n : Nat) (l : List (Nat × AV)) (d : Option Tmp) (K : List AV → Heap → Prop) (a : AV) (H : Heap) : @opsK P ⟨all⟩ ⟨rest⟩ n l d ⟨K⟩ a H = @opsA P ⟨all⟩ ⟨rest⟩ n l d ⟨K⟩ a H := .trans rfl rfl
@[congr] theorem opsA_congr {all rest : List Oper} {n : Nat} {l : List (Nat × AV)} {d : Option Tmp} {K : List AV → Heap → Prop} {a a' : AV} {H H' : Heap} (h1 : a = a') (h2 : H = H') : @opsA P ⟨all⟩ ⟨rest⟩ n l d ⟨K⟩ a H = @opsA P ⟨all⟩ ⟨rest⟩ n l d ⟨K⟩ a' H' := by rw [h1, h2]
@[simp] theorem opsA_none (all rest : List Oper) (n : Nat) (l : List (Nat × AV)) (K : List AV → Heap → Prop) (a : AV) (H : Heap) : @opsA P ⟨all⟩ ⟨rest⟩ n l none ⟨K⟩ a H = opsG P all rest (U n l) H K := .trans rfl rfl
@[simp] theorem opsA_any (all rest : List Oper) (n : Nat) (l : List (Nat × AV)) (d : Nat) (K : List AV → Heap → Prop)  (H : Heap) : @opsA P ⟨all⟩ ⟨rest⟩ n l (some d) ⟨K⟩ (.any) H = opsG P all rest (U n ((d, .any) :: l)) H K := by
  show opsG P all rest ((U n l).set d _) H K = _
  rw [U_set]
@[simp] theorem opsA_int (all rest : List Oper) (n : Nat) (l : List (Nat × AV)) (d : Nat) (K : List AV → Heap → Prop) (k : IntKind) (x : Int) (H : Heap) : @opsA P ⟨all⟩ ⟨rest⟩ n l (some d) ⟨K⟩ (.int k x) H = opsG P all rest (U n ((d, .int k x) :: l)) H K := by
  show opsG P all rest ((U n l).set d _) H K = _
  rw [U_set]
@[simp] theorem opsA_bool (all rest : List Oper) (n : Nat) (l : List (Nat × AV)) (d : Nat) (K : List AV → Heap → Prop) (b : Bool) (H : Heap) : @opsA P ⟨all⟩ ⟨rest⟩ n l (some d) ⟨K⟩ (.bool b) H = opsG P all rest (U n ((d, .bool b) :: l)) H K := by
  show opsG P all rest ((U n l).set d _) H K = _
  rw [U_set]
@[simp] theorem opsA_flt (all rest : List Oper) (n : Nat) (l : List (Nat × AV)) (d : Nat) (K : List AV → Heap → Prop) (k : FloatKind) (x : Nat) (H : Heap) : @opsA P ⟨all⟩ ⟨rest⟩ n l (some d) ⟨K⟩ (.flt k x) H = opsG P all rest (U n ((d, .flt k x) :: l)) H K := by
  show opsG P all rest ((U n l).set d _) H K = _
  rw [U_set]
@[simp] theorem opsA_str (all rest : List Oper) (n : Nat) (l : List (Nat × AV)) (d : Nat) (K : List AV → Heap → Prop) (x : ByteArray) (H : Heap) : @opsA P ⟨all⟩ ⟨rest⟩ n l (some d) ⟨K⟩ (.str x) H = opsG P all rest (U n ((d, .str x) :: l)) H K := by
  show opsG P all rest ((U n l).set d _) H K = _
  rw [U_set]
@[simp] theorem opsA_ifc (all rest : List Oper) (n : Nat) (l : List (Nat × AV)) (d : Nat) (K : List AV → Heap → Prop) (x : Bool) (H : Heap) : @opsA P ⟨all⟩ ⟨rest⟩ n l (some d) ⟨K⟩ (.ifc x) H = opsG P all rest (U n ((d, .ifc x) :: l)) H K := by
  show opsG P all rest ((U n l).set d _) H K = _
  rw [U_set]
@[simp] theorem opsA_agg (all rest : List Oper) (n : Nat) (l : List (Nat × AV)) (d : Nat) (K : List AV → Heap → Prop) (x : List AV) (H : Heap) : @opsA P ⟨all⟩ ⟨rest⟩ n l (some d) ⟨K⟩ (.agg x) H = opsG P all rest (U n ((d, .agg x) :: l)) H K := by
  show opsG P all rest ((U n l).set d _) H K = _
  rw [U_set]
@[simp] theorem opsA_tup (all rest : List Oper) (n : Nat) (l : List (Nat × AV)) (d : Nat) (K : List AV → Heap → Prop) (x : List AV) (H : Heap) : @opsA P ⟨all⟩ ⟨rest⟩ n l (some d) ⟨K⟩ (.tup x) H = opsG P all rest (U n ((d, .tup x) :: l)) H K := by
  show opsG P all rest ((U n l).set d _) H K = _
  rw [U_set]
@[simp] theorem opsA_nilp (all rest : List Oper) (n : Nat) (l : List (Nat × AV)) (d : Nat) (K : List AV → Heap → Prop)  (H : Heap) : @opsA P ⟨all⟩ ⟨rest⟩ n l (some d) ⟨K⟩ (.nilp) H = opsG P all rest (U n ((d, .nilp) :: l)) H K := by
  show opsG P all rest ((U n l).set d _) H K = _
  rw [U_set]
@[simp] theorem opsA_ptr (all rest : List Oper) (n : Nat) (l : List (Nat × AV)) (d : Nat) (K : List AV → Heap → Prop) (r o : Nat) (H : Heap) : @opsA P ⟨all⟩ ⟨rest⟩ n l (some d) ⟨K⟩ (.ptr r o) H = opsG P all rest (U n ((d, .ptr r o) :: l)) H K := by
  show opsG P all rest ((U n l).set d _) H K = _
  rw [U_set]
@[simp] theorem opsA_nils (all rest : List Oper) (n : Nat) (l : List (Nat × AV)) (d : Nat) (K : List AV → Heap → Prop)  (H : Heap) : @opsA P ⟨all⟩ ⟨rest⟩ n l (some d) ⟨K⟩ (.nils) H = opsG P all rest (U n ((d, .nils) :: l)) H K := by
  show opsG P all rest ((U n l).set d _) H K = _
  rw [U_set]
@[simp] theorem opsA_slc (all rest : List Oper) (n : Nat) (l : List (Nat × AV)) (d : Nat) (K : List AV → Heap → Prop) (r o m q : Nat) (H : Heap) : @opsA P ⟨all⟩ ⟨rest⟩ n l (some d) ⟨K⟩ (.slc r o m q) H = opsG P all rest (U n ((d, .slc r o m q) :: l)) H K := by
  show opsG P all rest ((U n l).set d _) H K = _
  rw [U_set]
@[simp] theorem opsA_view (all rest : List Oper) (n : Nat) (l : List (Nat × AV)) (d : Nat) (K : List AV → Heap → Prop) (b : Bool) (c : List AV) (m : Nat) (H : Heap) : @opsA P ⟨all⟩ ⟨rest⟩ n l (some d) ⟨K⟩ (.view b c m) H = opsG P all rest (U n ((d, .view b c m) :: l)) H K := by
  show opsG P all rest ((U n l).set d _) H K = _
  rw [U_set]
@[simp] theorem opsA_vptr (all rest : List Oper) (n : Nat) (l : List (Nat × AV)) (d : Nat) (K : List AV → Heap → Prop) (b : Bool) (c : List AV) (H : Heap) : @opsA P ⟨all⟩ ⟨rest⟩ n l (some d) ⟨K⟩ (.vptr b c) H = opsG P all rest (U n ((d, .vptr b c) :: l)) H K := by
  show opsG P all rest ((U n l).set d _) H K = _
  rw [U_set]
@[simp] theorem opsA_clo (all rest : List Oper) (n : Nat) (l : List (Nat × AV)) (d : Nat) (K : List AV → Heap → Prop) (f : FuncId) (a c : List AV) (H : Heap) : @opsA P ⟨all⟩ ⟨rest⟩ n l (some d) ⟨K⟩ (.clo f a c) H = opsG P all rest (U n ((d, .clo f a c) :: l)) H K := by
  show opsG P all rest ((U n l).set d _) H K = _
  rw [U_set]
@[simp] theorem opsA_nilf (all rest : List Oper) (n : Nat) (l : List (Nat × AV)) (d : Nat) (K : List AV → Heap → Prop)  (H : Heap) : @opsA P ⟨all⟩ ⟨rest⟩ n l (some d) ⟨K⟩ (.nilf) H = opsG P all rest (U n ((d, .nilf) :: l)) H K := by
  show opsG P all rest ((U n l).set d _) H K = _
  rw [U_set]
@[simp] theorem opsA_mp (all rest : List Oper) (n : Nat) (l : List (Nat × AV)) (d : Nat) (K : List AV → Heap → Prop) (r : Nat) (H : Heap) : @opsA P ⟨all⟩ ⟨rest⟩ n l (some d) ⟨K⟩ (.mp r) H = opsG P all rest (U n ((d, .mp r) :: l)) H K := by
  show opsG P all rest ((U n l).set d _) H K = _
  rw [U_set]
@[simp] theorem opsA_mview (all rest : List Oper) (n : Nat) (l : List (Nat × AV)) (d : Nat) (K : List AV → Heap → Prop) (b : Bool) (e : Nat) (ks : List (List Int)) (vs : List AV) (H : Heap) : @opsA P ⟨all⟩ ⟨rest⟩ n l (some d) ⟨K⟩ (.mview b e ks vs) H = opsG P all rest (U n ((d, .mview b e ks vs) :: l)) H K := by
  show opsG P all rest ((U n l).set d _) H K = _
  rw [U_set]
end rules
end Go.Awp
