/- Texts as lists of bytes; contracts of library functions that leave all that is old alone.
Conditions: none. -/
import Derived.Test.YthgfopohlhejdaaDoorCll
import Derived.Below
import Derived.Lib.LaidTab
import Derived.Sort.Grow
import Derived.Deep.Draws
import Derived.Laws.Strings
namespace Go.Awp
set_option linter.all false
open Go Go.RowKit

/-- Texts as lists of bytes. -/
def bs (l : List UInt8) : ByteArray := ⟨l.toArray⟩
theorem bs_data (l : List UInt8) : (bs l).data = l.toArray := rfl
theorem bs_list (l : List UInt8) : (bs l).data.toList = l := by simp [bs]
theorem bs_of (s : ByteArray) : s = bs s.data.toList := by
  unfold bs; simp
theorem bs_toList (l : List UInt8) : (bs l).toList = l := by rw [ByteArray.toList_eq, bs_list]
theorem bs_size (l : List UInt8) : (bs l).size = l.length := by simp [ByteArray.size, bs]
theorem bs_append (a b : List UInt8) : bs a ++ bs b = bs (a ++ b) := by
  apply ByteArray.ext
  rw [ByteArray.data_append]
  simp [bs]
theorem bs_extract (l : List UInt8) (i j : Nat) : (bs l).extract i j = bs ((l.drop i).take (j - i)) := by
  apply ByteArray.ext
  rw [ByteArray.data_extract]
  simp [bs, List.extract_eq_drop_take']
theorem bs_inj (a b : List UInt8) : bs a = bs b ↔ a = b := by
  constructor
  · intro h
    have := congrArg ByteArray.data h
    simpa [bs] using this
  · intro h; rw [h]
theorem bs_get (l : List UInt8) (i : Nat) : (bs l)[i]? = l[i]? := by
  by_cases h : i < l.length
  · rw [List.getElem?_eq_getElem h]
    have h2 : i < (bs l).size := by rw [bs_size]; exact h
    rw [getElem?_pos (bs l) i h2]
    rfl
  · rw [List.getElem?_eq_none (by omega), getElem?_neg (bs l) i (by rw [bs_size]; exact h)]
theorem bs_at (l : List UInt8) (i : Nat) (h : i < (bs l).size) : (bs l)[i] = l[i]'(by rwa [bs_size] at h) := rfl
theorem bs_dec (a b : List UInt8) : decide (bs a = bs b) = decide (a = b) := by
  by_cases h : a = b
  · subst h; simp
  · rw [decide_eq_false h]
    exact decide_eq_false fun e => h ((bs_inj _ _).1 e)

theorem Below.drewGrow {w : World} {B k : Nat} {os : Array Obj} (hB : B ≤ w.heap.size) : Below B w (Sort.grow (w.drewN k) os) :=
  ⟨rfl, rfl, rfl, by simp [Sort.grow], fun b hb => by
    show (w.heap ++ os)[b]? = _
    rw [Array.getElem?_append_left (by omega)]⟩
theorem Below.drew {w : World} {B k : Nat} : Below B w (w.drewN k) := ⟨rfl, rfl, rfl, Nat.le_refl _, fun _ _ => rfl⟩

theorem tabIs_of {P : Program} {w : World} {name : String} {k : IntKind} {zs : List Int} {g : Nat} {o : Obj} (hg : P.globalNamed name = some g) (h1 : w.heap[g]? = some o) (h2 : isTab k zs o) : Lib.TabIs P w name k zs := by
  obtain ⟨t, fr, rfl⟩ := h2
  simp only [Lib.TabIs, World.var?, hg, Option.bind_some, h1]
theorem num_of {w : World} {g : Nat} {o : Obj} (h1 : w.heap[g]? = some o) (h2 : isNum o) : ∃ m, w.cell? ⟨g, 0, none⟩ = some (.int .i64 m) := by
  obtain ⟨cs, t, fr, m, rfl, h3⟩ := h2
  exact ⟨m, by simp [World.cell?, h1, h3]⟩

/-- A value that holds no memory is one value. -/
inductive Is1 : AV → Value → Prop
  | int (k : IntKind) (n : Int) : Is1 (.int k n) (.int k n)
  | bool (b : Bool) : Is1 (.bool b) (.bool b)
  | str (s : ByteArray) : Is1 (.str s) (.string s)
theorem Is1.rel {w : World} {E : Env} {a : AV} {v : Value} (h : Is1 a v) : VRel w E a v := by
  cases h
  · exact .int _ _
  · exact .bool _
  · exact .str _
theorem Is1.eq {w : World} {E : Env} {a : AV} {v v' : Value} (h : Is1 a v) (hr : VRel w E a v') : v' = v := by
  cases h <;> cases hr <;> rfl
inductive IsL : List AV → List Value → Prop
  | nil : IsL [] []
  | cons {a : AV} {v : Value} {as : List AV} {vs : List Value} : Is1 a v → IsL as vs → IsL (a :: as) (v :: vs)
theorem IsL.eq : ∀ {as : List AV} {vs vs' : List Value} {w : World} {E : Env}, IsL as vs → as.length = vs'.length → (∀ (i : Nat) a v, as[i]? = some a → vs'[i]? = some v → VRel w E a v) → vs' = vs
  | _, _, vs', _, _, .nil, hl, _ => by cases vs' with | nil => rfl | cons _ _ => simp at hl
  | _, _, vs', _, _, .cons (as := as) (vs := vs) h hs, hl, hr => by
    match vs', hl, hr with
    | v' :: vs', hl, hr =>
      have e1 := h.eq (hr 0 _ _ rfl rfl)
      have e2 := IsL.eq hs (by simpa using hl) fun i a v h1 h2 => hr (i + 1) a v (by simpa using h1) (by simpa using h2)
      rw [e1, e2]
theorem IsL.rel : ∀ {as : List AV} {vs : List Value} {w : World} {E : Env}, IsL as vs → as.length = vs.length ∧ ∀ (i : Nat) a v, as[i]? = some a → vs[i]? = some v → VRel w E a v
  | _, _, _, _, .nil => ⟨rfl, fun i a v h => by simp at h⟩
  | _, _, _, _, .cons h hs => ⟨by simp [hs.rel (w := default) (E := ⟨fun _ => none, fun _ => False, 0⟩) |>.1], fun i a v h1 h2 => by
    cases i with
    | zero => cases h1; cases h2; exact h.rel
    | succ i => exact hs.rel.2 i a v (by simpa using h1) (by simpa using h2)⟩
/-- What is handed back: one value or some. -/
inductive IsR : AV → Value → Prop
  | one {a : AV} {v : Value} : Is1 a v → IsR a v
  | some {as : List AV} {vs : List Value} : IsL as vs → IsR (.tup as) (.tuple vs.toArray)
theorem IsR.rel {w : World} {E : Env} {a : AV} {v : Value} (h : IsR a v) : VRel w E a v := by
  cases h with
  | one h => exact h.rel
  | some h => exact .tup _ _ (by simp [h.rel (w := w) (E := E) |>.1]) fun i a v h1 h2 => h.rel.2 i a v h1 (by simpa using h2)

/-- A library function that leaves all that is old alone: its contract. -/
theorem fun_lib {P : Program} {f : FuncId} {args : List AV} {r : AV} {vs0 : List Value} {v0 : Value}
    (hrun : ∀ args w, (callFunc f args).run P w = .ok (.enter f args) w) (hargs : IsL args vs0) (hres : IsR r v0)
    (hc : ∀ (w : World) (E : Env), GlobOk w E → Calls P f vs0.toArray w fun e w' => e = .returned v0 ∧ Below w.heap.size w w') : Fun P f args [] r [] := by
  intro map w vs X hX hfree hW hargs' o a next Q hnx
  obtain ⟨ha1, ha2⟩ := hargs'
  obtain ⟨vs⟩ := vs
  have hv : vs = vs0 := IsL.eq (w := w) (E := env map [] X w.heap.size) hargs (by simpa using ha1) fun i a v h1 h2 => ha2 i a v h1 (by simpa using h2)
  subst hv
  rw [hrun, Oper.upon_enter]
  refine (hc w _ hW.glob).mono fun e w' ⟨he, hb⟩ => ?_
  subst he
  have hst : Step map [] w map [] w' := ⟨hb.os, hb.tape, hb.output, hb.size, fun b h1 _ => hb.block b h1, fun _ _ h => h, fun _ _ => rfl, Nat.le_refl _, fun b _ h => h⟩
  refine hnx _ w' ⟨map, r, [], ⟨rfl, rfl⟩, hres.rel, ⟨fun r new box e cells hr => ?_, fun r r' b N N' n1 n2 x1 x2 e1 e2 c1 c2 hr hr' _ _ => ?_, hW.glob.later (hst.later (X := X) (B := w.heap.size))⟩, fun r new box e cells hr h => ?_, fun r hr => ?_, hst⟩
  · simp at hr
  · simp at hr
  · simp at h
  · simp at hr
end Go.Awp
