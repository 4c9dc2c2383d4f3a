/- Rows of records as cells.
Conditions: none. -/
import Derived.Test.YtbjfkhjckfodbaaCll
import Derived.Test.YtbjfkhjckfodbaaNum
namespace Go.Awp
set_option linter.all false
open Go

-- rows of records of s cells
theorem splice_mid (A B C cs : List AV) (j : Nat) (h : j + cs.length ≤ B.length) : splice (A ++ (B ++ C)) (A.length + j) cs = A ++ (splice B j cs ++ C) := by
  unfold splice
  have e1 : List.take (A.length + j) (A ++ (B ++ C)) = A ++ List.take j B := by
    rw [List.take_append, List.take_of_length_le (by omega), Nat.add_sub_cancel_left, List.take_append, show j - B.length = 0 by omega]; simp
  have e2 : List.drop (A.length + j + cs.length) (A ++ (B ++ C)) = List.drop (j + cs.length) B ++ C := by
    rw [Nat.add_assoc, List.drop_append, List.drop_of_length_le (by omega), Nat.add_sub_cancel_left, List.drop_append, show j + cs.length - B.length = 0 by omega]; simp
  rw [e1, e2]; simp
section
variable {α : Type} {e : α → List AV} {s : Nat} (he : ∀ a, (e a).length = s)
include he
theorem cat_length (l : List α) : (l.flatMap e).length = l.length * s := by
  induction l with
  | nil => simp
  | cons a l ih => simp [he, ih, Nat.add_mul, Nat.add_comm]
theorem cat_drop : ∀ (l : List α) (k : Nat), (l.flatMap e).drop (k * s) = (l.drop k).flatMap e
  | [], k => by simp
  | a :: l, 0 => by simp
  | a :: l, k + 1 => by
    rw [List.flatMap_cons, Nat.add_mul, Nat.one_mul, Nat.add_comm, List.drop_append, he, Nat.add_sub_cancel_left, List.drop_of_length_le (by rw [he]; omega), List.nil_append, List.drop_succ_cons]
    exact cat_drop l k
theorem cat_take : ∀ (l : List α) (k : Nat), (l.flatMap e).take (k * s) = (l.take k).flatMap e
  | [], k => by simp
  | a :: l, 0 => by simp
  | a :: l, k + 1 => by
    rw [List.flatMap_cons, Nat.add_mul, Nat.one_mul, Nat.add_comm, List.take_append, he, Nat.add_sub_cancel_left, List.take_of_length_le (by rw [he]; omega), List.take_succ_cons, List.flatMap_cons]
    rw [cat_take l k]
theorem cat_drop_at {l : List α} {k : Nat} (h : k < l.length) : (l.flatMap e).drop (k * s) = e l[k] ++ (l.drop (k + 1)).flatMap e := by
  rw [cat_drop he, List.drop_eq_getElem_cons h, List.flatMap_cons]
theorem cat_get {l : List α} {k j : Nat} (h : k < l.length) (hj : j < s) : (l.flatMap e)[k * s + j]? = (e l[k])[j]? := by
  rw [← List.getElem?_drop, cat_drop_at he h, List.getElem?_append_left (by rw [he]; exact hj)]
theorem cat_splice {l : List α} {k j : Nat} {cs : List AV} {x : α} (h : k < l.length) (hj : j + cs.length ≤ s) (hx : splice (e l[k]) j cs = e x) : splice (l.flatMap e) (k * s + j) cs = (l.set k x).flatMap e := by
  have h1 : l.flatMap e = (l.take k).flatMap e ++ (e l[k] ++ (l.drop (k + 1)).flatMap e) := by
    rw [← cat_drop_at he h, ← cat_take he, List.take_append_drop]
  have h2 : l.set k x = l.take k ++ x :: l.drop (k + 1) := by rw [List.set_eq_take_append_cons_drop, if_pos h]
  rw [h2, List.flatMap_append, List.flatMap_cons, ← hx, h1]
  have hlen : ((l.take k).flatMap e).length = k * s := by rw [cat_length he, List.length_take, Nat.min_eq_left (by omega)]
  have := splice_mid ((l.take k).flatMap e) (e l[k]) ((l.drop (k + 1)).flatMap e) cs j (by rw [he]; exact hj)
  rw [hlen] at this
  exact this
end

/-- Cells that hold plain values, none of them a row. -/
def AV.num : AV → Bool
  | .int .. | .bool _ | .flt .. | .str _ => true
  | _ => false
theorem num_flat {l : List AV} (h : l.all AV.num = true) : l.all AV.flat = true := by
  rw [List.all_eq_true] at h ⊢
  intro a ha
  have := h a ha
  cases a <;> first | (cases this; done) | rfl
theorem num_nils {l : List AV} (h : l.all AV.num = true) : .nils ∉ l := fun hn => by
  have := List.all_eq_true.1 h _ hn
  cases this
@[simp] theorem map_pass0_num {nv own : Bool} {σ : List Nat} {H : Heap} {l : List AV} (h : l.all AV.num = true) : l.map (pass0 nv own σ H) = l := map_pass0_flat (num_flat h) (num_nils h)

@[simp] theorem tri_eta {α β γ : Type} (v : α × β × γ) : (v.1, v.2.1, v.2.2) = v := rfl
abbrev V := Nat × Nat × Nat
abbrev Th := Int × Int × Nat
def eV (v : V) : List AV := [.flt .f32 v.1, .flt .f32 v.2.1, .flt .f32 v.2.2]
def eT (t : Th) : List AV := [.int .i64 t.1, .int .i64 t.2.1, .flt .f32 t.2.2]
def cVs (l : List V) : List AV := l.flatMap eV
def cTs (l : List Th) : List AV := l.flatMap eT
def cIs (l : List Int) : List AV := l.map (AV.int .i64)
def cBs (l : List Bool) : List AV := l.map AV.bool
def cFs (l : List Nat) : List AV := l.map (AV.flt .f32)
@[simp] theorem eV_length (v : V) : (eV v).length = 3 := rfl
@[simp] theorem eT_length (v : Th) : (eT v).length = 3 := rfl

-- cVs
@[simp] theorem cVs_nil : cVs [] = [] := rfl
@[simp] theorem cVs_length (l : List V) : (cVs l).length = l.length * 3 := cat_length eV_length l
@[simp] theorem cVs_num (l : List V) : (cVs l).all AV.num = true := by
  induction l with
  | nil => rfl
  | cons a l ih => simp only [cVs, List.flatMap_cons, List.all_append] at ih ⊢; rw [ih]; rfl
@[simp] theorem cVs_flat (l : List V) : (cVs l).all AV.flat = true := num_flat (cVs_num l)
@[simp] theorem cVs_drop {l : List V} {k : Nat} (h : k < l.length) : (cVs l).drop (k * 3) = .flt .f32 l[k].1 :: .flt .f32 l[k].2.1 :: .flt .f32 l[k].2.2 :: cVs (l.drop (k + 1)) := cat_drop_at eV_length h
@[simp] theorem cVs_take (l : List V) (k : Nat) : (cVs l).take (k * 3) = cVs (l.take k) := cat_take eV_length l k
@[simp] theorem cVs_get0 {l : List V} {k : Nat} (h : k < l.length) : (cVs l)[k * 3]? = some (.flt .f32 l[k].1) := cat_get eV_length (j := 0) h (by omega)
@[simp] theorem cVs_get1 {l : List V} {k : Nat} (h : k < l.length) : (cVs l)[k * 3 + 1]? = some (.flt .f32 l[k].2.1) := cat_get eV_length (j := 1) h (by omega)
@[simp] theorem cVs_get2 {l : List V} {k : Nat} (h : k < l.length) : (cVs l)[k * 3 + 2]? = some (.flt .f32 l[k].2.2) := cat_get eV_length (j := 2) h (by omega)
@[simp high] theorem cVs_load {l : List V} {k : Nat} (h : k < l.length) : loadL true 3 (cVs l) (k * 3) = some (.agg [.flt .f32 l[k].1, .flt .f32 l[k].2.1, .flt .f32 l[k].2.2]) := by
  show (if k * 3 + 3 ≤ (cVs l).length then _ else _) = _
  rw [if_pos (by rw [cVs_length]; omega), cVs_drop h]; rfl
@[simp] theorem cVs_splice0 {l : List V} {k : Nat} {x : Nat} (h : k < l.length) : splice (cVs l) (k * 3) [.flt .f32 x] = cVs (l.set k (x, l[k].2)) := cat_splice eV_length (j := 0) h (by simp) rfl
@[simp] theorem cVs_splice1 {l : List V} {k : Nat} {x : Nat} (h : k < l.length) : splice (cVs l) (k * 3 + 1) [.flt .f32 x] = cVs (l.set k (l[k].1, x, l[k].2.2)) := cat_splice eV_length (j := 1) h (by simp) rfl
@[simp] theorem cVs_splice2 {l : List V} {k : Nat} {x : Nat} (h : k < l.length) : splice (cVs l) (k * 3 + 2) [.flt .f32 x] = cVs (l.set k (l[k].1, l[k].2.1, x)) := cat_splice eV_length (j := 2) h (by simp) rfl
@[simp] theorem cVs_splice {l : List V} {k : Nat} {x : Nat} {y : Nat} {z : Nat} (h : k < l.length) : splice (cVs l) (k * 3) [.flt .f32 x, .flt .f32 y, .flt .f32 z] = cVs (l.set k (x, y, z)) := cat_splice eV_length (j := 0) h (by simp) rfl
@[simp] theorem cVs_append (l l' : List V) : cVs l ++ cVs l' = cVs (l ++ l') := by simp [cVs]
theorem cVs_one (x : Nat) (y : Nat) (z : Nat) : [.flt .f32 x, .flt .f32 y, .flt .f32 z] = cVs [(x, y, z)] := rfl
@[simp] theorem cVs_push (l : List V) (x : Nat) (y : Nat) (z : Nat) : cVs l ++ [.flt .f32 x, .flt .f32 y, .flt .f32 z] = cVs (l ++ [(x, y, z)]) := by rw [cVs_one, cVs_append]
@[simp] theorem cVs_make (n : Nat) : makeL n [.flt .f32 0, .flt .f32 0, .flt .f32 0] = cVs (List.replicate n (0, 0, 0)) := by
  have key : ∀ m : Nat, (List.range (m * 3)).map (fun i => [.flt .f32 0, .flt .f32 0, .flt .f32 0].getD (i % 3) AV.any) = cVs (List.replicate m (0, 0, 0)) := by
    intro m
    induction m with
    | zero => rfl
    | succ m ih =>
      rw [show (m + 1) * 3 = m * 3 + 1 + 1 + 1 by omega, List.range_succ, List.range_succ, List.range_succ, List.map_append, List.map_append, List.map_append, ih, List.replicate_succ', ← cVs_append]
      simp only [List.map_cons, List.map_nil, show m * 3 % 3 = 0 by omega, show (m * 3 + 1) % 3 = 1 by omega, show (m * 3 + 1 + 1) % 3 = 2 by omega, List.append_assoc]
      rfl
  exact key n

-- cTs
@[simp] theorem cTs_nil : cTs [] = [] := rfl
@[simp] theorem cTs_length (l : List Th) : (cTs l).length = l.length * 3 := cat_length eT_length l
@[simp] theorem cTs_num (l : List Th) : (cTs l).all AV.num = true := by
  induction l with
  | nil => rfl
  | cons a l ih => simp only [cTs, List.flatMap_cons, List.all_append] at ih ⊢; rw [ih]; rfl
@[simp] theorem cTs_flat (l : List Th) : (cTs l).all AV.flat = true := num_flat (cTs_num l)
@[simp] theorem cTs_drop {l : List Th} {k : Nat} (h : k < l.length) : (cTs l).drop (k * 3) = .int .i64 l[k].1 :: .int .i64 l[k].2.1 :: .flt .f32 l[k].2.2 :: cTs (l.drop (k + 1)) := cat_drop_at eT_length h
@[simp] theorem cTs_take (l : List Th) (k : Nat) : (cTs l).take (k * 3) = cTs (l.take k) := cat_take eT_length l k
@[simp] theorem cTs_get0 {l : List Th} {k : Nat} (h : k < l.length) : (cTs l)[k * 3]? = some (.int .i64 l[k].1) := cat_get eT_length (j := 0) h (by omega)
@[simp] theorem cTs_get1 {l : List Th} {k : Nat} (h : k < l.length) : (cTs l)[k * 3 + 1]? = some (.int .i64 l[k].2.1) := cat_get eT_length (j := 1) h (by omega)
@[simp] theorem cTs_get2 {l : List Th} {k : Nat} (h : k < l.length) : (cTs l)[k * 3 + 2]? = some (.flt .f32 l[k].2.2) := cat_get eT_length (j := 2) h (by omega)
@[simp high] theorem cTs_load {l : List Th} {k : Nat} (h : k < l.length) : loadL true 3 (cTs l) (k * 3) = some (.agg [.int .i64 l[k].1, .int .i64 l[k].2.1, .flt .f32 l[k].2.2]) := by
  show (if k * 3 + 3 ≤ (cTs l).length then _ else _) = _
  rw [if_pos (by rw [cTs_length]; omega), cTs_drop h]; rfl
@[simp] theorem cTs_splice0 {l : List Th} {k : Nat} {x : Int} (h : k < l.length) : splice (cTs l) (k * 3) [.int .i64 x] = cTs (l.set k (x, l[k].2)) := cat_splice eT_length (j := 0) h (by simp) rfl
@[simp] theorem cTs_splice1 {l : List Th} {k : Nat} {x : Int} (h : k < l.length) : splice (cTs l) (k * 3 + 1) [.int .i64 x] = cTs (l.set k (l[k].1, x, l[k].2.2)) := cat_splice eT_length (j := 1) h (by simp) rfl
@[simp] theorem cTs_splice2 {l : List Th} {k : Nat} {x : Nat} (h : k < l.length) : splice (cTs l) (k * 3 + 2) [.flt .f32 x] = cTs (l.set k (l[k].1, l[k].2.1, x)) := cat_splice eT_length (j := 2) h (by simp) rfl
@[simp] theorem cTs_splice {l : List Th} {k : Nat} {x : Int} {y : Int} {z : Nat} (h : k < l.length) : splice (cTs l) (k * 3) [.int .i64 x, .int .i64 y, .flt .f32 z] = cTs (l.set k (x, y, z)) := cat_splice eT_length (j := 0) h (by simp) rfl
@[simp] theorem cTs_append (l l' : List Th) : cTs l ++ cTs l' = cTs (l ++ l') := by simp [cTs]
theorem cTs_one (x : Int) (y : Int) (z : Nat) : [.int .i64 x, .int .i64 y, .flt .f32 z] = cTs [(x, y, z)] := rfl
@[simp] theorem cTs_push (l : List Th) (x : Int) (y : Int) (z : Nat) : cTs l ++ [.int .i64 x, .int .i64 y, .flt .f32 z] = cTs (l ++ [(x, y, z)]) := by rw [cTs_one, cTs_append]
@[simp] theorem cTs_make (n : Nat) : makeL n [.int .i64 0, .int .i64 0, .flt .f32 0] = cTs (List.replicate n (0, 0, 0)) := by
  have key : ∀ m : Nat, (List.range (m * 3)).map (fun i => [.int .i64 0, .int .i64 0, .flt .f32 0].getD (i % 3) AV.any) = cTs (List.replicate m (0, 0, 0)) := by
    intro m
    induction m with
    | zero => rfl
    | succ m ih =>
      rw [show (m + 1) * 3 = m * 3 + 1 + 1 + 1 by omega, List.range_succ, List.range_succ, List.range_succ, List.map_append, List.map_append, List.map_append, ih, List.replicate_succ', ← cTs_append]
      simp only [List.map_cons, List.map_nil, show m * 3 % 3 = 0 by omega, show (m * 3 + 1) % 3 = 1 by omega, show (m * 3 + 1 + 1) % 3 = 2 by omega, List.append_assoc]
      rfl
  exact key n

-- cIs
@[simp] theorem cIs_nil : cIs [] = [] := rfl
@[simp] theorem cIs_length (l : List Int) : (cIs l).length = l.length := by simp [cIs]
@[simp] theorem cIs_num (l : List Int) : (cIs l).all AV.num = true := by
  induction l with
  | nil => rfl
  | cons a l ih => simp only [cIs, List.map_cons, List.all_cons] at ih ⊢; rw [ih]; rfl
@[simp] theorem cIs_flat (l : List Int) : (cIs l).all AV.flat = true := num_flat (cIs_num l)
@[simp] theorem cIs_drop {l : List Int} {k : Nat} (h : k < l.length) : (cIs l).drop k = .int .i64 l[k] :: cIs (l.drop (k + 1)) := by
  unfold cIs; rw [List.drop_eq_getElem_cons (by simpa using h), List.getElem_map, List.map_drop]
@[simp] theorem cIs_take (l : List Int) (k : Nat) : (cIs l).take k = cIs (l.take k) := by simp [cIs, List.map_take]
@[simp] theorem cIs_get {l : List Int} {k : Nat} (h : k < l.length) : (cIs l)[k]? = some (.int .i64 l[k]) := by simp [cIs, h]
@[simp] theorem cIs_at {l : List Int} {k : Nat} (h : k < (cIs l).length) : (cIs l)[k] = .int .i64 (l[k]'(by simpa using h)) := by simp [cIs]
@[simp] theorem cIs_splice {l : List Int} {k : Nat} {x : Int} (h : k < l.length) : splice (cIs l) k [.int .i64 x] = cIs (l.set k x) := by
  unfold cIs splice
  rw [List.map_set, List.set_eq_take_append_cons_drop, if_pos (by simpa using h)]
  simp
@[simp] theorem cIs_append (l l' : List Int) : cIs l ++ cIs l' = cIs (l ++ l') := by simp [cIs]
@[simp] theorem cIs_push (l : List Int) (x : Int) : cIs l ++ [.int .i64 x] = cIs (l ++ [x]) := by simp [cIs]
@[simp] theorem cIs_make (n : Nat) : makeL n [.int .i64 0] = cIs (List.replicate n 0) := by
  unfold makeL cIs
  simp [Nat.mod_one, List.map_const']

-- cBs
@[simp] theorem cBs_nil : cBs [] = [] := rfl
@[simp] theorem cBs_length (l : List Bool) : (cBs l).length = l.length := by simp [cBs]
@[simp] theorem cBs_num (l : List Bool) : (cBs l).all AV.num = true := by
  induction l with
  | nil => rfl
  | cons a l ih => simp only [cBs, List.map_cons, List.all_cons] at ih ⊢; rw [ih]; rfl
@[simp] theorem cBs_flat (l : List Bool) : (cBs l).all AV.flat = true := num_flat (cBs_num l)
@[simp] theorem cBs_drop {l : List Bool} {k : Nat} (h : k < l.length) : (cBs l).drop k = .bool l[k] :: cBs (l.drop (k + 1)) := by
  unfold cBs; rw [List.drop_eq_getElem_cons (by simpa using h), List.getElem_map, List.map_drop]
@[simp] theorem cBs_take (l : List Bool) (k : Nat) : (cBs l).take k = cBs (l.take k) := by simp [cBs, List.map_take]
@[simp] theorem cBs_get {l : List Bool} {k : Nat} (h : k < l.length) : (cBs l)[k]? = some (.bool l[k]) := by simp [cBs, h]
@[simp] theorem cBs_at {l : List Bool} {k : Nat} (h : k < (cBs l).length) : (cBs l)[k] = .bool (l[k]'(by simpa using h)) := by simp [cBs]
@[simp] theorem cBs_splice {l : List Bool} {k : Nat} {x : Bool} (h : k < l.length) : splice (cBs l) k [.bool x] = cBs (l.set k x) := by
  unfold cBs splice
  rw [List.map_set, List.set_eq_take_append_cons_drop, if_pos (by simpa using h)]
  simp
@[simp] theorem cBs_append (l l' : List Bool) : cBs l ++ cBs l' = cBs (l ++ l') := by simp [cBs]
@[simp] theorem cBs_push (l : List Bool) (x : Bool) : cBs l ++ [.bool x] = cBs (l ++ [x]) := by simp [cBs]
@[simp] theorem cBs_make (n : Nat) : makeL n [.bool false] = cBs (List.replicate n false) := by
  unfold makeL cBs
  simp [Nat.mod_one, List.map_const']

-- cFs
@[simp] theorem cFs_nil : cFs [] = [] := rfl
@[simp] theorem cFs_length (l : List Nat) : (cFs l).length = l.length := by simp [cFs]
@[simp] theorem cFs_num (l : List Nat) : (cFs l).all AV.num = true := by
  induction l with
  | nil => rfl
  | cons a l ih => simp only [cFs, List.map_cons, List.all_cons] at ih ⊢; rw [ih]; rfl
@[simp] theorem cFs_flat (l : List Nat) : (cFs l).all AV.flat = true := num_flat (cFs_num l)
@[simp] theorem cFs_drop {l : List Nat} {k : Nat} (h : k < l.length) : (cFs l).drop k = .flt .f32 l[k] :: cFs (l.drop (k + 1)) := by
  unfold cFs; rw [List.drop_eq_getElem_cons (by simpa using h), List.getElem_map, List.map_drop]
@[simp] theorem cFs_take (l : List Nat) (k : Nat) : (cFs l).take k = cFs (l.take k) := by simp [cFs, List.map_take]
@[simp] theorem cFs_get {l : List Nat} {k : Nat} (h : k < l.length) : (cFs l)[k]? = some (.flt .f32 l[k]) := by simp [cFs, h]
@[simp] theorem cFs_at {l : List Nat} {k : Nat} (h : k < (cFs l).length) : (cFs l)[k] = .flt .f32 (l[k]'(by simpa using h)) := by simp [cFs]
@[simp] theorem cFs_splice {l : List Nat} {k : Nat} {x : Nat} (h : k < l.length) : splice (cFs l) k [.flt .f32 x] = cFs (l.set k x) := by
  unfold cFs splice
  rw [List.map_set, List.set_eq_take_append_cons_drop, if_pos (by simpa using h)]
  simp
@[simp] theorem cFs_append (l l' : List Nat) : cFs l ++ cFs l' = cFs (l ++ l') := by simp [cFs]
@[simp] theorem cFs_push (l : List Nat) (x : Nat) : cFs l ++ [.flt .f32 x] = cFs (l ++ [x]) := by simp [cFs]
@[simp] theorem cFs_make (n : Nat) : makeL n [.flt .f32 0] = cFs (List.replicate n 0) := by
  unfold makeL cFs
  simp [Nat.mod_one, List.map_const']


theorem nat_wrap {k : Nat} (h : k < 9223372036854775807) : IntKind.i64.wrap ((k : Int) + 1) = ((k + 1 : Nat) : Int) := by
  rw [IntKind.wrap_i64]; omega
theorem wrap64 {n : Int} (h0 : -9223372036854775808 ≤ n) (h1 : n < 9223372036854775808) : IntKind.i64.wrap n = n := by
  rw [IntKind.wrap_i64]; omega
@[simp] theorem wrap_nat_lt {k : Nat} (h : k < 9223372036854775808) : IntKind.i64.wrap (k : Int) = k := wrap64 (by omega) (by omega)

/-- A row that is written over from its beginning. -/
def mixN {α : Type} (l' l : List α) (k : Nat) : List α := l'.take k ++ l.drop k
theorem mixN_length {α : Type} {l' l : List α} (k : Nat) (h : l'.length = l.length) : (mixN l' l k).length = l.length := by simp [mixN]; omega
@[simp] theorem mixN_zero {α : Type} (l' l : List α) : mixN l' l 0 = l := by simp [mixN]
theorem mixN_all {α : Type} {l' l : List α} {k : Nat} (h : l.length ≤ k) (h' : l'.length ≤ k) : mixN l' l k = l' := by
  rw [mixN, List.take_of_length_le h', List.drop_of_length_le h, List.append_nil]
theorem mixN_set {α : Type} {l' l : List α} {k : Nat} {v : α} (h : k < l'.length) (hl : l'.length = l.length) (hv : v = l'[k]) : (mixN l' l k).set k v = mixN l' l (k + 1) := by
  subst hv
  unfold mixN
  have e2 : (l'.take k).length = k := by simp; omega
  rw [List.drop_eq_getElem_cons (by omega : k < l.length), List.take_succ_eq_append_getElem h, List.append_assoc, List.set_append, if_neg (by omega), e2, Nat.sub_self, List.set_cons_zero]
  rfl
theorem mixN_get {α : Type} {l' l : List α} {k : Nat} (hl : l'.length = l.length) (h : k < l.length) : (mixN l' l k)[k]'(by rw [mixN_length k hl]; exact h) = l[k] := by
  have h1 : (l'.take k).length = k := by simp; omega
  unfold mixN
  rw [List.getElem_append_right (by omega)]
  simp [h1]

/-- What the laws write over a result. -/
def markV (k n : Nat) : List V := (List.range n).map fun i => (fint .f32 (k + 3 * i : Nat), fint .f32 (k + 3 * i + 1 : Nat), fint .f32 (k + 3 * i + 2 : Nat))
def markT (k n : Nat) : List Th := (List.range n).map fun i => ((k + 3 * i : Nat), (k + 3 * i + 1 : Nat), fint .f32 (k + 3 * i + 2 : Nat))
def markI (k n : Nat) : List Int := (List.range n).map fun i => (k + i : Nat)
@[simp] theorem markV_length (k n : Nat) : (markV k n).length = n := by simp [markV]
@[simp] theorem markT_length (k n : Nat) : (markT k n).length = n := by simp [markT]
@[simp] theorem markI_length (k n : Nat) : (markI k n).length = n := by simp [markI]
@[simp] theorem cVs_pures (l : List V) : (∀ (x : AV), x ∈ cVs l → x.isPure = true) = True := eq_true (List.all_eq_true.1 (pure_flat (cVs_flat l)))
@[simp] theorem cTs_pures (l : List Th) : (∀ (x : AV), x ∈ cTs l → x.isPure = true) = True := eq_true (List.all_eq_true.1 (pure_flat (cTs_flat l)))
@[simp] theorem cIs_pures (l : List Int) : (∀ (x : AV), x ∈ cIs l → x.isPure = true) = True := eq_true (List.all_eq_true.1 (pure_flat (cIs_flat l)))
@[simp] theorem cBs_pures (l : List Bool) : (∀ (x : AV), x ∈ cBs l → x.isPure = true) = True := eq_true (List.all_eq_true.1 (pure_flat (cBs_flat l)))
@[simp] theorem cFs_pures (l : List Nat) : (∀ (x : AV), x ∈ cFs l → x.isPure = true) = True := eq_true (List.all_eq_true.1 (pure_flat (cFs_flat l)))
end Go.Awp
