/- Contracts: threads that pull. Contracts: threads pull, many times. Contracts: cloths over a ball. Contracts: what the program and the reference do with cloths. Contracts: how far threads are stretched; places inside a ball. Contracts: cloths that tear.
Conditions: none. -/
import Derived.Test.YtnjpigkijdnpkaaZ1
import Derived.Test.YtnjpigkijdnpkaaNea
namespace Go.Proofs.Ytnjpigkijdnpkaa
set_option linter.all false
open Go Go.Awp
set_option maxRecDepth 100000
set_option maxHeartbeats 4000000
set_option pp.deepTerms true

def two : Nat := 1073741824
/-- A thread pulls its places. -/
def pullA (c : Clo) (t : Th) : V := c.pl.getD t.1.toNat v000
def pullB (c : Clo) (t : Th) : V := c.pl.getD t.2.1.toNat v000
def pullV (c : Clo) (t : Th) : V := vsub (pullB c t) (pullA c t)
def pullS (c : Clo) (t : Th) : Nat := fop .quo .f32 (fop .sub .f32 (vlong (pullV c t)) t.2.2) (vlong (pullV c t))
def pullQ (c : Clo) (t : Th) : Nat := if t.1 ∉ c.pin ∧ t.2.1 ∉ c.pin then fop .mul .f32 1056964608 (pullS c t) else pullS c t
def pull1 (c : Clo) (t : Th) : List V := if t.1 ∉ c.pin then c.pl.set t.1.toNat (vadd (pullA c t) (vscale (pullV c t) (pullQ c t))) else c.pl
def pull2 (c : Clo) (t : Th) : List V := if t.2.1 ∉ c.pin then (pull1 c t).set t.2.1.toNat (vsub (pullB c t) (vscale (pullV c t) (pullQ c t))) else pull1 c t
def pullC (c : Clo) (t : Th) : Clo := if ford .f32 (vlong (pullV c t)) 0 = some .eq ∨ finB (pullS c t) = false then c else { c with pl := pull2 c t }
theorem pullC_pl (c : Clo) (t : Th) : (pullC c t).pl.length = c.pl.length := by
  unfold pullC pull2 pull1
  split
  · rfl
  · dsimp only
    split <;> split <;> simp
theorem pullC_rest (c : Clo) (t : Th) : (pullC c t).ol = c.ol ∧ (pullC c t).th = c.th ∧ (pullC c t).pin = c.pin := by
  unfold pullC
  split <;> exact ⟨rfl, rfl, rfl⟩
/-- A thread of places. -/
def ThOk (n : Nat) (t : Th) : Prop := 0 ≤ t.1 ∧ t.1 < n ∧ 0 ≤ t.2.1 ∧ t.2.1 < n ∧ t.1 ≠ t.2.1
theorem vld_th {c : Clo} (h : vldC c = true) : ∀ t ∈ c.th, ThOk c.pl.length t := by
  intro t ht
  unfold vldC at h
  simp only [Bool.and_eq_true, List.all_eq_true] at h
  have := h.1.2 t ht
  simp [thrB, inB] at this
  unfold ThOk
  omega
theorem pullC_at {c : Clo} {a b lg : Nat} (b1 : a < c.pl.length) (b2 : b < c.pl.length) : pullA c (a, b, lg) = c.pl[a] ∧ pullB c (a, b, lg) = c.pl[b] ∧ pullV c (a, b, lg) = vsub c.pl[b] c.pl[a] ∧
    pullS c (a, b, lg) = fop .quo .f32 (fop .sub .f32 (vlong (vsub c.pl[b] c.pl[a])) lg) (vlong (vsub c.pl[b] c.pl[a])) := by
  have h1 : pullA c (a, b, lg) = c.pl[a] := by simp [pullA, b1]
  have h2 : pullB c (a, b, lg) = c.pl[b] := by simp [pullB, b2]
  have h3 : pullV c (a, b, lg) = vsub c.pl[b] c.pl[a] := by simp [pullV, h1, h2]
  exact ⟨h1, h2, h3, by simp [pullS, h3]⟩
end Go.Proofs.Ytnjpigkijdnpkaa
namespace Go.Proofs.Ytnjpigkijdnpkaa
set_option linter.all false
open Go Go.Awp
set_option maxRecDepth 100000
set_option maxHeartbeats 4000000
set_option pp.deepTerms true

/-- Places behind a pull of a thread. -/
def pullL (c : Clo) (l : List V) (t : Th) : List V := (pullC { c with pl := l } t).pl
theorem pullL_length (c : Clo) (l : List V) (t : Th) : (pullL c l t).length = l.length := pullC_pl _ _
theorem pullL_eq (c : Clo) (l : List V) (t : Th) : pullC { c with pl := l } t = { c with pl := pullL c l t } := by
  have := pullC_rest { c with pl := l } t
  unfold pullL
  generalize pullC { c with pl := l } t = d at *
  obtain ⟨h1, h2, h3⟩ := this
  cases d
  simp only at h1 h2 h3
  subst h1; subst h2; subst h3; rfl
def partL (c : Clo) (l : List V) (j : Nat) : List V := (c.th.take j).foldl (pullL c) l
theorem partL_length (c : Clo) (l : List V) (j : Nat) : (partL c l j).length = l.length := by
  unfold partL
  generalize c.th.take j = ts
  induction ts generalizing l with
  | nil => rfl
  | cons t ts ih => rw [List.foldl_cons, ih, pullL_length]
theorem partL_succ (c : Clo) (l : List V) {j : Nat} (h : j < c.th.length) : partL c l (j + 1) = pullL c (partL c l j) c.th[j] := by
  unfold partL
  rw [← List.take_append_getElem h, List.foldl_append]; rfl
def relL (c : Clo) : Nat → List V
  | 0 => c.pl
  | r + 1 => partL c (relL c r) c.th.length
theorem relL_length (c : Clo) : ∀ r, (relL c r).length = c.pl.length
  | 0 => rfl
  | r + 1 => by rw [relL, partL_length, relL_length c r]
def relC (c : Clo) (r : Nat) : Clo := { c with pl := relL c r }
end Go.Proofs.Ytnjpigkijdnpkaa
namespace Go.Proofs.Ytnjpigkijdnpkaa
set_option linter.all false
open Go Go.Awp
set_option maxRecDepth 100000
set_option maxHeartbeats 4000000
set_option pp.deepTerms true

def drapeV (o : V) (r : Nat) (p : V) : V := if ford .f32 (vlong (vsub p o)) r = some .lt then (if ford .f32 (vlong (vsub p o)) 0 = some .eq then vadd o (0, 0, r) else vadd o (vscale (vsub p o) (fop .quo .f32 r (vlong (vsub p o))))) else p
def drapeC (c : Clo) (o : V) (r : Nat) : Clo := { c with pl := c.pl.mapIdx fun i p => if decide ((i : Int) ∈ c.pin) = false then drapeV o r p else p }
theorem drapeC_pl (c : Clo) (o : V) (r : Nat) : (drapeC c o r).pl.length = c.pl.length := by simp [drapeC]
end Go.Proofs.Ytnjpigkijdnpkaa
namespace Go.Proofs.Ytnjpigkijdnpkaa
set_option linter.all false
open Go Go.Awp
set_option maxRecDepth 100000
set_option maxHeartbeats 4000000
set_option pp.deepTerms true

theorem Clo.Small.of_len {c d : Clo} (hs : c.Small) (h1 : d.pl.length = c.pl.length) (h2 : d.ol.length = c.ol.length) (h3 : d.th.length = c.th.length) (h4 : d.pin.length = c.pin.length) : d.Small :=
  ⟨by rw [h1]; exact hs.pl, by rw [h2]; exact hs.ol, by rw [h3]; exact hs.th, by rw [h4]; exact hs.pin⟩
-- fall
theorem c_FallCloth (c : Clo) (f : V) (q : Nat) (hs : c.Small) (hv : vldC c = true) : Fun Try.prog 32 [c.av, aV f, .flt .f32 q] [] (.tup [(fallC c f q).own 0, .bool true]) (fallC c f q).mem := by
  have hvl := vld_len hv
  refine FnSpec.walk dr_ok Try.func32 rfl (by kernel_rfl) rfl rfl rfl (by simp) ?_
  simp
  (first | refine callG_r ?_ | refine callD_r ?_); simp; (first | refine callN_flat (by with_reducible first | exact c_ValidCloth c hs) rfl ?_ | refine callN_new (by with_reducible first | exact c_ValidCloth c hs) ?_ | refine callM_flat (by with_reducible first | exact c_ValidCloth c hs) rfl ?_ | refine callM_new (by with_reducible first | exact c_ValidCloth c hs) ?_)
  simp [hv]
  (first | refine callG_r ?_ | refine callD_r ?_); simp; (first | refine callN_flat (by with_reducible first | exact c_copyCloth c hs) rfl ?_ | refine callN_new (by with_reducible first | exact c_copyCloth c hs) ?_ | refine callM_flat (by with_reducible first | exact c_copyCloth c hs) rfl ?_ | refine callM_new (by with_reducible first | exact c_copyCloth c hs) ?_)
  simp
  (first | refine callG_on true [7, 3, 4, 5, 6] ?_ | refine callD_on true [7, 3, 4, 5, 6] ?_); simp; (first | refine callN_fun (by with_reducible exact c_fall c f q hs hvl.1 hvl.2.1 (vld_pins hv)) (by simp) ?_ | refine callMD_fun (by with_reducible exact c_fall c f q hs hvl.1 hvl.2.1 (vld_pins hv)) (by simp) ?_)
  simp
  (refine endG_keepT [(some 3, 0), (some 4, 0), (some 5, 0), (some 6, 0)] ?_ ?_ ?_ ?_ ?_ ?_ ?_ ⟨rfl, rfl⟩ ?_ <;> simp)
theorem c_FallCloth0 (c : Clo) (f : V) (q : Nat) (hs : c.Small) (hv : vldC c = false) : Fun Try.prog 32 [c.av, aV f, .flt .f32 q] [] (.tup [noC, .bool false]) [] := by
  refine FnSpec.walk dr_ok Try.func32 rfl (by kernel_rfl) rfl rfl rfl (by simp) ?_
  simp
  (first | refine callG_r ?_ | refine callD_r ?_); simp; (first | refine callN_flat (by with_reducible first | exact c_ValidCloth c hs) rfl ?_ | refine callN_new (by with_reducible first | exact c_ValidCloth c hs) ?_ | refine callM_flat (by with_reducible first | exact c_ValidCloth c hs) rfl ?_ | refine callM_new (by with_reducible first | exact c_ValidCloth c hs) ?_)
  simp [hv]
  (refine endG_keepT [] ?_ ?_ ?_ ?_ ?_ ?_ ?_ ⟨rfl, rfl⟩ ?_ <;> simp [noC])
theorem fallC_small {c : Clo} {f : V} {q : Nat} (hs : c.Small) : (fallC c f q).Small := hs.of_len (fallC_pl _ _ _) (fallC_ol _ _ _) rfl rfl
-- drape
theorem drapeC_small {c : Clo} {o : V} {r : Nat} (hs : c.Small) : (drapeC c o r).Small := hs.of_len (drapeC_pl _ _ _) rfl rfl rfl
end Go.Proofs.Ytnjpigkijdnpkaa
namespace Go.Proofs.Ytnjpigkijdnpkaa
set_option linter.all false
open Go Go.Awp
set_option maxRecDepth 100000
set_option maxHeartbeats 4000000
set_option pp.deepTerms true

def strV (c : Clo) (t : Th) : Nat := fop .quo .f32 (vlong (pullV c t)) t.2.2
theorem strV_at {c : Clo} {a b lg : Nat} (b1 : a < c.pl.length) (b2 : b < c.pl.length) : strV c (a, b, lg) = fop .quo .f32 (vlong (vsub c.pl[b] c.pl[a])) lg := by
  simp [strV, (pullC_at (lg := lg) b1 b2).2.2.1]
theorem c_stretchOf (c : Clo) (t : Th) (ht : ThOk c.pl.length t) : Fun Try.prog 58 [c.av, aT t] [] (.flt .f32 (strV c t)) [] := by
  obtain ⟨q1, q2, q3, q4, q5⟩ := ht
  obtain ⟨A, B, lg⟩ := t
  simp only at q1 q2 q3 q4 q5
  obtain ⟨a, rfl⟩ := Int.eq_ofNat_of_zero_le q1
  obtain ⟨b, rfl⟩ := Int.eq_ofNat_of_zero_le q3
  have b1 : a < c.pl.length := by omega
  have b2 : b < c.pl.length := by omega
  rw [strV_at b1 b2]
  refine FnSpec.walkF dr_ok Try.func58 rfl (by kernel_rfl) rfl rfl rfl (by simp) ?_
  simp [b1, b2]
  (first | refine callG_r ?_ | refine callD_r ?_); simp; (first | refine callN_flat (by with_reducible first | exact c_less _ _ _ _ _ _) rfl ?_ | refine callN_new (by with_reducible first | exact c_less _ _ _ _ _ _) ?_ | refine callM_flat (by with_reducible first | exact c_less _ _ _ _ _ _) rfl ?_ | refine callM_new (by with_reducible first | exact c_less _ _ _ _ _ _) ?_)
  simp
  (first | refine callG_r ?_ | refine callD_r ?_); simp; (first | refine callN_flat (by with_reducible first | exact c_long _ _ _) rfl ?_ | refine callN_new (by with_reducible first | exact c_long _ _ _) ?_ | refine callM_flat (by with_reducible first | exact c_long _ _ _) rfl ?_ | refine callM_new (by with_reducible first | exact c_long _ _ _) ?_)
  simp
def mostS (c : Clo) (m : Nat) (t : Th) : Nat := if ford .f32 (strV c t) m = some .gt then strV c t else m
def mostL (c : Clo) (j : Nat) : Nat := (c.th.take j).foldl (mostS c) 0
theorem mostL_succ (c : Clo) {j : Nat} (h : j < c.th.length) : mostL c (j + 1) = mostS c (mostL c j) c.th[j] := by
  unfold mostL
  rw [← List.take_append_getElem h, List.foldl_append]; rfl
theorem c_StretchOf (c : Clo) (hs : c.Small) (hv : vldC c = true) : Fun Try.prog 26 [c.av] [] (.tup [.flt .f32 (mostL c c.th.length), .bool true]) [] := by
  have hvl := vld_len hv
  refine FnSpec.walkF dr_ok Try.func26 rfl (by kernel_rfl) rfl rfl rfl (by simp) ?_
  simp
  (first | refine callG_r ?_ | refine callD_r ?_); simp; (first | refine callN_flat (by with_reducible first | exact c_ValidCloth c hs) rfl ?_ | refine callN_new (by with_reducible first | exact c_ValidCloth c hs) ?_ | refine callM_flat (by with_reducible first | exact c_ValidCloth c hs) rfl ?_ | refine callM_new (by with_reducible first | exact c_ValidCloth c hs) ?_)
  simp [hv]
  refine loopG_of (α := Nat) (fun k => k ≤ c.th.length) (fun k => c.th.length - k) (fun k => [(14, .int .i64 k), (13, .int .i64 c.th.length), (12, .view false (cTs c.th) c.th.length), (4, .flt .f32 (mostL c k)), (1, .ptr 0 0)])
    (fun k => [.blk true true 51 [.view false (cVs c.pl) c.pl.length, .view false (cVs c.ol) c.ol.length, .view false (cTs c.th) c.th.length, .view false (cIs c.pin) c.pin.length]]) 0 (by simp) ?_ fun k hk => ?_
  · (refine weak_gc [(some 0, 0)] ?_ ?_ ?_ ?_ ?_ <;> simp [mostL])
  have hw := nat_wrap (k := k) (by omega)
  by_cases b : k < c.th.length
  · simp [b, hw]
    (first | refine callG_r ?_ | refine callD_r ?_); simp; (first | refine callN_flat (by with_reducible first | exact c_stretchOf c c.th[k] (vld_th hv _ (List.getElem_mem b))) rfl ?_ | refine callN_new (by with_reducible first | exact c_stretchOf c c.th[k] (vld_th hv _ (List.getElem_mem b))) ?_ | refine callM_flat (by with_reducible first | exact c_stretchOf c c.th[k] (vld_th hv _ (List.getElem_mem b))) rfl ?_ | refine callM_new (by with_reducible first | exact c_stretchOf c c.th[k] (vld_th hv _ (List.getElem_mem b))) ?_)
    simp [b, hw]
    refine ⟨fun e => loopK_next (k + 1) (by omega) (by omega) ?_, fun e => loopK_next (k + 1) (by omega) (by omega) ?_⟩
    all_goals
      rw [mostL_succ c b, mostS]
      (refine weak_gc [(some 0, 0)] ?_ ?_ ?_ ?_ ?_ <;> simp [e])
  · obtain rfl : k = c.th.length := by omega
    simp
theorem c_StretchOf0 (c : Clo) (hs : c.Small) (hv : vldC c = false) : Fun Try.prog 26 [c.av] [] (.tup [.flt .f32 0, .bool false]) [] := by
  refine FnSpec.walkF dr_ok Try.func26 rfl (by kernel_rfl) rfl rfl rfl (by simp) ?_
  simp
  (first | refine callG_r ?_ | refine callD_r ?_); simp; (first | refine callN_flat (by with_reducible first | exact c_ValidCloth c hs) rfl ?_ | refine callN_new (by with_reducible first | exact c_ValidCloth c hs) ?_ | refine callM_flat (by with_reducible first | exact c_ValidCloth c hs) rfl ?_ | refine callM_new (by with_reducible first | exact c_ValidCloth c hs) ?_)
  simp [hv]
def insB (c : Clo) (o : V) (r : Nat) (k : Nat) : Prop := ford .f32 (vlong (vsub (c.pl.getD k v000) o)) r = some .lt
instance (c : Clo) (o : V) (r k : Nat) : Decidable (insB c o r k) := by unfold insB; infer_instance
def insL (c : Clo) (o : V) (r : Nat) : Nat → List Int
  | 0 => []
  | k + 1 => if insB c o r k then insL c o r k ++ [(k : Int)] else insL c o r k
theorem insL_le (c : Clo) (o : V) (r : Nat) : ∀ k, (insL c o r k).length ≤ k
  | 0 => by simp [insL]
  | k + 1 => by
    have := insL_le c o r k
    unfold insL
    split <;> simp <;> omega
end Go.Proofs.Ytnjpigkijdnpkaa
namespace Go.Proofs.Ytnjpigkijdnpkaa
set_option linter.all false
open Go Go.Awp
set_option maxRecDepth 100000
set_option maxHeartbeats 4000000
set_option pp.deepTerms true

/-- A thread that is stretched too far. -/
def tearB (c : Clo) (q : Nat) (t : Th) : Bool := ford .f32 (strV c t) q == some .gt
theorem c_tear1 (c : Clo) (q : Nat) (t : Th) (ht : ThOk c.pl.length t) : Fun Try.prog 57 [aT t, c.pv, .vptr false [.flt .f32 q]] [] (.bool (tearB c q t)) [] := by
  refine FnSpec.walkF dr_ok Try.func57 rfl (by kernel_rfl) rfl rfl rfl (by simp) ?_
  simp
  (first | refine callG_r ?_ | refine callD_r ?_); simp; (first | refine callN_flat (by with_reducible first | exact c_stretchOf c t ht) rfl ?_ | refine callN_new (by with_reducible first | exact c_stretchOf c t ht) ?_ | refine callM_flat (by with_reducible first | exact c_stretchOf c t ht) rfl ?_ | refine callM_new (by with_reducible first | exact c_stretchOf c t ht) ?_)
  simp [tearB]
/-- The first of a list that answers. -/
def idxI (p : Th → Bool) (l : List Th) : Int := if l.any p then (l.findIdx p : Nat) else -1
theorem idxI_at {p : Th → Bool} {l : List Th} {k : Nat} (hk : k < l.length) (h1 : p l[k] = true) (h0 : ∀ j (h : j < l.length), j < k → p l[j] = false) : idxI p l = k := by
  unfold idxI
  rw [if_pos (List.any_eq_true.2 ⟨_, List.getElem_mem hk, h1⟩)]
  have := (List.findIdx_eq hk).2 ⟨h1, fun j hj => h0 j (by omega) hj⟩
  rw [this]
theorem idxI_none {p : Th → Bool} {l : List Th} (h0 : ∀ j (h : j < l.length), j < l.length → p l[j] = false) : idxI p l = -1 := by
  unfold idxI
  rw [if_neg]
  intro h
  obtain ⟨x, hx, hp⟩ := List.any_eq_true.1 h
  obtain ⟨j, hj, rfl⟩ := List.mem_iff_getElem.1 hx
  rw [h0 j hj hj] at hp; cases hp
theorem idxI_cases (p : Th → Bool) (l : List Th) : (idxI p l = -1 ∧ l.filter (fun t => !p t) = l) ∨ ∃ k : Nat, k < l.length ∧ idxI p l = k ∧ (∀ j (h : j < l.length), j < k → p l[j] = false) ∧ (∀ h : k < l.length, p l[k] = true) := by
  by_cases h : l.any p = true
  · right
    have hlt : l.findIdx p < l.length := List.findIdx_lt_length.2 (by simpa using h)
    obtain ⟨g1, g2⟩ := (List.findIdx_eq hlt).1 rfl
    refine ⟨l.findIdx p, hlt, by unfold idxI; rw [if_pos h], fun j _ hj => g2 j hj, fun _ => g1⟩
  · left
    refine ⟨by unfold idxI; rw [if_neg h], List.filter_eq_self.2 fun t ht => ?_⟩
    cases hp : p t with
    | false => rfl
    | true => exact absurd (List.any_eq_true.2 ⟨t, ht, hp⟩) h
theorem c_IndexFuncT (c : Clo) (q : Nat) (l : List Th) (n : Nat) (hn : n = l.length) (h1 : l.length ≤ 1048576) (ht : ∀ t ∈ l, ThOk c.pl.length t) :
    Fun Try.prog 86 [.view false (cTs l) n, .clo 57 [] [c.pv, .vptr false [.flt .f32 q]]] [] (.int .i64 (idxI (tearB c q) l)) [] := by
  subst hn
  refine FnSpec.walkF dr_ok Try.func86 rfl (by kernel_rfl) rfl rfl rfl (by simp) ?_
  simp
  refine loopG_of (α := Nat) (fun k => k ≤ l.length ∧ ∀ j (h : j < l.length), j < k → tearB c q l[j] = false) (fun k => l.length - k) (fun k => [(8, .int .i64 k), (7, .int .i64 l.length), (0, .view false (cTs l) l.length), (1, .clo 57 [] [c.pv, .vptr false [.flt .f32 q]])]) (fun k => []) 0 (by simp) ?_ fun k ⟨hk, hi⟩ => ?_
  · (refine weak_gc [] ?_ ?_ ?_ ?_ ?_ <;> simp)
  have hw := nat_wrap (k := k) (by omega)
  by_cases b : k < l.length
  · simp [b, hw]
    (first | refine callG_r ?_ | refine callD_r ?_); simp; (first | refine callN_flat (by with_reducible first | exact c_tear1 c q _ (ht _ (List.getElem_mem b))) rfl ?_ | refine callN_new (by with_reducible first | exact c_tear1 c q _ (ht _ (List.getElem_mem b))) ?_ | refine callM_flat (by with_reducible first | exact c_tear1 c q _ (ht _ (List.getElem_mem b))) rfl ?_ | refine callM_new (by with_reducible first | exact c_tear1 c q _ (ht _ (List.getElem_mem b))) ?_)
    simp [hw]
    refine ⟨fun e => (idxI_at b e hi).symm, fun e => loopK_next (k + 1) (by omega) ⟨by omega, fun j hj hjk => ?_⟩ ?_⟩
    · by_cases e' : j = k
      · subst e'; exact e
      · exact hi j hj (by omega)
    · (refine weak_gc [] ?_ ?_ ?_ ?_ ?_ <;> simp)
  · obtain rfl : k = l.length := by omega
    simp
    exact (idxI_none hi).symm
def keptT (c : Clo) (q : Nat) (l : List Th) : List Th := l.filter (fun t => !tearB c q t)
theorem keptT_le (c : Clo) (q : Nat) (l : List Th) : (keptT c q l).length ≤ l.length := List.length_filter_le _ _
theorem keptT_take {c : Clo} {q : Nat} {l : List Th} {k : Nat} (h : k < l.length) : keptT c q (l.take (k + 1)) = if tearB c q l[k] = true then keptT c q (l.take k) else keptT c q (l.take k) ++ [l[k]] := by
  unfold keptT
  rw [← List.take_append_getElem h, List.filter_append]
  cases hp : tearB c q l[k] <;> simp [List.filter_cons, hp]
theorem keptT_all {c : Clo} {q : Nat} {l : List Th} {k : Nat} (hk : k ≤ l.length) (h : ∀ j (h : j < l.length), j < k → tearB c q l[j] = false) : keptT c q (l.take k) = l.take k := by
  unfold keptT
  refine List.filter_eq_self.2 fun t ht => ?_
  obtain ⟨j, hj, rfl⟩ := List.mem_iff_getElem.1 ht
  rw [List.length_take] at hj
  rw [List.getElem_take, h j (by omega) (by omega)]; rfl
theorem c_DeleteFuncT (c : Clo) (q : Nat) (l : List Th) (n : Nat) (hn : n = l.length) (h1 : l.length ≤ 1048576) (ht : ∀ t ∈ l, ThOk c.pl.length t) :
    Fun Try.prog 56 [.slc 0 0 n 3, .clo 57 [] [c.pv, .vptr false [.flt .f32 q]]] [.blk false false 96 (cTs l)] (.slc 0 0 (keptT c q l).length 3) [.blk false false 96 (cTs (keptT c q l))] := by
  subst hn
  refine FnSpec.cut (R := fun av H => av = .slc 0 0 (keptT c q l).length 3 ∧ ∃ t, H = [.blk false false 96 (cTs (keptT c q l) ++ t)]) ?_ fun av H ⟨e1, t, e2⟩ => ⟨e1, by rw [e2]; exact cut_one⟩
  refine FnSpec.walk dr_ok Try.func56 rfl (by kernel_rfl) rfl rfl rfl (by simp) ?_
  simp
  (first | refine callG_r ?_ | refine callD_r ?_); simp; (first | refine callN_flat (by with_reducible first | exact c_IndexFuncT c q l _ rfl h1 ht) rfl ?_ | refine callN_new (by with_reducible first | exact c_IndexFuncT c q l _ rfl h1 ht) ?_ | refine callM_flat (by with_reducible first | exact c_IndexFuncT c q l _ rfl h1 ht) rfl ?_ | refine callM_new (by with_reducible first | exact c_IndexFuncT c q l _ rfl h1 ht) ?_)
  rcases idxI_cases (tearB c q) l with ⟨e1, e2⟩ | ⟨i, hi, e1, h0, hp⟩
  · rw [e1]
    simp
    have e2 : keptT c q l = l := e2
    refine endG_keepT (r := .slc 0 0 l.length 3) (Hout := [.blk false false 96 (cTs l)]) [] ?_ ?_ ?_ ?_ ?_ ?_ ?_ ⟨by rw [e2], [], by rw [e2]; simp⟩ ?_ <;> simp
  · rw [e1]
    have hne : ¬ ((i : Int) = -1) := by omega
    have hwi := nat_wrap (k := i) (by omega)
    simp [hne, hwi]
    refine loopG_of (α := Nat × List Th) (fun s => i < s.1 ∧ s.1 ≤ l.length ∧ s.2.length = l.length ∧ s.2.take (keptT c q (l.take s.1)).length = keptT c q (l.take s.1) ∧ s.2.drop s.1 = l.drop s.1 ∧ (keptT c q (l.take s.1)).length < s.1) (fun s => l.length - s.1)
      (fun s => [(0, .slc 0 0 l.length 3), (1, .clo 57 [] [c.pv, .vptr false [.flt .f32 q]]), (6, .int .i64 s.1), (5, .int .i64 (keptT c q (l.take s.1)).length)]) (fun s => [.blk false false 96 (cTs s.2)]) (i + 1, l) ?_ ?_ fun s ⟨g1, g2, g3, g4, g5, g6⟩ => ?_
    · have hk := keptT_take (c := c) (q := q) hi
      rw [if_pos (hp hi), keptT_all (by omega) h0] at hk
      have : (l.take i).length = i := by rw [List.length_take]; omega
      simp only
      rw [hk, this]
      refine ⟨?_, ?_, ?_, ?_, ?_, ?_⟩ <;> first | trivial | omega | rfl
    · have hk := keptT_take (c := c) (q := q) hi
      rw [if_pos (hp hi), keptT_all (by omega) h0] at hk
      have : (l.take i).length = i := by rw [List.length_take]; omega
      simp only
      rw [hk, this]
      (refine weak_gc [] ?_ ?_ ?_ ?_ ?_ <;> simp)
    · obtain ⟨j, L⟩ := s
      simp only at g1 g2 g3 g4 g5 g6
      have hw := nat_wrap (k := j) (by omega)
      have hwm := nat_wrap (k := (keptT c q (l.take j)).length) (by omega)
      by_cases b : j < l.length
      · have bL : j < L.length := by omega
        have el : L[j] = l[j] := by
          have := congrArg (·[0]?) g5
          simp only [List.getElem?_drop, Nat.add_zero] at this
          rw [List.getElem?_eq_getElem bL, List.getElem?_eq_getElem b] at this
          exact Option.some.inj this
        have hk := keptT_take (c := c) (q := q) b
        have bm : (keptT c q (l.take j)).length < L.length := by omega
        have bml : (keptT c q (l.take j)).length < l.length := by omega
        have nx : L.drop (j + 1) = l.drop (j + 1) := by
          have := congrArg (List.drop 1) g5
          simpa [List.drop_drop] using this
        simp [b, bL, hw, el, g3]
        (first | refine callG_r ?_ | refine callD_r ?_); simp; (first | refine callN_flat (by with_reducible first | exact c_tear1 c q _ (ht _ (List.getElem_mem b))) rfl ?_ | refine callN_new (by with_reducible first | exact c_tear1 c q _ (ht _ (List.getElem_mem b))) ?_ | refine callM_flat (by with_reducible first | exact c_tear1 c q _ (ht _ (List.getElem_mem b))) rfl ?_ | refine callM_new (by with_reducible first | exact c_tear1 c q _ (ht _ (List.getElem_mem b))) ?_)
        simp [bm, bml, hw, hwm, el, g3]
        refine ⟨fun e => ?_, fun e => ?_⟩
        · refine ⟨by omega, loopK_next (j + 1, L.set (keptT c q (l.take j)).length l[j]) (by simp only; omega) ?_ ?_⟩
          · rw [if_neg (by rw [e]; exact Bool.false_ne_true)] at hk
            simp only
            rw [hk, List.length_append, List.length_singleton]
            refine ⟨by omega, by omega, by rw [List.length_set]; exact g3, ?_, ?_, by omega⟩
            · have hlt : (keptT c q (l.take j)).length < (L.set (keptT c q (l.take j)).length l[j]).length := by rw [List.length_set]; exact bm
              rw [← List.take_append_getElem hlt, List.getElem_set_self, List.take_set_of_le (Nat.le_refl _), g4]
            · rw [List.drop_set_of_lt (by omega), nx]
          · rw [if_neg (by rw [e]; exact Bool.false_ne_true)] at hk
            simp only
            rw [hk, List.length_append, List.length_singleton]
            (refine weak_gc [] ?_ ?_ ?_ ?_ ?_ <;> simp)
        · refine loopK_next (j + 1, L) (by simp only; omega) ?_ ?_
          · rw [if_pos e] at hk
            simp only
            rw [hk]
            exact ⟨by omega, by omega, g3, g4, nx, by omega⟩
          · rw [if_pos e] at hk
            simp only
            rw [hk]
            (refine weak_gc [] ?_ ?_ ?_ ?_ ?_ <;> simp)
      · obtain rfl : j = l.length := by omega
        rw [List.take_length] at g4 g6 hwm
        simp
        refine ⟨by omega, fun e => ⟨by omega, by omega, ?_⟩, fun e e' => ⟨by omega, by omega, ?_⟩, fun e e' => by omega⟩
        · refine endG_keepT (r := .slc 0 0 (keptT c q l).length 3) (Hout := [.blk false false 96 (splice (cTs L) 0 (cTs (List.replicate l.length (0, 0, 0))))]) [] ?_ ?_ ?_ ?_ ?_ ?_ ?_ ⟨rfl, _, by rw [e]; rfl⟩ ?_ <;> simp
        · refine endG_keepT (r := .slc 0 0 (keptT c q l).length 3) (Hout := [.blk false false 96 (splice (cTs L) ((keptT c q l).length * 3) (cTs (List.replicate (l.length - (keptT c q l).length) (0, 0, 0))))]) [] ?_ ?_ ?_ ?_ ?_ ?_ ?_ ⟨rfl, _, by unfold splice; rw [cTs_take, g4, List.append_assoc]⟩ ?_ <;> simp
/-- A cloth without the threads that tear. -/
def tearC (c : Clo) (q : Nat) : Clo := { c with th := keptT c q c.th }
def tornN (c : Clo) (q : Nat) : Int := c.th.length - (keptT c q c.th).length
theorem tearC_small {c : Clo} {q : Nat} (hs : c.Small) : (tearC c q).Small := ⟨hs.pl, hs.ol, Nat.le_trans (keptT_le _ _ _) hs.th, hs.pin⟩
theorem c_TearCloth (c : Clo) (q : Nat) (hs : c.Small) (hv : vldC c = true) : Fun Try.prog 25 [c.av, .flt .f32 q] [] (.tup [(tearC c q).own 0, .int .i64 (tornN c q), .bool true]) (tearC c q).mem := by
  have hvl := vld_len hv
  have hle := keptT_le c q c.th
  have hw : IntKind.i64.wrap ((c.th.length : Int) - (keptT c q c.th).length) = (c.th.length : Int) - (keptT c q c.th).length := wrap64 (by omega) (by omega)
  refine FnSpec.walk dr_ok Try.func25 rfl (by kernel_rfl) rfl rfl rfl (by simp) ?_
  simp
  (first | refine callG_r ?_ | refine callD_r ?_); simp; (first | refine callN_flat (by with_reducible first | exact c_ValidCloth c hs) rfl ?_ | refine callN_new (by with_reducible first | exact c_ValidCloth c hs) ?_ | refine callM_flat (by with_reducible first | exact c_ValidCloth c hs) rfl ?_ | refine callM_new (by with_reducible first | exact c_ValidCloth c hs) ?_)
  simp [hv]
  (first | refine callG_r ?_ | refine callD_r ?_); simp; (first | refine callN_flat (by with_reducible first | exact c_copyCloth c hs) rfl ?_ | refine callN_new (by with_reducible first | exact c_copyCloth c hs) ?_ | refine callM_flat (by with_reducible first | exact c_copyCloth c hs) rfl ?_ | refine callM_new (by with_reducible first | exact c_copyCloth c hs) ?_)
  simp
  (first | refine callG_on true [5] ?_ | refine callD_on true [5] ?_); simp; (first | refine callN_fun (by with_reducible exact c_DeleteFuncT c q c.th _ rfl hs.th (vld_th hv)) (by simp) ?_ | refine callMD_fun (by with_reducible exact c_DeleteFuncT c q c.th _ rfl hs.th (vld_th hv)) (by simp) ?_)
  simp [hw]
  (refine endG_keepT [(some 3, 0), (some 4, 0), (some 5, 0), (some 6, 0)] ?_ ?_ ?_ ?_ ?_ ?_ ?_ ⟨rfl, rfl⟩ ?_ <;> simp [tearC, tornN])
theorem c_TearCloth0 (c : Clo) (q : Nat) (hs : c.Small) (hv : vldC c = false) : Fun Try.prog 25 [c.av, .flt .f32 q] [] (.tup [noC, .int .i64 0, .bool false]) [] := by
  refine FnSpec.walk dr_ok Try.func25 rfl (by kernel_rfl) rfl rfl rfl (by simp) ?_
  simp
  (first | refine callG_r ?_ | refine callD_r ?_); simp; (first | refine callN_flat (by with_reducible first | exact c_ValidCloth c hs) rfl ?_ | refine callN_new (by with_reducible first | exact c_ValidCloth c hs) ?_ | refine callM_flat (by with_reducible first | exact c_ValidCloth c hs) rfl ?_ | refine callM_new (by with_reducible first | exact c_ValidCloth c hs) ?_)
  simp [hv]
  (refine endG_keepT [] ?_ ?_ ?_ ?_ ?_ ?_ ?_ ⟨rfl, rfl⟩ ?_ <;> simp [noC])
end Go.Proofs.Ytnjpigkijdnpkaa
