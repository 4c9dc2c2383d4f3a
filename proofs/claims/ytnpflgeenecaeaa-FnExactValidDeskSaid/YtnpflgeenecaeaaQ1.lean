/- Rows of rows, springs; what the laws copy of them.
Conditions: none. -/
import Derived.Test.YtnpflgeenecaeaaL2
import Derived.Test.YtnpflgeenecaeaaFrz
namespace Go.Proofs.Ytnpflgeenecaeaa
set_option linter.all false
open Go Go.Awp
set_option maxRecDepth 100000
set_option maxHeartbeats 4000000
set_option pp.deepTerms true

/-- Rows of rows, to be read. -/
def cRs (b : Bool) (l : List (List Int)) : List AV := l.map fun t => .view b (cIs t) t.length
@[simp] theorem cRs_nil (b : Bool) : cRs b [] = [] := rfl
@[simp] theorem cRs_length (b : Bool) (l : List (List Int)) : (cRs b l).length = l.length := by simp [cRs]
@[simp] theorem cRs_take (b : Bool) (l : List (List Int)) (k : Nat) : (cRs b l).take k = cRs b (l.take k) := by simp [cRs, List.map_take]
@[simp] theorem cRs_append (b : Bool) (l l' : List (List Int)) : cRs b l ++ cRs b l' = cRs b (l ++ l') := by simp [cRs]
@[simp] theorem cRs_drop {b : Bool} {l : List (List Int)} {k : Nat} (h : k < l.length) : (cRs b l).drop k = .view b (cIs l[k]) l[k].length :: cRs b (l.drop (k + 1)) := by
  unfold cRs; rw [List.drop_eq_getElem_cons (by simpa using h), List.getElem_map, List.map_drop]
@[simp] theorem cRs_get {b : Bool} {l : List (List Int)} {k : Nat} (h : k < l.length) : (cRs b l)[k]? = some (.view b (cIs l[k]) l[k].length) := by simp [cRs, h]
@[simp] theorem cRs_frz (b : Bool) (l : List (List Int)) : (cRs b l).map AV.frz = cRs false l := by
  unfold cRs
  rw [List.map_map]
  refine List.map_congr_left fun t _ => ?_
  simp [AV.frz]
@[simp] theorem cRs_pass (nv own : Bool) (σ : List Nat) (H : Heap) (b : Bool) (l : List (List Int)) : (cRs b l).map (pass0 nv own σ H) = cRs false l := by
  unfold cRs
  rw [List.map_map]
  refine List.map_congr_left fun t _ => ?_
  simp [pass0]
@[simp] theorem cRs_pures (b : Bool) (l : List (List Int)) : (∀ (x : AV), x ∈ cRs b l → x.isPure = true) = True := by
  refine eq_true fun x hx => ?_
  obtain ⟨t, _, rfl⟩ := List.mem_map.1 hx
  rfl
@[simp] theorem cRs_newB (l : List (List Int)) : (∀ (x : AV), x ∈ cRs true l → x.newB = true) = True := by
  refine eq_true fun x hx => ?_
  obtain ⟨t, _, rfl⟩ := List.mem_map.1 hx
  simp [AV.newB]
@[simp] theorem nils_make (n : Nat) : makeL n [.nils] = List.replicate n .nils := by
  unfold makeL
  simp [Nat.mod_one, List.map_const']
/-- Rows that are copied one by one. -/
def mixR (T : List (List Int)) (k : Nat) : List AV := cRs true (T.take k) ++ List.replicate (T.length - k) .nils
@[simp] theorem mixR_length (T : List (List Int)) {k : Nat} (h : k ≤ T.length) : (mixR T k).length = T.length := by simp [mixR]; omega
theorem mixR_zero (T : List (List Int)) : mixR T 0 = List.replicate T.length .nils := by simp [mixR]
theorem mixR_all (T : List (List Int)) : mixR T T.length = cRs true T := by simp [mixR]
theorem mixR_set {T : List (List Int)} {k : Nat} (h : k < T.length) : (mixR T k).set k (.view true (cIs T[k]) T[k].length) = mixR T (k + 1) := by
  have e2 : (cRs true (T.take k)).length = k := by simp; omega
  unfold mixR
  rw [List.set_append, if_neg (by omega), e2, Nat.sub_self]
  obtain ⟨m, hm⟩ : ∃ m, T.length - k = m + 1 := ⟨T.length - k - 1, by omega⟩
  rw [hm, List.replicate_succ, List.set_cons_zero, show T.length - (k + 1) = m by omega, List.take_succ_eq_append_getElem h, ← cRs_append, List.append_assoc]
  rfl
theorem frz_set {H : Heap} {F : Nat → Prop} {l : List AV} {k : Nat} {x y : AV} (hx : Frz H F false x y) (j : Nat) (a b : AV) (ha : (l.set k x)[j]? = some a) (hb : (l.set k y)[j]? = some b) : Frz H F false a b := by
  rw [List.getElem?_set] at ha hb
  split at ha
  · rename_i e; subst e
    split at ha
    · cases ha
      simp at hb
      obtain ⟨_, rfl⟩ := hb
      exact hx
    · cases ha
  · rename_i e
    rw [if_neg e] at hb
    rw [ha] at hb; cases hb
    exact .same _
theorem splice_one {l : List AV} {k : Nat} {x : AV} (h : k < l.length) : splice l k [x] = l.set k x := by
  unfold splice
  rw [List.set_eq_take_append_cons_drop, if_pos h]
  simp

theorem frz_row {H : Heap} {F : Nat → Prop} {p : Bool} {q n t : Nat} {e : TypeId} {c : List AV} (h : H[q]? = some (.blk true false e c)) (hF : F q) : Frz H F p (.slc q 0 n t) (.view true c n) :=
  .row p q n t false e c c h hF rfl (fun _ => rfl) (fun e => by cases e)
theorem frz_box {H : Heap} {F : Nat → Prop} {p : Bool} {q n t : Nat} {e : TypeId} {c : List AV} (h : H[q]? = some (.blk true true e c)) (hp : ∀ a ∈ c, a.isPure = true) (hF : F q) : Frz H F p (.slc q 0 n t) (.view true c n) :=
  .row p q n t true e c c h hF rfl (fun _ => rfl) (fun _ j a b ha hb => by rw [ha] at hb; cases hb; exact .pure _ (hp _ (List.mem_of_getElem? ha)))

theorem leL_pures {f : Nat → Nat} {Z : Nat → Prop} : ∀ {l : List AV}, (∀ a ∈ l, a.isPure = true) → leL f Z l l
  | [], _ => trivial
  | a :: l, h => by
    refine ⟨.inr (.inl ?_), leL_pures fun x hx => h x (List.mem_cons_of_mem _ hx)⟩
    have := h a (List.mem_cons_self ..)
    cases a with
    | clo f first caps =>
      cases first with
      | nil => cases caps with
        | nil => simp [AV.ren]
        | cons _ _ => cases this
      | cons _ _ => cases this
    | _ => first | (cases this; done) | simp [AV.ren]
theorem mixR_pures (T : List (List Int)) (k : Nat) : ∀ a ∈ mixR T k, a.isPure = true := by
  intro a ha
  unfold mixR at ha
  rcases List.mem_append.1 ha with h | h
  · exact of_eq_true (cRs_pures true _) a h
  · rw [List.eq_of_mem_replicate h]; rfl
@[simp] theorem leL_mixR (f : Nat → Nat) (Z : Nat → Prop) (T : List (List Int)) (k : Nat) : leL f Z (mixR T k) (mixR T k) = True := eq_true (leL_pures (mixR_pures T k))
@[simp] theorem leL_cRs (f : Nat → Nat) (Z : Nat → Prop) (b : Bool) (T : List (List Int)) : leL f Z (cRs b T) (cRs b T) = True := eq_true (leL_pures (of_eq_true (cRs_pures b T)))

/-- Rows that are all short, and not many. -/
structure RsOk (T : List (List Int)) : Prop where
  len : T.length ≤ 1048576
  all : ∀ t ∈ T, t.length ≤ 1048576
theorem c_toSS (T : List (List Int)) (h : RsOk T) : Fun Try.prog 50 [.view false (cRs false T) T.length] [] (.view true (cRs true T) T.length) [] := by
  have h1 := h.len
  refine FnSpec.walkW dr_ok Try.func50 rfl (by kernel_rfl) rfl rfl rfl (by simp) ?_
  simp
  refine ⟨by omega, by omega, ?_⟩
  refine loopG_of (α := Nat) (fun k => k ≤ T.length) (fun k => T.length - k) (fun k => [(0, .view false (cRs false T) T.length), (3, .slc 0 0 T.length 1), (4, .int .i64 k)]) (fun k => [.blk true true 24 (mixR T k)]) 0 (by simp) (weak_UH (by rw [mixR_zero]) (by simp)) fun k hk => ?_
  have hw := nat_wrap (k := k) (by omega)
  by_cases c : k < T.length
  · have hm := mixR_length T (k := k) (by omega)
    simp [c, hw, hm]
    (first | refine callG_r ?_ | refine callD_r ?_); simp; (first | refine callN_flat (by with_reducible first | exact c_toInt64S _ (h.all _ (List.getElem_mem c))) rfl ?_ | refine callN_new (by with_reducible first | exact c_toInt64S _ (h.all _ (List.getElem_mem c))) ?_ | refine callM_flat (by with_reducible first | exact c_toInt64S _ (h.all _ (List.getElem_mem c))) rfl ?_ | refine callM_new (by with_reducible first | exact c_toInt64S _ (h.all _ (List.getElem_mem c))) ?_)
    simp [c, hw, hm]
    refine ⟨by omega, ?_⟩
    rw [splice_one (by omega)]
    have hset := mixR_set c
    refine loopK_next (k + 1) (by omega) (by omega) (Weak.trans (weak_frzU (fun q => q = 1) (H1 := [.blk true true 24 (mixR T (k + 1)), .gone]) (l1 := [(0, .view false (cRs false T) T.length), (3, .slc 0 0 T.length 1), (4, .int .i64 (k + 1 : Nat))]) rfl ?_ ?_) ?_)
    · rintro (_ | _ | q) nw bx e c1 hq
      · simp at hq
        obtain ⟨rfl, rfl, rfl, rfl⟩ := hq
        refine ⟨by omega, _, rfl, .inr ⟨rfl, by rw [← hset]; simp, fun j a b ha hb => ?_⟩⟩
        rw [← hset] at hb
        refine frz_set ?_ j a b ha hb
        exact frz_row rfl rfl
      · simp at hq
      · simp at hq
    · intro p hp
      simp at hp
      rcases hp with rfl | rfl | rfl
      all_goals simp [hw]; exact .same _
    · (refine weak_gc [(some 0, 0)] ?_ ?_ ?_ ?_ ?_ <;> simp)
  · obtain rfl : k = T.length := by omega
    simp [mixR_all]
    refine ⟨_, _, weak_frzU (fun q => q = 0) (H1 := [.gone]) (l1 := [(2, .view true (cRs true T) T.length)]) rfl ?_ ?_, ?_⟩
    · rintro (_ | q) nw bx e c1 hq <;> simp at hq
    · intro p hp
      simp at hp
      subst hp
      simp
      exact frz_box rfl (by simp) rfl
    · (refine endG_keepT [] ?_ ?_ ?_ ?_ ?_ ?_ ?_ ⟨rfl, rfl⟩ ?_ <;> simp)
end Go.Proofs.Ytnpflgeenecaeaa
