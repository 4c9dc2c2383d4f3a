/- Contracts: cloths that tear.
Conditions: none. -/
import Derived.Test.YtafbecgidhoekaaMB
namespace Go.Proofs.Ytafbecgidhoekaa
set_option linter.all false
open Go Go.Awp
set_option maxRecDepth 100000
set_option maxHeartbeats 4000000
set_option pp.deepTerms true

section
variable {P : Program}
/-- Roots of which less is told. -/
def Cut (H H' : Heap) : Prop := H'.length = H.length ∧ ∀ (r : Nat), (∀ new box e cells, H'[r]? = some (.blk new box e cells) → ∃ c0, H[r]? = some (.blk new box e c0) ∧ cells <+: c0) ∧
  (∀ new box e c0, H[r]? = some (.blk new box e c0) → ∃ cells, H'[r]? = some (.blk new box e cells))
theorem cut_one {n b : Bool} {e : TypeId} {c t : List AV} : Cut [.blk n b e (c ++ t)] [.blk n b e c] := by
  refine ⟨rfl, fun r => ?_⟩
  cases r with
  | zero =>
    refine ⟨fun new box e' cells h => ?_, fun new box e' c0 h => ?_⟩
    · simp at h; obtain ⟨rfl, rfl, rfl, rfl⟩ := h
      exact ⟨_, rfl, List.prefix_append _ _⟩
    · simp at h; obtain ⟨rfl, rfl, rfl, rfl⟩ := h
      exact ⟨_, rfl⟩
  | succ r => exact ⟨fun _ _ _ _ h => by simp at h, fun _ _ _ _ h => by simp at h⟩
theorem mut_cut {map : Nat → Option (Option (Nat × Nat))} {H H' : Heap} (h : Cut H H') : mutOf map H' = mutOf map H := by
  funext b
  refine propext ⟨?_, ?_⟩
  · rintro ⟨r, N, nw, bx, e, cells, h1, h2⟩
    obtain ⟨c0, h3, _⟩ := (h.2 r).1 _ _ _ _ h1
    exact ⟨r, N, nw, bx, e, c0, h3, h2⟩
  · rintro ⟨r, N, nw, bx, e, c0, h1, h2⟩
    obtain ⟨cells, h3⟩ := (h.2 r).2 _ _ _ _ h1
    exact ⟨r, N, nw, bx, e, cells, h3, h2⟩
theorem env_cut {map : Nat → Option (Option (Nat × Nat))} {H H' : Heap} {X : Nat → Prop} {B : Nat} (h : Cut H H') : env map H' X B = env map H X B := by
  unfold env; rw [mut_cut h]
theorem root_cut {w : World} {E : Env} {r : Nat} {nw bx : Bool} {e : TypeId} {c0 c : List AV} (hp : c <+: c0) (h : RootRel w E r nw bx e c0) : RootRel w E r nw bx e c := by
  rcases h with ⟨h1, h2, h3⟩ | ⟨b, N, arr, h1, h2, h3, h4, h5, h6⟩
  · subst h2
    exact .inl ⟨h1, List.prefix_nil.1 hp, h3⟩
  · refine .inr ⟨b, N, arr, h1, h2, h3, Nat.le_trans hp.length_le h4, h5, fun i a ha => h6 i a ?_⟩
    obtain ⟨t, rfl⟩ := hp
    rw [List.getElem?_append_left (List.getElem?_eq_some_iff.1 ha).1]; exact ha
theorem FnSpec.cut {f : FuncId} {args : List AV} {Hin Hout : Heap} {r : AV} {R : AV → Heap → Prop} (h : FnSpec P f args Hin R) (hr : ∀ av H', R av H' → av = r ∧ Cut H' Hout) : Fun P f args Hin r Hout := by
  intro map w vs X h1 h2 h3 h4
  refine (h map w vs X h1 h2 h3 h4).mono ?_
  rintro v w' ⟨m, av, H', g, g1, g2, g3, g4, g5⟩
  obtain ⟨rfl, hc⟩ := hr _ _ g
  refine ⟨m, av, Hout, ⟨rfl, rfl⟩, by rw [env_cut hc]; exact g1, ?_, fun q nw bx e cells hq hx => ?_, fun q hq => ?_, ?_⟩
  · rw [env_cut hc]
    refine ⟨fun q nw bx e cells hx => ?_, fun q q' b N N' nw nw' bx bx' e e' cells cells' hx hx' => ?_⟩
    · obtain ⟨c0, h5, h6⟩ := (hc.2 q).1 _ _ _ _ hx
      exact root_cut h6 (g2.root _ _ _ _ _ h5)
    · obtain ⟨c0, h5, _⟩ := (hc.2 q).1 _ _ _ _ hx
      obtain ⟨c0', h5', _⟩ := (hc.2 q').1 _ _ _ _ hx'
      exact g2.inj _ _ _ _ _ _ _ _ _ _ _ _ _ h5 h5'
  · obtain ⟨c0, h5, h6⟩ := (hc.2 q).1 _ _ _ _ hx
    obtain ⟨k1, k2⟩ := g3 q nw bx e c0 hq h5
    rw [env_cut hc]
    exact ⟨root_cut h6 k1, k2⟩
  · obtain ⟨nw, bx, e, c0, hx⟩ := g4 q hq
    obtain ⟨cells, hx'⟩ := (hc.2 q).2 _ _ _ _ hx
    exact ⟨_, _, _, _, hx'⟩
  · exact { g5 with
      out := by rw [hc.1]; exact g5.out
      len := by rw [hc.1]; exact g5.len
      old := by rw [mut_cut hc]; exact g5.old }
end

/-- A thread that is stretched too far. -/
def tearB (c : Clo) (q : Nat) (t : Th) : Bool := ford .f32 (strV c t) q == some .gt
theorem c_tear1 (c : Clo) (q : Nat) (t : Th) (ht : ThOk c.pl.length t) : Fun Try.prog 107 [aT t, c.pv, .vptr false [.flt .f32 q]] [] (.bool (tearB c q t)) [] := by
  refine FnSpec.walkF dr_ok Try.func107 rfl (by kernel_rfl) rfl rfl rfl (by simp) ?_
  simp
  (first | refine callG_r ?_ | refine callD_r ?_); simp; (first | refine callN_flat (by with_reducible first | exact c_stretchOf c t ht) rfl ?_ | refine callN_new (by with_reducible first | exact c_stretchOf c t ht) ?_ | refine callM_flat (by with_reducible first | exact c_stretchOf c t ht) rfl ?_ | refine callM_new (by with_reducible first | exact c_stretchOf c t ht) ?_)
  simp [tearB]
/-- The first of a list that answers. -/
def idxI (p : Th → Bool) (l : List Th) : Int := if l.any p then (l.findIdx p : Nat) else -1
theorem idxI_at {p : Th → Bool} {l : List Th} {k : Nat} (hk : k < l.length) (h1 : p l[k] = true) (h0 : ∀ j (h : j < l.length), j < k → p l[j] = false) : idxI p l = k := by
  unfold idxI
  rw [if_pos (List.any_eq_true.2 ⟨_, List.getElem_mem hk, h1⟩)]
  have := (List.findIdx_eq hk).2 ⟨h1, fun j hj => h0 j (by omega) hj⟩
  rw [this]
theorem idxI_none {p : Th → Bool} {l : List Th} (h0 : ∀ j (h : j < l.length), j < l.length → p l[j] = false) : idxI p l = -1 := by
  unfold idxI
  rw [if_neg]
  intro h
  obtain ⟨x, hx, hp⟩ := List.any_eq_true.1 h
  obtain ⟨j, hj, rfl⟩ := List.mem_iff_getElem.1 hx
  rw [h0 j hj hj] at hp; cases hp
theorem idxI_cases (p : Th → Bool) (l : List Th) : (idxI p l = -1 ∧ l.filter (fun t => !p t) = l) ∨ ∃ k : Nat, k < l.length ∧ idxI p l = k ∧ (∀ j (h : j < l.length), j < k → p l[j] = false) ∧ (∀ h : k < l.length, p l[k] = true) := by
  by_cases h : l.any p = true
  · right
    have hlt : l.findIdx p < l.length := List.findIdx_lt_length.2 (by simpa using h)
    obtain ⟨g1, g2⟩ := (List.findIdx_eq hlt).1 rfl
    refine ⟨l.findIdx p, hlt, by unfold idxI; rw [if_pos h], fun j _ hj => g2 j hj, fun _ => g1⟩
  · left
    refine ⟨by unfold idxI; rw [if_neg h], List.filter_eq_self.2 fun t ht => ?_⟩
    cases hp : p t with
    | false => rfl
    | true => exact absurd (List.any_eq_true.2 ⟨t, ht, hp⟩) h
theorem c_IndexFuncT (c : Clo) (q : Nat) (l : List Th) (n : Nat) (hn : n = l.length) (h1 : l.length ≤ 1048576) (ht : ∀ t ∈ l, ThOk c.pl.length t) :
    Fun Try.prog 134 [.view false (cTs l) n, .clo 107 [] [c.pv, .vptr false [.flt .f32 q]]] [] (.int .i64 (idxI (tearB c q) l)) [] := by
  subst hn
  refine FnSpec.walkF dr_ok Try.func134 rfl (by kernel_rfl) rfl rfl rfl (by simp) ?_
  simp
  refine loopG_of (α := Nat) (fun k => k ≤ l.length ∧ ∀ j (h : j < l.length), j < k → tearB c q l[j] = false) (fun k => l.length - k) (fun k => [(8, .int .i64 k), (7, .int .i64 l.length), (0, .view false (cTs l) l.length), (1, .clo 107 [] [c.pv, .vptr false [.flt .f32 q]])]) (fun k => []) 0 (by simp) ?_ fun k ⟨hk, hi⟩ => ?_
  · (refine weak_gc [] ?_ ?_ ?_ ?_ ?_ <;> simp)
  have hw := nat_wrap (k := k) (by omega)
  by_cases b : k < l.length
  · simp [b, hw]
    (first | refine callG_r ?_ | refine callD_r ?_); simp; (first | refine callN_flat (by with_reducible first | exact c_tear1 c q _ (ht _ (List.getElem_mem b))) rfl ?_ | refine callN_new (by with_reducible first | exact c_tear1 c q _ (ht _ (List.getElem_mem b))) ?_ | refine callM_flat (by with_reducible first | exact c_tear1 c q _ (ht _ (List.getElem_mem b))) rfl ?_ | refine callM_new (by with_reducible first | exact c_tear1 c q _ (ht _ (List.getElem_mem b))) ?_)
    simp [hw]
    refine ⟨fun e => (idxI_at b e hi).symm, fun e => loopK_next (k + 1) (by omega) ⟨by omega, fun j hj hjk => ?_⟩ ?_⟩
    · by_cases e' : j = k
      · subst e'; exact e
      · exact hi j hj (by omega)
    · (refine weak_gc [] ?_ ?_ ?_ ?_ ?_ <;> simp)
  · obtain rfl : k = l.length := by omega
    simp
    exact (idxI_none hi).symm
def keptT (c : Clo) (q : Nat) (l : List Th) : List Th := l.filter (fun t => !tearB c q t)
theorem keptT_le (c : Clo) (q : Nat) (l : List Th) : (keptT c q l).length ≤ l.length := List.length_filter_le _ _
theorem keptT_take {c : Clo} {q : Nat} {l : List Th} {k : Nat} (h : k < l.length) : keptT c q (l.take (k + 1)) = if tearB c q l[k] = true then keptT c q (l.take k) else keptT c q (l.take k) ++ [l[k]] := by
  unfold keptT
  rw [← List.take_append_getElem h, List.filter_append]
  cases hp : tearB c q l[k] <;> simp [List.filter_cons, hp]
theorem keptT_all {c : Clo} {q : Nat} {l : List Th} {k : Nat} (hk : k ≤ l.length) (h : ∀ j (h : j < l.length), j < k → tearB c q l[j] = false) : keptT c q (l.take k) = l.take k := by
  unfold keptT
  refine List.filter_eq_self.2 fun t ht => ?_
  obtain ⟨j, hj, rfl⟩ := List.mem_iff_getElem.1 ht
  rw [List.length_take] at hj
  rw [List.getElem_take, h j (by omega) (by omega)]; rfl
theorem c_DeleteFuncT (c : Clo) (q : Nat) (l : List Th) (n : Nat) (hn : n = l.length) (h1 : l.length ≤ 1048576) (ht : ∀ t ∈ l, ThOk c.pl.length t) :
    Fun Try.prog 106 [.slc 0 0 n 3, .clo 107 [] [c.pv, .vptr false [.flt .f32 q]]] [.blk false false 80 (cTs l)] (.slc 0 0 (keptT c q l).length 3) [.blk false false 80 (cTs (keptT c q l))] := by
  subst hn
  refine FnSpec.cut (R := fun av H => av = .slc 0 0 (keptT c q l).length 3 ∧ ∃ t, H = [.blk false false 80 (cTs (keptT c q l) ++ t)]) ?_ fun av H ⟨e1, t, e2⟩ => ⟨e1, by rw [e2]; exact cut_one⟩
  refine FnSpec.walk dr_ok Try.func106 rfl (by kernel_rfl) rfl rfl rfl (by simp) ?_
  simp
  (first | refine callG_r ?_ | refine callD_r ?_); simp; (first | refine callN_flat (by with_reducible first | exact c_IndexFuncT c q l _ rfl h1 ht) rfl ?_ | refine callN_new (by with_reducible first | exact c_IndexFuncT c q l _ rfl h1 ht) ?_ | refine callM_flat (by with_reducible first | exact c_IndexFuncT c q l _ rfl h1 ht) rfl ?_ | refine callM_new (by with_reducible first | exact c_IndexFuncT c q l _ rfl h1 ht) ?_)
  rcases idxI_cases (tearB c q) l with ⟨e1, e2⟩ | ⟨i, hi, e1, h0, hp⟩
  · rw [e1]
    simp
    have e2 : keptT c q l = l := e2
    refine endG_keepT (r := .slc 0 0 l.length 3) (Hout := [.blk false false 80 (cTs l)]) [] ?_ ?_ ?_ ?_ ?_ ?_ ?_ ⟨by rw [e2], [], by rw [e2]; simp⟩ ?_ <;> simp
  · rw [e1]
    have hne : ¬ ((i : Int) = -1) := by omega
    have hwi := nat_wrap (k := i) (by omega)
    simp [hne, hwi]
    refine loopG_of (α := Nat × List Th) (fun s => i < s.1 ∧ s.1 ≤ l.length ∧ s.2.length = l.length ∧ s.2.take (keptT c q (l.take s.1)).length = keptT c q (l.take s.1) ∧ s.2.drop s.1 = l.drop s.1 ∧ (keptT c q (l.take s.1)).length < s.1) (fun s => l.length - s.1)
      (fun s => [(0, .slc 0 0 l.length 3), (1, .clo 107 [] [c.pv, .vptr false [.flt .f32 q]]), (6, .int .i64 s.1), (5, .int .i64 (keptT c q (l.take s.1)).length)]) (fun s => [.blk false false 80 (cTs s.2)]) (i + 1, l) ?_ ?_ fun s ⟨g1, g2, g3, g4, g5, g6⟩ => ?_
    · have hk := keptT_take (c := c) (q := q) hi
      rw [if_pos (hp hi), keptT_all (by omega) h0] at hk
      have : (l.take i).length = i := by rw [List.length_take]; omega
      simp only
      rw [hk, this]
      refine ⟨?_, ?_, ?_, ?_, ?_, ?_⟩ <;> first | trivial | omega | rfl
    · have hk := keptT_take (c := c) (q := q) hi
      rw [if_pos (hp hi), keptT_all (by omega) h0] at hk
      have : (l.take i).length = i := by rw [List.length_take]; omega
      simp only
      rw [hk, this]
      (refine weak_gc [] ?_ ?_ ?_ ?_ ?_ <;> simp)
    · obtain ⟨j, L⟩ := s
      simp only at g1 g2 g3 g4 g5 g6
      have hw := nat_wrap (k := j) (by omega)
      have hwm := nat_wrap (k := (keptT c q (l.take j)).length) (by omega)
      by_cases b : j < l.length
      · have bL : j < L.length := by omega
        have el : L[j] = l[j] := by
          have := congrArg (·[0]?) g5
          simp only [List.getElem?_drop, Nat.add_zero] at this
          rw [List.getElem?_eq_getElem bL, List.getElem?_eq_getElem b] at this
          exact Option.some.inj this
        have hk := keptT_take (c := c) (q := q) b
        have bm : (keptT c q (l.take j)).length < L.length := by omega
        have bml : (keptT c q (l.take j)).length < l.length := by omega
        have nx : L.drop (j + 1) = l.drop (j + 1) := by
          have := congrArg (List.drop 1) g5
          simpa [List.drop_drop] using this
        simp [b, bL, hw, el, g3]
        (first | refine callG_r ?_ | refine callD_r ?_); simp; (first | refine callN_flat (by with_reducible first | exact c_tear1 c q _ (ht _ (List.getElem_mem b))) rfl ?_ | refine callN_new (by with_reducible first | exact c_tear1 c q _ (ht _ (List.getElem_mem b))) ?_ | refine callM_flat (by with_reducible first | exact c_tear1 c q _ (ht _ (List.getElem_mem b))) rfl ?_ | refine callM_new (by with_reducible first | exact c_tear1 c q _ (ht _ (List.getElem_mem b))) ?_)
        simp [bm, bml, hw, hwm, el, g3]
        refine ⟨fun e => ?_, fun e => ?_⟩
        · refine ⟨by omega, loopK_next (j + 1, L.set (keptT c q (l.take j)).length l[j]) (by simp only; omega) ?_ ?_⟩
          · rw [if_neg (by rw [e]; exact Bool.false_ne_true)] at hk
            simp only
            rw [hk, List.length_append, List.length_singleton]
            refine ⟨by omega, by omega, by rw [List.length_set]; exact g3, ?_, ?_, by omega⟩
            · have hlt : (keptT c q (l.take j)).length < (L.set (keptT c q (l.take j)).length l[j]).length := by rw [List.length_set]; exact bm
              rw [← List.take_append_getElem hlt, List.getElem_set_self, List.take_set_of_le (Nat.le_refl _), g4]
            · rw [List.drop_set_of_lt (by omega), nx]
          · rw [if_neg (by rw [e]; exact Bool.false_ne_true)] at hk
            simp only
            rw [hk, List.length_append, List.length_singleton]
            (refine weak_gc [] ?_ ?_ ?_ ?_ ?_ <;> simp)
        · refine loopK_next (j + 1, L) (by simp only; omega) ?_ ?_
          · rw [if_pos e] at hk
            simp only
            rw [hk]
            exact ⟨by omega, by omega, g3, g4, nx, by omega⟩
          · rw [if_pos e] at hk
            simp only
            rw [hk]
            (refine weak_gc [] ?_ ?_ ?_ ?_ ?_ <;> simp)
      · obtain rfl : j = l.length := by omega
        rw [List.take_length] at g4 g6 hwm
        simp
        refine ⟨by omega, fun e => ⟨by omega, by omega, ?_⟩, fun e e' => ⟨by omega, by omega, ?_⟩, fun e e' => by omega⟩
        · refine endG_keepT (r := .slc 0 0 (keptT c q l).length 3) (Hout := [.blk false false 80 (splice (cTs L) 0 (cTs (List.replicate l.length (0, 0, 0))))]) [] ?_ ?_ ?_ ?_ ?_ ?_ ?_ ⟨rfl, _, by rw [e]; rfl⟩ ?_ <;> simp
        · refine endG_keepT (r := .slc 0 0 (keptT c q l).length 3) (Hout := [.blk false false 80 (splice (cTs L) ((keptT c q l).length * 3) (cTs (List.replicate (l.length - (keptT c q l).length) (0, 0, 0))))]) [] ?_ ?_ ?_ ?_ ?_ ?_ ?_ ⟨rfl, _, by unfold splice; rw [cTs_take, g4, List.append_assoc]⟩ ?_ <;> simp
/-- A cloth without the threads that tear. -/
def tearC (c : Clo) (q : Nat) : Clo := { c with th := keptT c q c.th }
def tornN (c : Clo) (q : Nat) : Int := c.th.length - (keptT c q c.th).length
theorem tearC_small {c : Clo} {q : Nat} (hs : c.Small) : (tearC c q).Small := ⟨hs.pl, hs.ol, Nat.le_trans (keptT_le _ _ _) hs.th, hs.pin⟩
theorem c_TearCloth (c : Clo) (q : Nat) (hs : c.Small) (hv : vldC c = true) : Fun Try.prog 51 [c.av, .flt .f32 q] [] (.tup [(tearC c q).own 0, .int .i64 (tornN c q), .bool true]) (tearC c q).mem := by
  have hvl := vld_len hv
  have hle := keptT_le c q c.th
  have hw : IntKind.i64.wrap ((c.th.length : Int) - (keptT c q c.th).length) = (c.th.length : Int) - (keptT c q c.th).length := wrap64 (by omega) (by omega)
  refine FnSpec.walk dr_ok Try.func51 rfl (by kernel_rfl) rfl rfl rfl (by simp) ?_
  simp
  (first | refine callG_r ?_ | refine callD_r ?_); simp; (first | refine callN_flat (by with_reducible first | exact c_ValidCloth c hs) rfl ?_ | refine callN_new (by with_reducible first | exact c_ValidCloth c hs) ?_ | refine callM_flat (by with_reducible first | exact c_ValidCloth c hs) rfl ?_ | refine callM_new (by with_reducible first | exact c_ValidCloth c hs) ?_)
  simp [hv]
  (first | refine callG_r ?_ | refine callD_r ?_); simp; (first | refine callN_flat (by with_reducible first | exact c_copyCloth c hs) rfl ?_ | refine callN_new (by with_reducible first | exact c_copyCloth c hs) ?_ | refine callM_flat (by with_reducible first | exact c_copyCloth c hs) rfl ?_ | refine callM_new (by with_reducible first | exact c_copyCloth c hs) ?_)
  simp
  (first | refine callG_on true [5] ?_ | refine callD_on true [5] ?_); simp; (first | refine callN_fun (by with_reducible exact c_DeleteFuncT c q c.th _ rfl hs.th (vld_th hv)) (by simp) ?_ | refine callMD_fun (by with_reducible exact c_DeleteFuncT c q c.th _ rfl hs.th (vld_th hv)) (by simp) ?_)
  simp [hw]
  (refine endG_keepT [(some 3, 0), (some 4, 0), (some 5, 0), (some 6, 0)] ?_ ?_ ?_ ?_ ?_ ?_ ?_ ⟨rfl, rfl⟩ ?_ <;> simp [tearC, tornN])
theorem one_splice (x y : Int) (z : Nat) : splice (cTs [(0, 0, 0)]) 0 [.int .i64 x, .int .i64 y, .flt .f32 z] = cTs [(x, y, z)] := rfl
theorem one_take (t : Th) : (cTs [t]).take 3 = cTs [t] := rfl
theorem c_specTearCloth (c : Clo) (q : Nat) (hs : c.Small) (hv : vldC c = true) : Fun Try.prog 50 [c.av, .flt .f32 q] [] (.tup [(tearC c q).own 0, .int .i64 (tornN c q), .bool true]) (tearC c q).mem := by
  have hvl := vld_len hv
  refine FnSpec.walk dr_ok Try.func50 rfl (by kernel_rfl) rfl rfl rfl (by simp) ?_
  simp
  (first | refine callG_r ?_ | refine callD_r ?_); simp; (first | refine callN_flat (by with_reducible first | exact c_l10Is c hs) rfl ?_ | refine callN_new (by with_reducible first | exact c_l10Is c hs) ?_ | refine callM_flat (by with_reducible first | exact c_l10Is c hs) rfl ?_ | refine callM_new (by with_reducible first | exact c_l10Is c hs) ?_)
  simp [hv]
  (first | refine callG_r ?_ | refine callD_r ?_); simp; (first | refine callN_flat (by with_reducible first | exact c_l10Own c hs) rfl ?_ | refine callN_new (by with_reducible first | exact c_l10Own c hs) ?_ | refine callM_flat (by with_reducible first | exact c_l10Own c hs) rfl ?_ | refine callM_new (by with_reducible first | exact c_l10Own c hs) ?_)
  simp
  refine loopG_of (α := Nat) (fun k => k ≤ c.th.length) (fun k => c.th.length - k) (fun k => [(9, .int .i64 k), (8, .int .i64 ((k : Int) - (keptT c q (c.th.take k)).length)), (7, .ptr 6 0), (4, .ptr 1 0), (2, .ptr 0 0), (1, .flt .f32 q)])
    (fun k => [.blk true true 32 [.view false (cVs c.pl) c.pl.length, .view false (cVs c.ol) c.ol.length, .view false (cTs c.th) c.th.length, .view false (cIs c.pin) c.pin.length],
      .blk true true 32 [.nils, .nils, .nils, .nils],
      .blk true false 56 (cVs c.pl), .blk true false 56 (cVs c.ol), .blk true false 80 (cTs (keptT c q (c.th.take k))), .blk true false 2 (cIs c.pin),
      .blk true true 32 [.slc 2 0 c.pl.length 3, .slc 3 0 c.ol.length 3, .slc 4 0 (keptT c q (c.th.take k)).length 3, .slc 5 0 c.pin.length 1]]) 0 (by simp) ?_ fun k hk => ?_
  · (refine weak_gc [(some 0, 0), (some 1, 0), (some 2, 0), (some 3, 0), (none, 80), (some 5, 0), (some 6, 0)] ?_ ?_ ?_ ?_ ?_ <;> simp [keptT])
  have hw := nat_wrap (k := k) (by omega)
  by_cases b : k < c.th.length
  · have ht := vld_th hv _ (List.getElem_mem b)
    have hk' := keptT_take (c := c) (q := q) b
    have hl := keptT_le c q (c.th.take k)
    have hl2 : (c.th.take k).length = k := by rw [List.length_take]; omega
    have hw2 : IntKind.i64.wrap ((k : Int) - (keptT c q (c.th.take k)).length + 1) = ((k + 1 : Nat) : Int) - (keptT c q (c.th.take k)).length := by rw [wrap64 (by omega) (by omega)]; omega
    simp [b, hw]
    (first | refine callG_r ?_ | refine callD_r ?_); simp; (first | refine callN_flat (by with_reducible first | exact c_l10Stretch c k b ht) rfl ?_ | refine callN_new (by with_reducible first | exact c_l10Stretch c k b ht) ?_ | refine callM_flat (by with_reducible first | exact c_l10Stretch c k b ht) rfl ?_ | refine callM_new (by with_reducible first | exact c_l10Stretch c k b ht) ?_)
    simp [b, hw, hw2, one_splice, one_take]
    refine ⟨fun e => ?_, fun e => ?_⟩
    · rw [if_pos (by simpa [tearB] using e)] at hk'
      refine loopK_next (k + 1) (by omega) (by omega) ?_
      rw [hk']
      (refine weak_gc [(some 0, 0), (some 1, 0), (some 2, 0), (some 3, 0), (some 4, 0), (some 5, 0), (some 6, 0)] ?_ ?_ ?_ ?_ ?_ <;> simp)
    · rw [if_neg (by simpa [tearB] using e)] at hk'
      refine ⟨by omega, by omega, loopK_next (k + 1) (by omega) (by omega) ?_⟩
      rw [hk']
      (refine weak_gc [(some 0, 0), (some 1, 0), (some 2, 0), (some 3, 0), (some 8, 0), (some 5, 0), (some 6, 0)] ?_ ?_ ?_ ?_ ?_ <;> simp)
      omega
  · obtain rfl : k = c.th.length := by omega
    simp
    (refine endG_keepT [(some 2, 0), (some 3, 0), (some 4, 0), (some 5, 0)] ?_ ?_ ?_ ?_ ?_ ?_ ?_ ⟨rfl, rfl⟩ ?_ <;> simp [tearC, tornN])
theorem c_TearCloth0 (c : Clo) (q : Nat) (hs : c.Small) (hv : vldC c = false) : Fun Try.prog 51 [c.av, .flt .f32 q] [] (.tup [noC, .int .i64 0, .bool false]) [] := by
  refine FnSpec.walk dr_ok Try.func51 rfl (by kernel_rfl) rfl rfl rfl (by simp) ?_
  simp
  (first | refine callG_r ?_ | refine callD_r ?_); simp; (first | refine callN_flat (by with_reducible first | exact c_ValidCloth c hs) rfl ?_ | refine callN_new (by with_reducible first | exact c_ValidCloth c hs) ?_ | refine callM_flat (by with_reducible first | exact c_ValidCloth c hs) rfl ?_ | refine callM_new (by with_reducible first | exact c_ValidCloth c hs) ?_)
  simp [hv]
  (refine endG_keepT [] ?_ ?_ ?_ ?_ ?_ ?_ ?_ ⟨rfl, rfl⟩ ?_ <;> simp [noC])
theorem c_specTearCloth0 (c : Clo) (q : Nat) (hs : c.Small) (hv : vldC c = false) : Fun Try.prog 50 [c.av, .flt .f32 q] [] (.tup [noC, .int .i64 0, .bool false]) [] := by
  refine FnSpec.walk dr_ok Try.func50 rfl (by kernel_rfl) rfl rfl rfl (by simp) ?_
  simp
  (first | refine callG_r ?_ | refine callD_r ?_); simp; (first | refine callN_flat (by with_reducible first | exact c_l10Is c hs) rfl ?_ | refine callN_new (by with_reducible first | exact c_l10Is c hs) ?_ | refine callM_flat (by with_reducible first | exact c_l10Is c hs) rfl ?_ | refine callM_new (by with_reducible first | exact c_l10Is c hs) ?_)
  simp [hv]
  (refine endG_keepT [] ?_ ?_ ?_ ?_ ?_ ?_ ?_ ⟨rfl, rfl⟩ ?_ <;> simp [noC])
end Go.Proofs.Ytafbecgidhoekaa
