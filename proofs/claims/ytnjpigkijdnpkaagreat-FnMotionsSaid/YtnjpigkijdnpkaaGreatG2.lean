/- Edges are compared: slices.Compare of two pairs, compareEdges. Edges that are sorted: the contract of slices.SortFunc. A map of rows under keys of any width, in a heap of which only parts are known. The triangles of each edge, as the program reckons them.
Conditions: none. -/
import Derived.Test.YtnjpigkijdnpkaaGreatG0
import Derived.Shelf.SlSortCmp.WholeK
import Derived.Shelf.SlicesG.Cmp
import Derived.Shelf.Lay
import Derived.Ground.SlsfProg
import Derived.Ground.SlgcProg
import Derived.Test.YtnjpigkijdnpkaaGreatG1
import Derived.WideKeyPair
namespace Go.Proofs
open Go.Shelf Go.RowKit Go.Lib Go.Sort
set_option linter.all false
shelf_lay_g SlLaysC2.n5 Slgc 5 at Tryz 179 as Tryz.cmpI64
namespace YtnjpigkijdnpkaaGreat
abbrev Ed := Int × Int
/-- The order of edges. -/
def cmpE (x y : Ed) : Int := if compareInt x.1 y.1 = 0 then compareInt x.2 y.2 else compareInt x.1 y.1
def encE (x : Ed) : List Value := [.int .i64 x.1, .int .i64 x.2]
set_option maxHeartbeats 2000000 in
set_option maxRecDepth 100000 in
theorem slices_Compare2 (b1 b2 : Nat) (x y : Ed) (w : World) (h1 : w.cell? ⟨b1, 0, none⟩ = some (.int .i64 x.1)) (h2 : w.cell? ⟨b1, 1, none⟩ = some (.int .i64 x.2)) (h3 : w.cell? ⟨b2, 0, none⟩ = some (.int .i64 y.1)) (h4 : w.cell? ⟨b2, 1, none⟩ = some (.int .i64 y.2)) :
    Calls Tryz.prog 167 #[.slice (some ⟨b1, 0, none⟩) 2 2, .slice (some ⟨b2, 0, none⟩) 2 2] w fun e w' => e = .returned (.int .i64 (cmpE x y)) ∧ ∃ q, w' = w.drewN q := by
  have hcon := fun a b W' => AnyG.cmp_Compare_int Tryz.cmpI64 a b W'
  change ∀ a b W', Calls Tryz.prog 179 _ _ _ at hcon
  have hC1 : ∀ k : Nat, k < 2 → w.cell? ⟨b1, k, none⟩ = some (.int .i64 ([x.1, x.2].getD k 0)) := by
    intro k hk
    match k, hk with
    | 0, _ => exact h1
    | 1, _ => exact h2
  have hC2 : ∀ k : Nat, k < 2 → w.cell? ⟨b2, k, none⟩ = some (.int .i64 ([y.1, y.2].getD k 0)) := by
    intro k hk
    match k, hk with
    | 0, _ => exact h3
    | 1, _ => exact h4
  have hr : cmpE x y = if compareInt ([x.1, x.2].getD 0 0) ([y.1, y.2].getD 0 0) = 0 then compareInt ([x.1, x.2].getD 1 0) ([y.1, y.2].getD 1 0) else compareInt ([x.1, x.2].getD 0 0) ([y.1, y.2].getD 0 0) := rfl
  generalize cmpE x y = r at hr ⊢
  generalize [x.1, x.2] = xs at *
  generalize [y.1, y.2] = ys at *
  clear h1 h2 h3 h4
  go_enter Tryz.func167, Tryz.ntmps167
  go_wp2
  go_loopg [11] 2 (fun g s11 wr => ∃ k q : Nat, k ≤ 2 ∧ 2 - k ≤ g ∧ s11 = .int .i64 k ∧ wr = w.drewN q ∧ ∀ j, j < k → compareInt (xs.getD j 0) (ys.getD j 0) = 0)
  case atStart => exact ⟨0, 0, Nat.zero_le _, by omega, rfl, rfl, fun j hj => absurd hj (Nat.not_lt_zero _)⟩
  case round =>
    obtain ⟨k, q, hk, hg, rfl, rfl, heq⟩ := hrel
    by_cases hlt : k < 2
    · have g1 := hC1 k hlt
      have g2 := hC2 k hlt
      have A : Aside (∀ j, j < k → compareInt (xs.getD j 0) (ys.getD j 0) = 0) := heq
      have A2 : Aside (r = if compareInt (xs.getD 0 0) (ys.getD 0 0) = 0 then compareInt (xs.getD 1 0) (ys.getD 1 0) else compareInt (xs.getD 0 0) (ys.getD 0 0)) := hr
      clear heq hC1 hC2 hr
      generalize hxk : xs.getD k 0 = x at g1
      generalize hyk : ys.getD k 0 = y at g2
      have B : Aside (xs.getD k 0 = x ∧ ys.getD k 0 = y) := ⟨hxk, hyk⟩
      clear hxk hyk
      have hcon2 := fun W' => hcon x y W'
      clear hcon
      generalize hc : compareInt x y = c at hcon2
      have C : Aside (compareInt x y = c) := hc
      clear hc
      by_cases hxy : c = 0
      · subst hxy
        go_wp2_with (go_at_call 179; refine (hcon2 _).mono ?_; rintro e w' ⟨rfl, rfl⟩)
        go_roundg (2 - (k + 1))
        case measure => omega
        case rel =>
          refine ⟨k + 1, q, by omega, by omega, by go_num, rfl, fun j hj => ?_⟩
          by_cases e : j = k
          · subst e
            rw [B.out.1, B.out.2]; exact C.out
          · exact A.out j (by omega)
      · go_wp2_with (go_at_call 179; refine (hcon2 _).mono ?_; rintro e w' ⟨rfl, rfl⟩)
        go_ret
        refine ⟨?_, q, rfl⟩
        have h1 := A2.out
        have h2 := C.out
        rw [← B.out.1, ← B.out.2] at h2
        have h3 := A.out
        have : r = c := by
          match k, hlt with
          | 0, _ => rw [h1, if_neg (by rw [h2]; exact hxy), h2]
          | 1, _ => rw [h1, if_pos (h3 0 (by omega)), h2]
        rw [this]; rfl
    · have : k = 2 := by omega
      subst this
      clear hC1 hC2 hcon
      have h0 := heq 0 (by omega)
      have h1 := heq 1 (by omega)
      rw [h0, if_pos rfl, h1] at hr
      clear heq h0 h1
      subst hr
      go_wp2
      go_ret
      exact ⟨rfl, q, rfl⟩
set_option maxHeartbeats 2000000 in
set_option maxRecDepth 100000 in
theorem compareEdges_at (x y : Ed) (w : World) :
    Calls Tryz.prog 158 #[.agg (encE x).toArray, .agg (encE y).toArray] w fun e w' => e = .returned (.int .i64 (cmpE x y)) ∧ ∃ q os', w' = grow (w.drewN q) os' := by
  have hcon := fun b1 b2 w h1 h2 h3 h4 => slices_Compare2 b1 b2 x y w h1 h2 h3 h4
  generalize cmpE x y = r at hcon ⊢
  obtain ⟨x1, x2⟩ := x
  obtain ⟨y1, y2⟩ := y
  show Calls Tryz.prog 158 #[.agg #[.int .i64 x1, .int .i64 x2], .agg #[.int .i64 y1, .int .i64 y2]] w _
  go_enter Tryz.func158, Tryz.ntmps158
  go_wp2_with fail
  go_quiet (first | (go_at_call 167; refine Calls.quiet_of (hcon _ _ _ ?_ ?_ ?_ ?_) <;> simp))
  go_wp2
  go_ret
  exact ⟨rfl, nq, _, by rw [alloc_eq_grow, alloc_eq_grow, grow_grow]; rfl⟩
theorem cmpE_lt (x y : Ed) : ltOf cmpE x y = (decide (x.1 < y.1) || (decide (x.1 = y.1) && decide (x.2 < y.2))) := by
  unfold ltOf cmpE Lib.compareInt
  by_cases h1 : x.1 < y.1
  · simp [h1]
  · by_cases h2 : x.1 > y.1
    · have : ¬ x.1 = y.1 := by omega
      simp [h1, h2, this]
    · have h3 : x.1 = y.1 := by omega
      by_cases h4 : x.2 < y.2
      · simp [h3, h4]
      · by_cases h5 : x.2 > y.2 <;> simp [h3, h4, h5]
theorem swoE : SWO (ltOf cmpE) where
  irrefl x := by rw [cmpE_lt]; simp
  trans x y z h1 h2 := by rw [cmpE_lt] at *; simp at *; omega
  ntrans x y z h1 h2 := by rw [cmpE_lt] at *; simp at *; omega
end YtnjpigkijdnpkaaGreat
shelf_lay_g SlLaysF0.n6 Slsf 6 at Tryz 157 as Tryz.sortEdge
namespace YtnjpigkijdnpkaaGreat
theorem sort_at (blk off cap : Nat) (d : Array Ed) (w : World) (hH : HoldsK encE 2 w blk off d) (hblk : blk < w.heap.size) (hsz : d.size < 4611686018427387904) :
    Calls Tryz.prog 157 #[.slice (some ⟨blk, off, none⟩) d.size cap, .func (.func 158) #[] #[]] w fun e w' =>
      e = .returned (.tuple #[]) ∧ ∃ d' n os, PermIn 0 d.size d d' ∧ SortedIn (ltOf cmpE) 0 d.size d' ∧ w' = sortWorldK encE 2 w blk off n d' os := by
  have eg : ∀ args w, (callFunc 158 args).run Tryz.prog w = .ok (.enter 158 args) w := enters_of Tryz.func158 (by kernel_rfl) rfl
  exact AnyQ.slices_SortFunc Tryz.sortEdge 2 Tryz.isAgg172 Tryz.sizeOf172 encE (fun _ => rfl) (fun x v hv => by simp [encE] at hv; rcases hv with rfl | rfl <;> rfl) cmpE swoE 158 #[] blk off cap d w eg (fun _ _ _ _ x y => compareEdges_at x y _) hH hblk hsz
end YtnjpigkijdnpkaaGreat
end Go.Proofs
namespace Go.Proofs.YtnjpigkijdnpkaaGreat
set_option linter.all false
open Go Go.Awp Go.Sort Go.Shelf
set_option maxRecDepth 100000
set_option maxHeartbeats 4000000
set_option pp.deepTerms true

def eE (e : Ed) : List AV := [.int .i64 e.1, .int .i64 e.2]
def cEs (l : List Ed) : List AV := l.flatMap eE
@[simp] theorem eE_length (v : Ed) : (eE v).length = 2 := rfl
@[simp] theorem cEs_nil : cEs [] = [] := rfl
@[simp] theorem cEs_length (l : List Ed) : (cEs l).length = l.length * 2 := cat_length eE_length l
@[simp] theorem cEs_num (l : List Ed) : (cEs l).all AV.num = true := by
  induction l with
  | nil => rfl
  | cons a l ih => simp only [cEs, List.flatMap_cons, List.all_append] at ih ⊢; rw [ih]; rfl
@[simp] theorem cEs_flat (l : List Ed) : (cEs l).all AV.flat = true := num_flat (cEs_num l)
@[simp] theorem cEs_drop {l : List Ed} {k : Nat} (h : k < l.length) : (cEs l).drop (k * 2) = .int .i64 l[k].1 :: .int .i64 l[k].2 :: cEs (l.drop (k + 1)) := cat_drop_at eE_length h
@[simp] theorem cEs_take (l : List Ed) (k : Nat) : (cEs l).take (k * 2) = cEs (l.take k) := cat_take eE_length l k
@[simp] theorem cEs_get0 {l : List Ed} {k : Nat} (h : k < l.length) : (cEs l)[k * 2]? = some (.int .i64 l[k].1) := cat_get eE_length (j := 0) h (by omega)
@[simp] theorem cEs_get1 {l : List Ed} {k : Nat} (h : k < l.length) : (cEs l)[k * 2 + 1]? = some (.int .i64 l[k].2) := cat_get eE_length (j := 1) h (by omega)
@[simp high] theorem cEs_load {l : List Ed} {k : Nat} (h : k < l.length) : loadL true 2 (cEs l) (k * 2) = some (.agg [.int .i64 l[k].1, .int .i64 l[k].2]) := by
  show (if k * 2 + 2 ≤ (cEs l).length then _ else _) = _
  rw [if_pos (by rw [cEs_length]; omega), cEs_drop h]; rfl
@[simp] theorem cEs_append (l l' : List Ed) : cEs l ++ cEs l' = cEs (l ++ l') := by simp [cEs]
theorem cEs_one (x y : Int) : [.int .i64 x, .int .i64 y] = cEs [(x, y)] := rfl
@[simp] theorem cEs_push (l : List Ed) (x y : Int) : cEs l ++ [.int .i64 x, .int .i64 y] = cEs (l ++ [(x, y)]) := by rw [cEs_one, cEs_append]
@[simp] theorem cEs_pures (l : List Ed) : (∀ (x : AV), x ∈ cEs l → x.isPure = true) = True := eq_true (List.all_eq_true.1 (pure_flat (cEs_flat l)))


theorem newB_numE {l : List AV} (h : l.all AV.num = true) : ∀ x ∈ l, x.newB = true := by
  intro x hx
  have := List.all_eq_true.1 h x hx
  cases x <;> first | (cases this; done) | rfl
@[simp] theorem cEs_newB (l : List Ed) : (∀ (x : AV), x ∈ cEs l → x.newB = true) = True := eq_true (newB_numE (cEs_num l))

/-- Edges in ascending order. -/
def ltE (x y : Ed) : Prop := x.1 < y.1 ∨ x.1 = y.1 ∧ x.2 < y.2
theorem sorted_unique {α : Type} {lt : α → α → Prop} (irr : ∀ x, ¬ lt x x) (tr : ∀ x y z, lt x y → lt y z → lt x z) : ∀ {a b : List α}, a.Pairwise lt → b.Pairwise lt → (∀ x, x ∈ a ↔ x ∈ b) → a = b
  | [], [], _, _, _ => rfl
  | [], y :: b, _, _, h => absurd ((h y).2 (List.mem_cons_self ..)) (by simp)
  | x :: a, [], _, _, h => absurd ((h x).1 (List.mem_cons_self ..)) (by simp)
  | x :: a, y :: b, ha, hb, h => by
    obtain ⟨ha1, ha2⟩ := List.pairwise_cons.1 ha
    obtain ⟨hb1, hb2⟩ := List.pairwise_cons.1 hb
    have e : x = y := by
      rcases List.mem_cons.1 ((h x).1 (List.mem_cons_self ..)) with e | hx
      · exact e
      · rcases List.mem_cons.1 ((h y).2 (List.mem_cons_self ..)) with e | hy
        · exact e.symm
        · exact absurd (tr _ _ _ (ha1 y hy) (hb1 x hx)) (irr x)
    subst e
    congr 1
    refine sorted_unique irr tr ha2 hb2 fun z => ⟨fun hz => ?_, fun hz => ?_⟩
    · rcases List.mem_cons.1 ((h z).1 (List.mem_cons_of_mem _ hz)) with rfl | g
      · exact absurd (ha1 _ hz) (irr _)
      · exact g
    · rcases List.mem_cons.1 ((h z).2 (List.mem_cons_of_mem _ hz)) with rfl | g
      · exact absurd (hb1 _ hz) (irr _)
      · exact g
theorem ltE_irr (x : Ed) : ¬ ltE x x := by unfold ltE; omega
theorem ltE_tr (x y z : Ed) : ltE x y → ltE y z → ltE x z := by unfold ltE; omega
theorem lt_of_not {x y : Ed} (h : ltOf cmpE y x = false) (hne : x ≠ y) : ltE x y := by
  rw [cmpE_lt] at h
  simp at h
  unfold ltE
  obtain ⟨x1, x2⟩ := x
  obtain ⟨y1, y2⟩ := y
  simp at h
  have : ¬ (x1 = y1 ∧ x2 = y2) := fun ⟨e1, e2⟩ => hne (by rw [e1, e2])
  simp only
  omega
theorem sorted_to {d d' : Array Ed} {es : List Ed} (hp : PermIn 0 d.size d d') (hs : SortedIn (ltOf cmpE) 0 d.size d') (hn : d.toList.Nodup) (he : es.Pairwise ltE) (hm : ∀ x, x ∈ es ↔ x ∈ d.toList) : d'.toList = es := by
  obtain ⟨h1, _, h2⟩ := hp
  have h3 : d'.toList.Perm d.toList := by
    have e1 : d'.extract 0 d.size = d' := by rw [← h1]; exact Array.extract_size
    have e2 : d.extract 0 d.size = d := Array.extract_size
    rw [e1, e2] at h2
    exact h2
  refine sorted_unique ltE_irr ltE_tr ?_ he fun x => by rw [hm]; exact h3.mem_iff
  have hn' : d'.toList.Nodup := h3.nodup_iff.2 hn
  rw [List.pairwise_iff_getElem]
  intro i j hi hj hij
  have hi' : i < d'.size := by simpa using hi
  have hj' : j < d'.size := by simpa using hj
  have g := hs i j (Nat.zero_le _) hij (by omega)
  rw [getElem!_pos d' i hi', getElem!_pos d' j hj'] at g
  rw [Array.getElem_toList, Array.getElem_toList]
  refine lt_of_not g fun e => ?_
  have := (List.pairwise_iff_getElem.1 hn') i j hi hj hij
  rw [Array.getElem_toList, Array.getElem_toList] at this
  exact this e
/-- Cells of edges as what they are. -/
theorem cE_at {es : List Ed} {i : Nat} {a : AV} (h : (cEs es)[i]? = some a) : ∃ n : Int, a = .int .i64 n ∧ i < es.length * 2 ∧ (flatK encE 2 es.toArray)[i]! = .int .i64 n := by
  have hi : i < es.length * 2 := by
    have := (List.getElem?_eq_some_iff.1 h).1
    rwa [cEs_length] at this
  have hk : i / 2 < es.length := by omega
  have hf : (flatK encE 2 es.toArray)[i]! = (encE es.toArray[i / 2]!)[i % 2]! := get_flatK encE 2 es.toArray i (by simpa using hi)
  have hg : es.toArray[i / 2]! = es[i / 2] := by rw [getElem!_pos _ _ (by simpa using hk)]; simp
  rw [hf, hg]
  rcases Nat.mod_two_eq_zero_or_one i with e | e
  · have e2 : i = i / 2 * 2 := by omega
    rw [e2, cEs_get0 hk] at h
    cases h
    exact ⟨_, rfl, hi, by rw [e]; rfl⟩
  · have e2 : i = i / 2 * 2 + 1 := by omega
    rw [e2, cEs_get1 hk] at h
    cases h
    exact ⟨_, rfl, hi, by rw [e]; rfl⟩
theorem c_sort {es es' : List Ed} (hn : es.Nodup) (hlen : es.length ≤ 1000000) (h0 : es ≠ []) (he : es'.Pairwise ltE) (hm : ∀ x, x ∈ es' ↔ x ∈ es) :
    Fun Tryz.prog 157 [.slc 0 0 es.length 2, .clo 158 [] []] [.blk false false 172 (cEs es)] (.tup []) [.blk false false 172 (cEs es')] := by
  intro map w vs X hX hfree hW hargs o a next Q hnx
  obtain ⟨ha1, ha2⟩ := hargs
  obtain ⟨vs⟩ := vs
  match vs, ha1 with
  | [v0, v1], _ =>
    have hv0 := ha2 0 _ v0 rfl rfl
    have hv1 := ha2 1 _ v1 rfl rfl
    have hpos : 0 < es.length := List.length_pos_iff.2 h0
    rcases hW.root 0 _ _ _ _ rfl with ⟨_, q2, _⟩ | ⟨b, N, arr, q1, q2, q3, q4, q6, q5⟩
    · have := congrArg List.length q2
      rw [cEs_length] at this
      simp at this; omega
    · obtain ⟨n0, hn0, hv0⟩ : ∃ n0, n0 = es.length ∧ VRel w _ (.slc 0 0 n0 2) v0 := ⟨_, rfl, hv0⟩
      cases hv0 with
      | slcv _ _ h => rw [q1] at h; cases h
      | slc _ _ _ _ b' N' cap hm' k1 k2 k3 =>
        rw [q1] at hm'
        cases hm'
        cases hv1 with
        | clo _ _ _ vf vc g1 g2 _ _ =>
          obtain rfl : vf = #[] := Array.eq_empty_of_size_eq_zero g1.symm
          obtain rfl : vc = #[] := Array.eq_empty_of_size_eq_zero g2.symm
          replace q1 : map 0 = some (some (b, N' + 1)) := q1
          have hc := q2.cells
          have hbl := block_lt hc
          have hval : ∀ j, j < es.length * 2 → ∃ n : Int, arr[j]? = some (.int .i64 n) ∧ (flatK encE 2 es.toArray)[j]! = .int .i64 n := fun j hj => by
            have hx : (cEs es)[j]? = some ((cEs es)[j]'(by simpa using hj)) := List.getElem?_eq_getElem _
            obtain ⟨v, u1, u2, u3⟩ := q5 j _ hx
            obtain ⟨n, e1, _, e2⟩ := cE_at hx
            rw [e1] at u3
            cases u3
            exact ⟨n, u1, e2⟩
          have hH : HoldsK encE 2 w b 0 es.toArray := fun j hj => by
            obtain ⟨n, e1, e2⟩ := hval j (by simpa using hj)
            refine ⟨?_, ?_⟩
            · rw [Nat.zero_add, cell_at hc, e1, e2]; rfl
            · simp [World.frozen?, hc]
          have hcall := sort_at b 0 cap es.toArray w hH hbl (by simp; omega)
          have en : n0 = es.toArray.size := by simp [hn0]
          subst en
          have hrun : ∀ args w, (callFunc 157 args).run Tryz.prog w = .ok (.enter 157 args) w := enters_of Tryz.func157 (by kernel_rfl) rfl
          rw [hrun, Oper.upon_enter]
          refine hcall.mono fun e w' ⟨he', d', n, os, hp, hs, hw'⟩ => ?_
          subst he'
          have hd : d'.toList = es' := sorted_to hp hs (by simpa using hn) he (by simpa using hm)
          have hsz : d'.size = es.length := by have := hp.1; simpa using this
          have hel : es'.length = es.length := by rw [← hd]; simpa using hsz
          obtain rfl : d' = es'.toArray := by rw [← hd]
          have hh : w'.heap = w.heap.modify b (onCells (putCells id 0 (flatK encE 2 es'.toArray))) ++ os := by rw [hw']; rfl
          have hhb : w'.heap[b]? = some (.cells (putCells id 0 (flatK encE 2 es'.toArray) arr) 172 (0, 0)) := by
            rw [hh, Array.getElem?_append_left (by simpa using hbl), Array.getElem?_modify, if_pos rfl, hc]; rfl
          have hho : ∀ j, j < w.heap.size → j ≠ b → w'.heap[j]? = w.heap[j]? := fun j hj hne => by
            rw [hh, Array.getElem?_append_left (by simpa using hj), Array.getElem?_modify, if_neg (fun e => hne e.symm)]
          have hmut : ∀ b', mutOf map [Root.blk false false 172 (cEs es')] b' ↔ b' = b := fun b' => by
            constructor
            · rintro ⟨r, N1, n1, x1, e1, c1, h1, h2⟩
              match r, h1 with
              | 0, _ => rw [q1] at h2; cases h2; rfl
            · rintro rfl
              exact ⟨0, _, _, _, _, _, rfl, q1⟩
          have hmut0 : ∀ b', mutOf map [Root.blk false false 172 (cEs es)] b' ↔ b' = b := fun b' => by
            constructor
            · rintro ⟨r, N1, n1, x1, e1, c1, h1, h2⟩
              match r, h1 with
              | 0, _ => rw [q1] at h2; cases h2; rfl
            · rintro rfl
              exact ⟨0, _, _, _, _, _, rfl, q1⟩
          have hpa : (putCells id 0 (flatK encE 2 es'.toArray) arr).size = arr.size := by simp [putCells]
          have hroot : RootRel w' (env map [Root.blk false false 172 (cEs es')] X w.heap.size) 0 false false 172 (cEs es') := by
            refine .inr ⟨b, _, _, q1, RowAt.of_cells _ hhb, ?_, ?_, (fun h => by cases h), fun i a' ha' => ?_⟩
            · show (putCells id 0 (flatK encE 2 es'.toArray) arr).size = _
              rw [hpa]; exact q3
            · rw [hpa, cEs_length, hel]; rw [cEs_length] at q4; exact q4
            · obtain ⟨n, rfl, hi, hv⟩ := cE_at ha'
              refine ⟨.int .i64 n, ?_, rfl, .int _ _⟩
              obtain ⟨n1, g3, _⟩ := hval i (by omega)
              have hia : i < arr.size := (Array.getElem?_eq_some_iff.1 g3).1
              simp only [putCells, Array.getElem?_mapIdx, g3, Option.map_some]
              rw [if_pos ⟨Nat.zero_le _, by rw [size_flatK]; simpa using hi⟩, Nat.sub_zero, hv]; rfl
          have hst : Step map [Root.blk false false 172 (cEs es)] w map [Root.blk false false 172 (cEs es')] w' := ⟨by rw [hw']; rfl, by rw [hw']; rfl, by rw [hw']; rfl, by rw [hh]; simp, fun b' hb' hn => hho b' hb' fun e => hn ((hmut0 b').2 e), fun _ _ h => h, fun _ _ => rfl, Nat.le_refl _, fun b' _ h => (hmut0 b').2 ((hmut b').1 h)⟩
          refine hnx _ w' ⟨map, .tup [], [.blk false false 172 (cEs es')], ⟨rfl, rfl⟩, .tup [] #[] rfl (fun i a v h => by simp at h), ⟨fun r new box e cells hr => ?_, fun r r' b N N' n1 n2 x1 x2 e1 e2 c1 c2 hr hr' _ _ => ?_, hW.glob.later (hst.later (X := X) (B := w.heap.size))⟩, fun r new box e cells hr h => ?_, fun r hr => ?_, hst⟩
          · match r, hr with
            | 0, hr => cases hr; exact hroot
          · match r, r', hr, hr' with
            | 0, 0, _, _ => rfl
          · match r, h with
            | 0, _ => simp at hr
          · match r, hr with
            | 0, _ => exact ⟨_, _, _, _, rfl⟩
theorem c_len0 : Fun Tryz.prog 166 [.int .u64 0] [] (.int .i64 0) [] := by
  intro map w vs X hX hfree hW hargs o a next Q hnx
  obtain ⟨ha1, ha2⟩ := hargs
  obtain ⟨vs⟩ := vs
  match vs, ha1 with
  | [v0], _ =>
    have hv0 := ha2 0 _ v0 rfl rfl
    cases hv0
    have hcall := Any.bits_Len (SlLaysF0.n15.bits (P := Tryz.prog) { Tryz.sortEdge with }) 0 w (by omega) (by omega)
    have hrun : ∀ args w, (callFunc 166 args).run Tryz.prog w = .ok (.enter 166 args) w := enters_of Tryz.func166 (by kernel_rfl) rfl
    rw [hrun, Oper.upon_enter]
    refine hcall.mono fun e w' ⟨he, hw'⟩ => ?_
    subst he; subst hw'
    exact hnx _ w' ⟨map, .int .i64 0, [], ⟨rfl, rfl⟩, .int _ _, hW, fun r _ _ _ _ _ h => by simp at h, fun r h => by simp at h, Step.refl _ _ _⟩
theorem c_insert0 : Fun Tryz.prog 169 [.view false [] 0, .int .i64 0, .int .i64 0, .clo 158 [] []] [] (.tup []) [] := by
  refine FnSpec.walkF dr_ok Tryz.func169 rfl (by kernel_rfl) rfl rfl rfl (by simp) ?_
  have e1 : IntKind.i64.wrap 1 = 1 := by decide
  simp [e1]
  refine loopG_of (α := Unit) (fun _ => True) (fun _ => 0) (fun _ => [(8, .int .i64 1), (2, .int .i64 0)]) (fun _ => []) () trivial (weak_UH rfl (by simp)) fun _ _ => ?_
  simp
theorem c_pdq0 : Fun Tryz.prog 165 [.view false [] 0, .int .i64 0, .int .i64 0, .int .i64 0, .clo 158 [] []] [] (.tup []) [] := by
  refine FnSpec.walkF dr_ok Tryz.func165 rfl (by kernel_rfl) rfl rfl rfl (by simp) ?_
  have e0 : IntKind.i64.wrap 0 = 0 := by decide
  simp
  refine loopG_of (α := Unit) (fun _ => True) (fun _ => 0) (fun _ => [(0, .view false [] 0), (1, .int .i64 0), (2, .int .i64 0), (3, .int .i64 0), (4, .clo 158 [] [])]) (fun _ => []) () trivial (weak_UH rfl (by simp)) fun _ _ => ?_
  simp [e0]
  (first | refine callG_r ?_ | refine callD_r ?_); simp; (first | refine callN_flat (by with_reducible first | exact c_insert0) rfl ?_ | refine callN_new (by with_reducible first | exact c_insert0) ?_ | refine callM_flat (by with_reducible first | exact c_insert0) rfl ?_ | refine callM_new (by with_reducible first | exact c_insert0) ?_)
  simp
theorem c_sort0 : Fun Tryz.prog 157 [.view false [] 0, .clo 158 [] []] [] (.tup []) [] := by
  refine FnSpec.walkF dr_ok Tryz.func157 rfl (by kernel_rfl) rfl rfl rfl (by simp) ?_
  have e0 : IntKind.u64.wrap 0 = 0 := by decide
  simp [e0]
  (first | refine callG_r ?_ | refine callD_r ?_); simp; (first | refine callN_flat (by with_reducible first | exact c_len0) rfl ?_ | refine callN_new (by with_reducible first | exact c_len0) ?_ | refine callM_flat (by with_reducible first | exact c_len0) rfl ?_ | refine callM_new (by with_reducible first | exact c_len0) ?_)
  simp
  (first | refine callG_r ?_ | refine callD_r ?_); simp; (first | refine callN_flat (by with_reducible first | exact c_pdq0) rfl ?_ | refine callN_new (by with_reducible first | exact c_pdq0) ?_ | refine callM_flat (by with_reducible first | exact c_pdq0) rfl ?_ | refine callM_new (by with_reducible first | exact c_pdq0) ?_)
  simp
end Go.Proofs.YtnjpigkijdnpkaaGreat
namespace Go.Proofs.YtnjpigkijdnpkaaGreat
set_option linter.all false
open Go Go.Awp
set_option maxRecDepth 100000
set_option maxHeartbeats 4000000
set_option pp.deepTerms true

-- roots behind others
@[simp] theorem app_at (H t : Heap) : (H ++ t)[H.length]? = t[0]? := by rw [List.getElem?_append_right (Nat.le_refl _), Nat.sub_self]
@[simp] theorem app_atk (H t : Heap) (k : Nat) : (H ++ t)[H.length + k]? = t[k]? := by rw [List.getElem?_append_right (by omega), Nat.add_sub_cancel_left]
@[simp] theorem app_set (H t : Heap) (x : Root) : (H ++ t).set H.length x = H ++ t.set 0 x := by simp
@[simp] theorem app_setk (H t : Heap) (k : Nat) (x : Root) : (H ++ t).set (H.length + k) x = H ++ t.set k x := by simp
@[simp] theorem app_take (H t : Heap) (k : Nat) : (H ++ t).take (H.length + k) = H ++ t.take k := List.take_length_add_append k
@[simp] theorem app_take0 (H t : Heap) : (H ++ t).take H.length = H := List.take_left
theorem setL_app {H t : Heap} {r : Nat} (x : Root) (h : r < H.length) : setL (H ++ t) r x = setL H r x ++ t := by
  apply List.ext_getElem?
  intro j
  rw [setL_get, List.getElem?_append, List.getElem?_append, setL_get, setL_length]
  by_cases c : j < H.length
  · rw [if_pos c, if_pos c]
  · rw [if_neg c, if_neg c, if_neg (by omega)]
theorem setL_app2 {H t : Heap} (k : Nat) (x : Root) : setL (H ++ t) (H.length + k) x = H ++ setL t k x := by
  apply List.ext_getElem?
  intro j
  rw [setL_get, List.getElem?_append, List.getElem?_append, setL_get]
  by_cases c : j < H.length
  · rw [if_pos c, if_pos c, if_neg (by omega)]
  · rw [if_neg c, if_neg c]
    by_cases c2 : j = H.length + k
    · rw [if_pos c2, if_pos (by omega)]
    · rw [if_neg c2, if_neg (by omega)]
@[simp] theorem setL_appk (H t : Heap) (k : Nat) (x : Root) : setL (H ++ t) (H.length + k) x = H ++ setL t k x := setL_app2 k x
@[simp] theorem setL_app0 (H t : Heap) (x : Root) : setL (H ++ t) H.length x = H ++ setL t 0 x := setL_app2 0 x
theorem map_laid {H : Heap} {r q : Nat} {nw bx : Bool} {e : Nat} {ks : List (List Int)} {vs : List AV} {x : Root} (h : MapAt H r nw bx e ks vs) (hne : r ≠ q) : MapAt (setL H q x) r nw bx e ks vs :=
  ⟨by rw [setL_get, if_neg hne]; exact h.1, h.2⟩
theorem map_liv {H : Heap} {r : Nat} {nw bx : Bool} {e : Nat} {ks : List (List Int)} {vs : List AV} (h : MapAt H r nw bx e ks vs) : Go.Awp.liv H[r]? = true := by
  rw [h.1]; rfl
theorem inj_of_nodup {α β : Type} {f : α → β} : ∀ {l : List α}, (l.map f).Nodup → ∀ {a b : α}, a ∈ l → b ∈ l → f a = f b → a = b
  | [], _, a, _, ha, _, _ => by simp at ha
  | x :: l, h, a, b, ha, hb, e => by
    have h' : f x ∉ l.map f ∧ (l.map f).Nodup := by simpa using h
    by_cases ca : a = x
    · by_cases cb : b = x
      · rw [ca, cb]
      · exact absurd (List.mem_map.2 ⟨b, (List.mem_cons.1 hb).resolve_left cb, by rw [← e, ca]⟩) h'.1
    · by_cases cb : b = x
      · exact absurd (List.mem_map.2 ⟨a, (List.mem_cons.1 ha).resolve_left ca, by rw [e, cb]⟩) h'.1
      · exact inj_of_nodup h'.2 ((List.mem_cons.1 ha).resolve_left ca) ((List.mem_cons.1 hb).resolve_left cb) e
theorem putK_cons (k' k : List Int) (ks : List (List Int)) : putK (k' :: ks) k = if k' = k then k' :: ks else k' :: putK ks k := rfl
theorem putV_cons (k' k : List Int) (ks : List (List Int)) (v' v : AV) (vs : List AV) : putV (k' :: ks) (v' :: vs) k v = if k' = k then v :: vs else v' :: putV ks vs k v := rfl

/-- Entries: the key, the row's root, the row. -/
abbrev EntL := List Int × Nat × List Int
def keysL (es : List EntL) : List (List Int) := es.map fun x => x.1
def slcsL (es : List EntL) : List AV := es.map fun x => .slc x.2.1 0 x.2.2.length 1
/-- What of entries does not speak of roots. -/
abbrev KR := List Int × List Int
def strip (es : List EntL) : List KR := es.map fun x => (x.1, x.2.2)
def keysR (L : List KR) : List (List Int) := L.map fun x => x.1
def viewsR (L : List KR) : List AV := L.map fun x => .view true (cIs x.2) x.2.length
def pushR (k : List Int) (q : Int) : List KR → List KR
  | [] => [(k, [q])]
  | y :: L => if y.1 = k then (k, y.2 ++ [q]) :: L else y :: pushR k q L
def rowR (L : List KR) (k : List Int) : List Int := ((L.find? fun x => x.1 == k).map (·.2)).getD []
structure RowsL (H : Heap) (m e : Nat) (es : List EntL) : Prop where
  map : H[m]? = some (.blk true true e (rowA (keysL es) (slcsL es)))
  row : ∀ x ∈ es, H[x.2.1]? = some (.blk true false 2 (cIs x.2.2))
  off : ∀ x ∈ es, x.2.1 ≠ m
  apart : (es.map (·.2.1)).Nodup
  keys : (keysL es).Nodup
  wf : ∀ x ∈ es, x.1.length = kwid e ∧ WfK x.1
theorem RowsL.at {H : Heap} {m e : Nat} {es : List EntL} (h : RowsL H m e es) (t : Heap) : MapAt (H ++ t) m true true e (keysL es) (slcsL es) := by
  have hl := (List.getElem?_eq_some_iff.1 h.map).1
  refine ⟨by rw [List.getElem?_append_left hl]; exact h.map, by simp [keysL, slcsL], ⟨fun k hk => ?_, fun k hk => ?_, h.keys⟩⟩
  · obtain ⟨x, hx, rfl⟩ := List.mem_map.1 hk; exact (h.wf x hx).1
  · obtain ⟨x, hx, rfl⟩ := List.mem_map.1 hk; exact (h.wf x hx).2
theorem RowsL.map_at {H : Heap} {m e : Nat} {es : List EntL} (h : RowsL H m e es) : MapAt H m true true e (keysL es) (slcsL es) := by
  have := h.at []
  rwa [List.append_nil] at this
theorem RowsL.app {H : Heap} {m e : Nat} {es : List EntL} (h : RowsL H m e es) (t : Heap) : RowsL (H ++ t) m e es :=
  ⟨by rw [List.getElem?_append_left (List.getElem?_eq_some_iff.1 h.map).1]; exact h.map, fun x hx => by rw [List.getElem?_append_left (List.getElem?_eq_some_iff.1 (h.row x hx)).1]; exact h.row x hx, h.off, h.apart, h.keys, h.wf⟩
theorem RowsL.other {H : Heap} {m e l : Nat} {es : List EntL} (h : RowsL H m e es) (x : Root) (h1 : l ≠ m) (h2 : ∀ y ∈ es, y.2.1 ≠ l) : RowsL (H.set l x) m e es :=
  ⟨by rw [List.getElem?_set_ne h1]; exact h.map, fun y hy => by rw [List.getElem?_set_ne (fun e => h2 y hy e.symm)]; exact h.row y hy, h.off, h.apart, h.keys, h.wf⟩
theorem getM_ent : ∀ (es : List EntL) (p : List Int), getM (keysL es) (slcsL es) p .nils = match es.find? (fun x => x.1 == p) with
    | some x => .slc x.2.1 0 x.2.2.length 1
    | none => .nils
  | [], p => rfl
  | x :: es, p => by
    show (if x.1 = p then _ else getM (keysL es) (slcsL es) p .nils) = _
    by_cases c : x.1 = p
    · subst c; simp
    · simp [c, getM_ent es p]
theorem getM_views : ∀ (L : List KR) (p : List Int), getM (keysR L) (viewsR L) p .nils = match L.find? (fun x => x.1 == p) with
    | some x => .view true (cIs x.2) x.2.length
    | none => .nils
  | [], p => rfl
  | x :: L, p => by
    show (if x.1 = p then _ else getM (keysR L) (viewsR L) p .nils) = _
    by_cases c : x.1 = p
    · subst c; simp
    · simp [c, getM_views L p]
/-- An entry that is there gets a new row. -/
def setE (k : List Int) (r : Nat) (q : Int) : List EntL → List EntL
  | [] => [(k, r, [q])]
  | y :: es => if y.1 = k then (k, r, y.2.2 ++ [q]) :: es else y :: setE k r q es
theorem strip_setE (k : List Int) (r : Nat) (q : Int) : ∀ es : List EntL, strip (setE k r q es) = pushR k q (strip es)
  | [] => rfl
  | y :: es => by
    show strip (if y.1 = k then _ else _) = if y.1 = k then _ else _
    split
    · rfl
    · show _ :: strip (setE k r q es) = _ :: pushR k q (strip es)
      rw [strip_setE]
theorem put_setE {k : List Int} {r : Nat} {q : Int} : ∀ {es : List EntL},
    putK (keysL es) k = keysL (setE k r q es) ∧ putV (keysL es) (slcsL es) k (.slc r 0 (((es.find? fun y => y.1 == k).map (·.2.2.length)).getD 0 + 1) 1) = slcsL (setE k r q es)
  | [] => ⟨rfl, rfl⟩
  | y :: es => by
    show putK (y.1 :: keysL es) k = keysL (if y.1 = k then _ else _) ∧ putV (y.1 :: keysL es) (.slc y.2.1 0 y.2.2.length 1 :: slcsL es) k _ = slcsL (if y.1 = k then _ else _)
    rw [putK_cons, putV_cons]
    by_cases c : y.1 = k
    · rw [if_pos c, if_pos c, if_pos c, List.find?_cons_of_pos (by simpa using c)]
      refine ⟨by rw [c]; rfl, ?_⟩
      show _ :: slcsL es = .slc r 0 (y.2.2 ++ [q]).length 1 :: slcsL es
      simp
    · rw [if_neg c, if_neg c, if_neg c, List.find?_cons_of_neg (by simpa using c)]
      obtain ⟨g1, g2⟩ := put_setE (k := k) (r := r) (q := q) (es := es)
      exact ⟨by rw [g1]; rfl, by rw [g2]; rfl⟩
theorem putV_set {k : List Int} {x v : AV} : ∀ {ks : List (List Int)} {vs : List AV}, ks.length = vs.length → (putV ks vs k x).set (idxM ks k) v = putV ks vs k v
  | [], [], _ => rfl
  | [], _ :: _, h => by cases h
  | _ :: _, [], h => by cases h
  | k' :: ks, v' :: vs, h => by
    rw [putV_cons, putV_cons]
    show List.set _ (if k' = k then 0 else idxM ks k + 1) v = _
    by_cases c : k' = k
    · rw [if_pos c, if_pos c, if_pos c]; rfl
    · rw [if_neg c, if_neg c, if_neg c, List.set_cons_succ, putV_set (by simpa using h)]
theorem idxM_lt {k : List Int} : ∀ {ks : List (List Int)}, idxM ks k < (putK ks k).length
  | [] => by simp [idxM, putK]
  | k' :: ks => by
    rw [putK_cons]
    show (if k' = k then 0 else idxM ks k + 1) < _
    by_cases c : k' = k
    · rw [if_pos c, if_pos c]; simp
    · rw [if_neg c, if_neg c]
      have := idxM_lt (k := k) (ks := ks)
      simp only [List.length_cons]; omega
theorem find_of {es : List EntL} {k : List Int} {x : EntL} (h : es.find? (fun y => y.1 == k) = some x) : x ∈ es ∧ x.1 = k := ⟨List.mem_of_find?_eq_some h, by simpa using List.find?_some h⟩
theorem mem_setE {k : List Int} {r : Nat} {q : Int} : ∀ {es : List EntL} {y : EntL}, (keysL es).Nodup → y ∈ setE k r q es → (y ∈ es ∧ y.1 ≠ k) ∨ y = (k, r, (((es.find? fun y => y.1 == k).map (·.2.2)).getD []) ++ [q])
  | [], y, _, h => .inr (List.mem_singleton.1 h)
  | z :: es, y, hn, h => by
    have hn' : z.1 ∉ keysL es ∧ (keysL es).Nodup := by unfold keysL at hn ⊢; simpa using hn
    unfold setE at h
    by_cases c : z.1 = k
    · rw [if_pos c] at h
      rw [List.find?_cons_of_pos (by simpa using c)]
      rcases List.mem_cons.1 h with h | h
      · exact .inr h
      · exact .inl ⟨List.mem_cons_of_mem _ h, fun e => hn'.1 (List.mem_map.2 ⟨y, h, by rw [e, c]⟩)⟩
    · rw [if_neg c] at h
      rw [List.find?_cons_of_neg (by simpa using c)]
      rcases List.mem_cons.1 h with h | h
      · subst h; exact .inl ⟨List.mem_cons_self .., c⟩
      · rcases mem_setE hn'.2 h with ⟨g, g2⟩ | g
        · exact .inl ⟨List.mem_cons_of_mem _ g, g2⟩
        · exact .inr g
theorem keys_pushR (k : List Int) (q : Int) : ∀ L : List KR, keysR (pushR k q L) = if k ∈ keysR L then keysR L else keysR L ++ [k]
  | [] => by simp [pushR, keysR]
  | y :: L => by
    unfold pushR
    by_cases c : y.1 = k
    · rw [if_pos c]; simp [keysR, c]
    · have c' : ¬ k = y.1 := fun e => c e.symm
      have ih := keys_pushR k q L
      unfold keysR at ih ⊢
      rw [if_neg c]
      simp only [List.map_cons, List.mem_cons, c', false_or, ih]
      split <;> simp
theorem keysL_strip (es : List EntL) : keysL es = keysR (strip es) := by simp [keysL, keysR, strip]
theorem nodup_pushR {k : List Int} {q : Int} {L : List KR} (h : (keysR L).Nodup) : (keysR (pushR k q L)).Nodup := by
  rw [keys_pushR]
  split
  · exact h
  · rename_i c
    rw [List.nodup_append]
    refine ⟨h, by simp, fun a ha b hb => ?_⟩
    rw [List.mem_singleton.1 hb]
    exact fun e => c (e ▸ ha)
theorem roots_setE {k : List Int} {r : Nat} {q : Int} : ∀ {es : List EntL}, (keysL es).Nodup → (es.map (·.2.1)).Nodup → (∀ y ∈ es, y.2.1 ≠ r) → ((setE k r q es).map (·.2.1)).Nodup
  | [], _, _, _ => by simp [setE]
  | z :: es, hn, ha, hr => by
    have hn' : z.1 ∉ keysL es ∧ (keysL es).Nodup := by unfold keysL at hn ⊢; simpa using hn
    have ha' : z.2.1 ∉ es.map (·.2.1) ∧ (es.map (·.2.1)).Nodup := by simpa using ha
    unfold setE
    split
    · show (r :: es.map (·.2.1)).Nodup
      refine List.nodup_cons.2 ⟨fun h => ?_, ha'.2⟩
      obtain ⟨y, hy, e⟩ := List.mem_map.1 h
      exact hr y (List.mem_cons_of_mem _ hy) e
    · show (z.2.1 :: (setE k r q es).map (·.2.1)).Nodup
      refine List.nodup_cons.2 ⟨fun h => ?_, roots_setE hn'.2 ha'.2 fun y hy => hr y (List.mem_cons_of_mem _ hy)⟩
      obtain ⟨y, hy, e⟩ := List.mem_map.1 h
      rcases mem_setE hn'.2 hy with ⟨g, _⟩ | g
      · exact ha'.1 (List.mem_map.2 ⟨y, g, e⟩)
      · subst g; exact hr z (List.mem_cons_self ..) e.symm
/-- What is known behind an entry's new row: H is the heap before, H' the one behind. -/
theorem RowsL.push {H H' : Heap} {m e : Nat} {es : List EntL} {k : List Int} {q : Int} {r : Nat} (hR : RowsL H m e es) (hk : k.length = kwid e ∧ WfK k)
    (hm : H'[m]? = some (.blk true true e (rowA (putK (keysL es) k) (putV (keysL es) (slcsL es) k (.slc r 0 (((es.find? fun y => y.1 == k).map (·.2.2.length)).getD 0 + 1) 1)))))
    (hr : H'[r]? = some (.blk true false 2 (cIs ((((es.find? fun y => y.1 == k).map (·.2.2)).getD []) ++ [q])))) (hn : H.length ≤ r)
    (hH : ∀ y ∈ es, y.1 ≠ k → H'[y.2.1]? = H[y.2.1]?) : RowsL H' m e (setE k r q es) := by
  have hml := (List.getElem?_eq_some_iff.1 hR.map).1
  have hlt : ∀ y ∈ es, y.2.1 < H.length := fun y hy => (List.getElem?_eq_some_iff.1 (hR.row y hy)).1
  obtain ⟨g1, g2⟩ := put_setE (k := k) (r := r) (q := q) (es := es)
  refine ⟨by rw [hm, g1, g2], fun x hx => ?_, fun x hx => ?_, roots_setE hR.keys hR.apart fun y hy => by have := hlt y hy; omega, ?_, fun x hx => ?_⟩
  · rcases mem_setE hR.keys hx with ⟨g, gk⟩ | rfl
    · rw [hH x g gk]; exact hR.row x g
    · exact hr
  · rcases mem_setE hR.keys hx with ⟨g, gk⟩ | rfl
    · exact hR.off x g
    · show r ≠ m; omega
  · rw [keysL_strip, strip_setE]
    exact nodup_pushR (by rw [← keysL_strip]; exact hR.keys)
  · rcases mem_setE hR.keys hx with ⟨g, gk⟩ | rfl
    · exact hR.wf x g
    · exact hk
end Go.Proofs.YtnjpigkijdnpkaaGreat
namespace Go.Proofs.YtnjpigkijdnpkaaGreat
set_option linter.all false
open Go Go.Awp
set_option maxRecDepth 100000
set_option maxHeartbeats 4000000
set_option pp.deepTerms true

theorem arr_edge : WideMaps.ArrKey Tryz.prog 172 2 2 where
  hu := Tryz.underlying172
  plain := by kernel_rfl
  one := by kernel_rfl
  size := by kernel_rfl
theorem wf_lit64 {a : Int} (h : -9223372036854775808 ≤ a ∧ a < 9223372036854775808) : (Lit.int .i64 a).wf = true := by
  have e1 : IntKind.i64.min = -9223372036854775808 := by decide
  have e2 : IntKind.i64.max = 9223372036854775807 := by decide
  have h2 : Lit.wf (.int .i64 a) = decide (IntKind.i64.min ≤ a ∧ a ≤ IntKind.i64.max) := by simp [Lit.wf]
  rw [h2, e1, e2]
  exact decide_eq_true (by omega)
theorem types_some : ∃ m, Tryz.prog.types.size = m + 1 := ⟨Tryz.prog.types.size - 1, by kernel_rfl⟩
theorem key_edge : KeyOk Tryz.prog 172 2 where
  law := Maps.Keyed.of_law arr_edge.law
  lit k hl hw := by
    match k, hl with
    | [a, b], _ =>
      exact ⟨_, WideMaps.keyOf_pair arr_edge Tryz.underlying2 types_some (wf_lit64 (hw a (by simp))) (wf_lit64 (hw b (by simp)))⟩
theorem zero_row : zeroOne Tryz.prog 36 = some .nils := by kernel_rfl

def loI (a b : Int) : Int := if b < a then b else a
def hiI (a b : Int) : Int := if a < b then b else a
theorem c_edgeOf (a b : Int) : Fun Tryz.prog 156 [.int .i64 a, .int .i64 b] [] (.agg [.int .i64 (loI a b), .int .i64 (hiI a b)]) [] := by
  refine FnSpec.walkF dr_ok Tryz.func156 rfl (by kernel_rfl) rfl rfl rfl (by simp) ?_
  simp [mnI, mxI]
  exact ⟨rfl, rfl⟩
/-- The edges of a triangle, in the order in which they are met. -/
def edAt (t : List Int) (k : Nat) : Ed := (loI (t.getD k 0) (t.getD ((k + 1) % 3) 0), hiI (t.getD k 0) (t.getD ((k + 1) % 3) 0))
def ekey (e : Ed) : List Int := [e.1, e.2]
/-- Triangles of edges, as the program lays them down. -/
def tbe3 (L : List KR) (t : List Int) (i : Nat) (k : Nat) : List KR := (List.range k).foldl (fun L j => pushR (ekey (edAt t j)) i L) L
def tbeN (T : List (List Int)) (n : Nat) : List KR := (List.range n).foldl (fun L i => tbe3 L (T.getD i []) i 3) []
def keyE (L : List KR) : List Ed := L.map fun x => (x.1.getD 0 0, x.1.getD 1 0)
theorem ofVal_map : AV.ofVal (Value.map none) = .any := .trans rfl rfl
/-- Heap, entries, the list's root. -/
structure St where
  H : Heap
  es : List EntL
  l : Nat
structure InvT (m : Msh) (L : List KR) (c : Nat) (x : St) : Prop where
  box : x.H[0]? = some (.blk true true 27 m.cells)
  rows : RowsL x.H 1 2 x.es
  strip : strip x.es = L
  list : x.H[x.l]? = some (.blk true false 172 (cEs (keyE L)))
  len : ∀ y ∈ x.es, 1 ≤ y.2.2.length ∧ y.2.2.length ≤ c
  cnt : L.length ≤ c
theorem keyE_map (L : List KR) : keyE L = (keysR L).map fun k => (k.getD 0 0, k.getD 1 0) := by simp [keyE, keysR]
theorem keyE_in {k : List Int} {q : Int} {L : List KR} (h : k ∈ keysR L) : keyE (pushR k q L) = keyE L := by rw [keyE_map, keyE_map, keys_pushR, if_pos h]
theorem keyE_out {k : List Int} {q : Int} {L : List KR} (h : k ∉ keysR L) : keyE (pushR k q L) = keyE L ++ [(k.getD 0 0, k.getD 1 0)] := by rw [keyE_map, keyE_map, keys_pushR, if_neg h, List.map_append]; rfl
theorem length_pushR (k : List Int) (q : Int) : ∀ L : List KR, (pushR k q L).length ≤ L.length + 1
  | [] => by simp [pushR]
  | y :: L => by
    unfold pushR
    split
    · simp
    · have := length_pushR k q L; simp; omega
theorem putKV_length {k : List Int} {v : AV} : ∀ {ks : List (List Int)} {vs : List AV}, ks.length = vs.length → (putK ks k).length = (putV ks vs k v).length
  | [], [], _ => rfl
  | [], _ :: _, h => by cases h
  | _ :: _, [], h => by cases h
  | k' :: ks, v' :: vs, h => by
    rw [putK_cons, putV_cons]
    split
    · simpa using h
    · simpa using putKV_length (k := k) (v := v) (ks := ks) (vs := vs) (by simpa using h)
theorem inv_push {m : Msh} {L : List KR} {c : Nat} {H2 E : Heap} {es : List EntL} {l r : Nat} {k : List Int} {q : Int} (hR : RowsL H2 1 2 es) (hbox : H2[0]? = some (.blk true true 27 m.cells)) (hst : strip es = L)
    (hlist : H2[l]? = some (.blk true false 172 (cEs (keyE (pushR k q L))))) (hlen : ∀ y ∈ es, 1 ≤ y.2.2.length ∧ y.2.2.length ≤ c) (hcnt : L.length ≤ c) (hk : k.length = kwid 2 ∧ WfK k)
    (hm : E[1]? = some (.blk true true 2 (rowA (putK (keysL es) k) (putV (keysL es) (slcsL es) k (.slc r 0 (((es.find? fun y => y.1 == k).map (·.2.2.length)).getD 0 + 1) 1)))))
    (hr : E[r]? = some (.blk true false 2 (cIs ((((es.find? fun y => y.1 == k).map (·.2.2)).getD []) ++ [q])))) (hn : H2.length ≤ r)
    (hE : ∀ j, j < H2.length → j ≠ 1 → (∀ x, es.find? (fun y => y.1 == k) = some x → j ≠ x.2.1) → E[j]? = H2[j]?) : InvT m (pushR k q L) (c + 1) ⟨E, setE k r q es, l⟩ := by
  have hlt : ∀ y ∈ es, y.2.1 < H2.length := fun y hy => (List.getElem?_eq_some_iff.1 (hR.row y hy)).1
  refine ⟨?_, hR.push hk hm hr hn fun y hy hne => ?_, by rw [strip_setE, hst], ?_, fun y hy => ?_, ?_⟩
  · show E[0]? = _
    rw [hE 0 (List.getElem?_eq_some_iff.1 hbox).1 (by omega) fun x hx e => ?_]
    · exact hbox
    · have := hR.row x (find_of hx).1
      rw [← e, hbox] at this; cases this
  · refine hE _ (hlt y hy) (hR.off y hy) fun x hx e => hne ?_
    rw [inj_of_nodup (f := fun x : EntL => x.2.1) hR.apart hy (find_of hx).1 e]
    exact (find_of hx).2
  · show E[l]? = _
    rw [hE l (List.getElem?_eq_some_iff.1 hlist).1 (fun e => ?_) fun x hx e => ?_]
    · exact hlist
    · subst e; rw [hR.map] at hlist; cases hlist
    · have := hR.row x (find_of hx).1
      rw [← e, hlist] at this
      simp at this
  · rcases mem_setE hR.keys hy with ⟨g, _⟩ | rfl
    · have := hlen y g; omega
    · show 1 ≤ (_ ++ [q]).length ∧ (_ ++ [q]).length ≤ c + 1
      cases hf : es.find? (fun y => y.1 == k) with
      | none => simp
      | some x => have := hlen x (find_of hf).1; simp; omega
  · have := length_pushR k q L; omega
theorem tri_of {m : Msh} (hv : vldM m = true) {i : Nat} (h : i < m.tr.length) : ∃ a b c, m.tr[i] = [a, b, c] ∧ inB a 0 ((m.pl.length : Int) - 1) = true ∧ inB b 0 ((m.pl.length : Int) - 1) = true ∧ inB c 0 ((m.pl.length : Int) - 1) = true ∧ a ≠ b ∧ b ≠ c ∧ a ≠ c := by
  unfold vldM at hv
  simp only [Bool.and_eq_true, List.all_eq_true] at hv
  have h1 := hv.2 _ (List.getElem_mem h)
  rcases tri_cases m.tr[i] with ⟨_, e⟩ | ⟨a, b, c, e⟩
  · rw [e] at h1; cases h1
  · rw [e] at h1
    simp only [triB, Bool.and_eq_true, Bool.not_eq_true', decide_eq_false_iff_not] at h1
    exact ⟨a, b, c, e, h1.1.1.2, h1.1.2, h1.2, h1.1.1.1.1.1, h1.1.1.1.1.2, h1.1.1.1.2⟩
theorem vldM_len {m : Msh} (hv : vldM m = true) : m.pl.length ≤ 64 ∧ m.tr.length ≤ 128 := by
  unfold vldM at hv
  simp only [Bool.and_eq_true, decide_eq_true_eq] at hv
  exact hv.1
theorem keyE_nodup {L : List KR} (h : (keysR L).Nodup) (hl : ∀ k ∈ keysR L, k.length = 2) : (keyE L).Nodup := by
  rw [keyE_map]
  unfold List.Nodup at *
  rw [List.pairwise_map]
  refine h.imp_of_mem fun {a b} ha hb hne e => hne ?_
  have h1 := hl a ha
  have h2 := hl b hb
  match a, b, h1, h2 with
  | [a1, a2], [b1, b2], _, _ => simp at e; rw [e.1, e.2]
/-- All triangles of edges; the edges as they are met. -/
abbrev tbe (m : Msh) : List KR := tbeN m.tr m.tr.length
structure EdgesOk (m : Msh) (S : List Ed) : Prop where
  srt : S.Pairwise ltE
  mem : ∀ x, x ∈ S ↔ x ∈ keyE (tbe m)
  len : S.length = (keyE (tbe m)).length
theorem end_tbe {H : Heap} {es : List EntL} {l n : Nat} {c : List AV} {sl : List (Nat × AV)} {R : AV → Heap → Prop} {L : List KR} (hR : RowsL H 1 2 es) (hst : strip es = L) (hl : H[l]? = some (.blk true false 172 c)) (hc : ∀ a ∈ c, a.isPure = true) (hcn : ∀ a ∈ c, a.newB = true)
    (h2 : Go.Awp.look sl 2 = AV.mp 1) (h3 : Go.Awp.look sl 3 = AV.slc l 0 n 2) (hk : R (.tup [.mview true 2 (keysR L) (viewsR L), .slc 0 0 n 2]) [.blk true false 172 c]) : endGW Tryz.prog [ResultVar.tmp 2, ResultVar.tmp 3] [] R (U 57 sl) H := by
  have hll : l < H.length := (List.getElem?_eq_some_iff.1 hl).1
  have h1l : (1 : Nat) ≠ l := fun e => by subst e; rw [hR.map] at hl; cases hl
  have hks : keysL es = keysR L := by rw [keysL_strip, hst]
  refine ⟨_, _, Weak.trans (weak_freezeU (ws := viewsR L) (l1 := [(2, .mview true 2 (keysL es) (viewsR L)), (3, .slc l 0 n 2)]) (H1 := (List.replicate H.length .gone).set l (.blk true false 172 c))
    (fun q => q ≠ l) hR.map_at h1l (by rw [← hst]; simp [viewsR, strip, slcsL]) (fun q a b ha hb => ?_) (by simp) (fun q nw bx e cc hq => ?_) (by simp [h2, h3])) (weak_gc [(some l, 0)] (H' := [.blk true false 172 c]) (l' := [(2, .mview true 2 (keysL es) (viewsR L)), (3, .slc 0 0 n 2)]) ?_ ?_ ?_ ?_ ?_), ?_⟩
  · rw [← hst] at hb
    unfold slcsL at ha; unfold viewsR strip at hb
    rw [List.map_map] at hb
    rw [List.getElem?_map] at ha hb
    cases hx : es[q]? with
    | none => rw [hx] at ha; cases ha
    | some x =>
      rw [hx] at ha hb
      simp only [Option.map_some, Option.some.injEq] at ha hb
      subst ha; subst hb
      have hxm := List.mem_of_getElem? hx
      have hr := hR.row x hxm
      have hne : x.2.1 ≠ l := fun e => by rw [e, hl] at hr; simp at hr
      have := Froz.row (H := H) (F := fun q => q ≠ l) x.2.1 x.2.2.length 2 (cIs x.2.2) hr (by simp) hne
      rw [List.take_of_length_le (by simp)] at this
      exact this
  · by_cases e' : q = l
    · subst e'
      rw [List.getElem?_set_self (by simp; omega)] at hq
      cases hq
      exact ⟨hl, fun h => h rfl⟩
    · rw [List.getElem?_set_ne (fun e => e' e.symm), List.getElem?_replicate] at hq
      split at hq <;> cases hq
  · simp
  · simp
  · simp; exact hll
  · simp
  · simp [hll]
  · rw [hks]
    refine endG_keepT [(some 0, 0)] ?_ ?_ ?_ ?_ ?_ ?_ ?_ hk ?_ <;> simp
    · exact fun x hx => hcn x hx
    · intro x hx
      obtain ⟨y, _, rfl⟩ := List.mem_map.1 hx
      simp [AV.newB]
theorem c_tbe (m : Msh) (hs : m.Small) (hv : vldM m = true) {S : List Ed} (hS : EdgesOk m S) : Fun Tryz.prog 135 [m.av] [] (.tup [.mview true 2 (keysR (tbe m)) (viewsR (tbe m)), .slc 0 0 S.length 2]) [.blk true false 172 (cEs S)] := by
  obtain ⟨hl1, hl2⟩ := vldM_len hv
  refine FnSpec.walkW dr_ok Tryz.func135 rfl (by kernel_rfl) rfl rfl rfl (by simp) ?_
  simp
  simp [ofVal_map]
  refine make_r 2 Tryz.underlying167 ?_
  simp
  refine ⟨fun x hx => ?_, ?_⟩
  · unfold makeL at hx; simp at hx
  refine loopG_of (α := Nat × St) (fun x => x.1 ≤ m.tr.length ∧ InvT m (tbeN m.tr x.1) (3 * x.1) x.2) (fun x => m.tr.length - x.1)
    (fun x => [(15, .int .i64 x.1), (14, .int .i64 m.tr.length), (13, .view false (cRs false m.tr) m.tr.length), (4, .mp 1), (5, .slc x.2.l 0 (keyE (tbeN m.tr x.1)).length 2)])
    (fun x => x.2.H) (0, ⟨[.blk true true 27 m.cells, .blk true true 2 [], .blk true false 172 []], [], 2⟩) ⟨by simp, ⟨rfl, ⟨rfl, by simp, by simp, by simp, by simp [keysL], by simp⟩, rfl, rfl, by simp, by simp [tbeN]⟩⟩ ?_ fun x ⟨hx, hI⟩ => ?_
  · (refine weak_gc [(some 0, 0), (some 1, 0), (none, 172)] ?_ ?_ ?_ ?_ ?_ <;> simp [tbeN, keyE])
  obtain ⟨i, st⟩ := x
  simp only at hx hI ⊢
  have hw := nat_wrap (k := i) (by omega)
  by_cases b : i < m.tr.length
  · obtain ⟨a1, a2, a3, ht, ha1, ha2, ha3, hd1, hd2, hd3⟩ := tri_of hv b
    simp [b, hw]
    rw [ht]
    refine loopG_of (α := Nat × St) (fun x => x.1 ≤ 3 ∧ InvT m (tbe3 (tbeN m.tr i) [a1, a2, a3] i x.1) (3 * i + x.1) x.2) (fun x => 3 - x.1)
      (fun x => [(20, .int .i64 x.1), (6, .int .i64 i), (7, .view false (cIs [a1, a2, a3]) 3), (15, .int .i64 i), (14, .int .i64 m.tr.length), (13, .view false (cRs false m.tr) m.tr.length), (4, .mp 1), (5, .slc x.2.l 0 (keyE (tbe3 (tbeN m.tr i) [a1, a2, a3] i x.1)).length 2)])
      (fun x => x.2.H) (0, st) ⟨by simp, by simpa [tbe3] using hI⟩ ?_ fun x ⟨hx2, hI2⟩ => ?_
    · exact weak_UH rfl (by simp [tbe3])
    obtain ⟨k, ⟨H, es, l⟩⟩ := x
    simp only at hx2 hI2 ⊢
    obtain ⟨i1, i2, i3, i4, i5, i6⟩ := hI2
    simp only at i1 i2 i3 i4 i5 i6
    have hw2 := nat_wrap (k := k) (by omega)
    by_cases b2 : k < 3
    · have b3 : k < [a1, a2, a3].length := b2
      have b4 : (k : Int) < 3 := by omega
      obtain ⟨j, hj⟩ : ∃ j, (k + 1) % 3 = j := ⟨_, rfl⟩
      have hj3 : j < 3 := by omega
      have c3 : j < [a1, a2, a3].length := hj3
      have ej : ((k : Int) + 1).tmod 3 = (j : Int) := by
        rw [Int.tmod_eq_emod_of_nonneg (by omega)]; omega
      have hjI : (j : Int) < 3 := by omega
      have eEd : edAt [a1, a2, a3] k = (loI [a1, a2, a3][k] [a1, a2, a3][j], hiI [a1, a2, a3][k] [a1, a2, a3][j]) := by
        unfold edAt
        rw [hj, List.getD_eq_getElem?_getD, List.getD_eq_getElem?_getD, List.getElem?_eq_getElem b3, List.getElem?_eq_getElem c3]; rfl
      simp [b2, b3, b4, hw2, ej, hj3, hjI, c3]
      (first | refine callG_r ?_ | refine callD_r ?_); simp; (first | refine callN_flat (by with_reducible first | exact c_edgeOf _ _) rfl ?_ | refine callN_new (by with_reducible first | exact c_edgeOf _ _) ?_ | refine callM_flat (by with_reducible first | exact c_edgeOf _ _) rfl ?_ | refine callM_new (by with_reducible first | exact c_edgeOf _ _) ?_)
      generalize ha : loI [a1, a2, a3][k] [a1, a2, a3][j] = a at *
      generalize hb : hiI [a1, a2, a3][k] [a1, a2, a3][j] = b' at *
      have hA : ∀ x ∈ [a1, a2, a3], 0 ≤ x ∧ x < 64 := by
        simp [inB] at ha1 ha2 ha3
        intro x hx
        simp at hx
        rcases hx with rfl | rfl | rfl <;> omega
      have hAk := hA _ (List.getElem_mem b3)
      have hAj := hA _ (List.getElem_mem c3)
      have hwf : WfK [a, b'] := by
        intro x hx
        simp at hx
        unfold loI at ha; unfold hiI at hb
        rcases hx with rfl | rfl
        · split at ha <;> omega
        · split at hb <;> omega
      have hL : keysL es = keysR (tbe3 (tbeN m.tr i) [a1, a2, a3] i k) := by rw [keysL_strip, i3]
      have hnx : tbe3 (tbeN m.tr i) [a1, a2, a3] i (k + 1) = pushR [a, b'] i (tbe3 (tbeN m.tr i) [a1, a2, a3] i k) := by
        unfold tbe3
        rw [List.range_succ, List.foldl_append]
        simp only [List.foldl_cons, List.foldl_nil, eEd, ekey]
      generalize tbe3 (tbeN m.tr i) [a1, a2, a3] i k = L at *
      have hll : l < H.length := (List.getElem?_eq_some_iff.1 i4).1
      have hla : ∀ t : Heap, (H ++ t)[l]? = some (.blk true false 172 (cEs (keyE L))) := fun t => by rw [List.getElem?_append_left hll]; exact i4
      have hkl : (keyE L).length ≤ 384 := by simp [keyE]; omega
      simp
      refine look_r Tryz.underlying167 key_edge (k := [a, b']) rfl hwf zero_row (i2.at _) rfl rfl ?_
      rw [getM_ent]
      cases hf : es.find? (fun x => x.1 == [a, b']) with
      | some x =>
        obtain ⟨hx, hxk⟩ := find_of hf
        have hxl := i5 x hx
        have hx0 : ¬ x.2.2.length = 0 := by omega
        simp [hx0]
        refine entry_r Tryz.underlying167 key_edge (k := [a, b']) rfl hwf zero_row rfl (i2.at _) rfl rfl ?_
        rw [getM_ent, hf]
        have hx1 := i2.off x hx
        have hxH : x.2.1 < H.length := (List.getElem?_eq_some_iff.1 (i2.row x hx)).1
        have hR2 : RowsL (H ++ [Root.blk true true 172 [.int .i64 a, .int .i64 b'], Root.blk true false 2 (cIs [(i : Int)])]) 1 2 es := i2.app _
        have h2b : (H ++ [Root.blk true true 172 [.int .i64 a, .int .i64 b'], Root.blk true false 2 (cIs [(i : Int)])])[0]? = some (.blk true true 27 m.cells) := by
          rw [List.getElem?_append_left (by omega)]; exact i1
        have h2l := hla [Root.blk true true 172 [.int .i64 a, .int .i64 b'], Root.blk true false 2 (cIs [(i : Int)])]
        have h2i : (H ++ [Root.blk true true 172 [.int .i64 a, .int .i64 b'], Root.blk true false 2 (cIs [(i : Int)])])[H.length + 1]? = some (.blk true false 2 (cIs [(i : Int)])) := by simp
        have h2n : (H ++ [Root.blk true true 172 [.int .i64 a, .int .i64 b'], Root.blk true false 2 (cIs [(i : Int)])]).length = H.length + 2 := by simp
        generalize (H ++ [Root.blk true true 172 [.int .i64 a, .int .i64 b'], Root.blk true false 2 (cIs [(i : Int)])] : Heap) = H2 at *
        have hm1 : 1 < H2.length := (List.getElem?_eq_some_iff.1 hR2.map).1
        generalize hG : H2.set 1 _ = G
        have hGn : G.length = H2.length := by rw [← hG, List.length_set]
        have hGo : ∀ j, j ≠ 1 → G[j]? = H2[j]? := fun j hj => by rw [← hG, List.getElem?_set_ne (fun e => hj e.symm)]
        have hG1 : G[1]? = some (.blk true true 2 (rowA (putK (keysL es) [a, b']) (putV (keysL es) (slcsL es) [a, b'] (.slc x.2.1 0 x.2.2.length 1)))) := by rw [← hG, List.getElem?_set_self (by omega)]
        have hGx : G[x.2.1]? = some (.blk true false 2 (cIs x.2.2)) := by rw [hGo _ hx1]; exact hR2.row x hx
        have hGi : G[H.length + 1]? = some (.blk true false 2 (cIs [(i : Int)])) := by rw [hGo _ (by omega)]; exact h2i
        simp [hGx, hGi]
        refine ⟨by omega, by omega, ?_⟩
        have hxG : x.2.1 < G.length := by omega
        have hat : MapAt (G.set x.2.1 .gone ++ [.blk true false 2 (cIs (x.2.2 ++ [(i : Int)]))]) 1 true true 2 (putK (keysL es) [a, b']) (putV (keysL es) (slcsL es) [a, b'] (.slc x.2.1 0 x.2.2.length 1)) :=
          ⟨by rw [List.getElem?_append_left (by simp; omega), List.getElem?_set_ne (fun e => hx1 e), hG1], putKV_length hR2.map_at.2.1, hR2.map_at.2.2.put rfl hwf⟩
        refine estore_r idxM_lt hat rfl rfl rfl rfl ?_
        simp
        rw [putV_set hR2.map_at.2.1]
        have hin : [a, b'] ∈ keysR L := by rw [← hL, ← hxk]; exact List.mem_map.2 ⟨x, hx, rfl⟩
        generalize hE : List.set (G.set x.2.1 .gone ++ _) 1 _ = E
        have hI3 : InvT m (pushR [a, b'] i L) (3 * i + (k + 1)) ⟨E, setE [a, b'] G.length i es, l⟩ := by
          refine inv_push hR2 h2b i3 (by rw [keyE_in hin]; exact h2l) i5 i6 ⟨rfl, hwf⟩ ?_ ?_ (by omega) fun j hj hj1 hj2 => ?_
          · rw [hf, ← hE, List.getElem?_set_self (by simp; omega)]; rfl
          · rw [hf, ← hE, List.getElem?_set_ne (by omega), List.getElem?_append_right (by simp)]; simp
          · have := hj2 x hf
            rw [← hE, List.getElem?_set_ne (by omega), List.getElem?_append_left (by simp; omega), List.getElem?_set_ne (by omega), hGo _ hj1]
        refine loopK_next (k + 1, ⟨E, setE [a, b'] G.length i es, l⟩) (by simp; omega) ⟨by simp; omega, by rw [hnx]; exact hI3⟩ ?_
        refine weak_UH rfl ?_
        rw [hnx, keyE_in hin]
        simp [hw2]
      | none =>
        have mk1 : makeL 1 [AV.int .i64 0, AV.int .i64 0] = [.int .i64 0, .int .i64 0] := .trans rfl rfl
        have sp1 : splice [AV.int .i64 0, AV.int .i64 0] 0 [.int .i64 a, .int .i64 b'] = [.int .i64 a, .int .i64 b'] := .trans rfl rfl
        simp [hla, mk1, sp1]
        refine ⟨by omega, by omega, ?_⟩
        have hl1' : l ≠ 1 := fun e => by subst e; rw [i2.map] at i4; cases i4
        have hl0 : l ≠ 0 := fun e => by subst e; rw [i1] at i4; cases i4
        have hly : ∀ y ∈ es, y.2.1 ≠ l := fun y hy e => by
          have := i2.row y hy
          rw [e, i4] at this; simp at this
        have hH0 : 0 < H.length := (List.getElem?_eq_some_iff.1 i1).1
        generalize hK : (List.set (H ++ _) l Root.gone ++ _ : Heap) = H1
        have hR1 : RowsL H1 1 2 es := by rw [← hK]; exact ((i2.app _).other _ hl1' hly).app _
        have h1b : H1[0]? = some (.blk true true 27 m.cells) := by
          rw [← hK, List.getElem?_append_left (by simp), List.getElem?_set_ne hl0, List.getElem?_append_left hH0]; exact i1
        have h1e : H1[H.length]? = some (.blk true true 172 [.int .i64 a, .int .i64 b']) := by
          rw [← hK, List.getElem?_append_left (by simp), List.getElem?_set_ne (by omega)]; simp
        have h1l : H1[H.length + 2]? = some (.blk true false 172 (cEs (keyE L ++ [(a, b')]))) := by
          rw [← hK, List.getElem?_append_right (by simp)]; simp
        have h1n : H1.length = H.length + 3 := by rw [← hK]; simp
        have h1e' : ∀ t : Heap, (H1 ++ t)[H.length]? = some (.blk true true 172 [.int .i64 a, .int .i64 b']) := fun t => by rw [List.getElem?_append_left (by omega)]; exact h1e
        simp [h1e, h1e']
        refine entry_r Tryz.underlying167 key_edge (k := [a, b']) rfl hwf zero_row rfl (hR1.at _) rfl rfl ?_
        rw [getM_ent, hf]
        have hR2 : RowsL (H1 ++ [Root.blk true false 2 (cIs [(i : Int)])]) 1 2 es := hR1.app _
        have h2b : (H1 ++ [Root.blk true false 2 (cIs [(i : Int)])])[0]? = some (.blk true true 27 m.cells) := by
          rw [List.getElem?_append_left (by omega)]; exact h1b
        have h2l : (H1 ++ [Root.blk true false 2 (cIs [(i : Int)])])[H.length + 2]? = some (.blk true false 172 (cEs (keyE L ++ [(a, b')]))) := by
          rw [List.getElem?_append_left (by omega)]; exact h1l
        have h2i : (H1 ++ [Root.blk true false 2 (cIs [(i : Int)])])[H1.length]? = some (.blk true false 2 (cIs [(i : Int)])) := by simp
        have h2n : (H1 ++ [Root.blk true false 2 (cIs [(i : Int)])]).length = H1.length + 1 := by simp
        generalize (H1 ++ [Root.blk true false 2 (cIs [(i : Int)])] : Heap) = H2 at *
        have hm1 : 1 < H2.length := (List.getElem?_eq_some_iff.1 hR2.map).1
        generalize hG : H2.set 1 _ = G
        have hGn : G.length = H2.length := by rw [← hG, List.length_set]
        have hGo : ∀ j, j ≠ 1 → G[j]? = H2[j]? := fun j hj => by rw [← hG, List.getElem?_set_ne (fun e => hj e.symm)]
        have hG1 : G[1]? = some (.blk true true 2 (rowA (putK (keysL es) [a, b']) (putV (keysL es) (slcsL es) [a, b'] .nils))) := by rw [← hG, List.getElem?_set_self (by omega)]
        have hGi : G[H1.length]? = some (.blk true false 2 (cIs [(i : Int)])) := by rw [hGo _ (by omega)]; exact h2i
        simp [hGi]
        have hat : MapAt (G ++ [.blk true false 2 (cIs [(i : Int)])]) 1 true true 2 (putK (keysL es) [a, b']) (putV (keysL es) (slcsL es) [a, b'] .nils) :=
          ⟨by rw [List.getElem?_append_left (by omega), hG1], putKV_length hR2.map_at.2.1, hR2.map_at.2.2.put rfl hwf⟩
        refine estore_r idxM_lt hat rfl rfl rfl rfl ?_
        simp
        rw [putV_set hR2.map_at.2.1]
        have hout : [a, b'] ∉ keysR L := by
          rw [← hL]
          intro h
          obtain ⟨x, hx, e⟩ := List.mem_map.1 h
          have := List.find?_eq_none.1 hf x hx
          simp at this
          exact this e
        have hko : keyE (pushR [a, b'] i L) = keyE L ++ [(a, b')] := by rw [keyE_out hout]; rfl
        generalize hE : List.set (G ++ _) 1 _ = E
        have hI3 : InvT m (pushR [a, b'] i L) (3 * i + (k + 1)) ⟨E, setE [a, b'] G.length i es, H.length + 2⟩ := by
          refine inv_push hR2 h2b i3 (by rw [hko]; exact h2l) i5 i6 ⟨rfl, hwf⟩ ?_ ?_ (by omega) fun j hj hj1 hj2 => ?_
          · rw [hf, ← hE, List.getElem?_set_self (by simp; omega)]; rfl
          · rw [hf, ← hE, List.getElem?_set_ne (by omega), List.getElem?_append_right (by simp)]; simp
          · rw [← hE, List.getElem?_set_ne (by omega), List.getElem?_append_left (by omega), hGo _ hj1]
        refine loopK_next (k + 1, ⟨E, setE [a, b'] G.length i es, H.length + 2⟩) (by simp; omega) ⟨by simp; omega, by rw [hnx]; exact hI3⟩ ?_
        refine weak_UH rfl ?_
        rw [hnx, hko]
        simp [hw2]
    · obtain rfl : k = 3 := by omega
      simp [hw]
      have hnx : tbeN m.tr (i + 1) = tbe3 (tbeN m.tr i) [a1, a2, a3] i 3 := by
        unfold tbeN
        rw [List.range_succ, List.foldl_append]
        simp only [List.foldl_cons, List.foldl_nil]
        rw [List.getD_eq_getElem?_getD, List.getElem?_eq_getElem b, Option.getD_some, ht]
      refine loopK_next (i + 1, ⟨H, es, l⟩) (by simp; omega) ⟨by simp; omega, by rw [hnx]; exact ⟨i1, i2, i3, i4, i5, i6⟩⟩ ?_
      refine weak_UH rfl ?_
      rw [hnx]
      simp [hw]
  · obtain rfl : i = m.tr.length := by omega
    simp
    obtain ⟨i1, i2, i3, i4, i5, i6⟩ := hI
    obtain ⟨H, es, l⟩ := st
    simp only at i1 i2 i3 i4 i5 i6
    change strip es = tbe m at i3
    change H[l]? = some (.blk true false 172 (cEs (keyE (tbe m)))) at i4
    change (tbe m).length ≤ _ at i6
    have hnd : (keyE (tbe m)).Nodup := by
      have hk : keysR (tbe m) = keysL es := by rw [keysL_strip, i3]
      refine keyE_nodup (by rw [hk]; exact i2.keys) fun k hk' => ?_
      rw [hk] at hk'
      obtain ⟨x, hx, rfl⟩ := List.mem_map.1 hk'
      exact (i2.wf x hx).1
    have hkl : (keyE (tbe m)).length ≤ 384 := by simp [keyE]; omega
    have hT : tbeN m.tr m.tr.length = tbe m := rfl
    by_cases hz : keyE (tbe m) = []
    · have hS0 : S = [] := List.eq_nil_of_length_eq_zero (by rw [hS.len, hz]; rfl)
      subst hS0
      rw [hz] at i4
      simp only [hT, hz]
      refine callG_r ?_
      simp [i4]
      refine callN_fun c_sort0 (by simp) ?_
      simp
      refine end_tbe i2 i3 i4 (by simp) (by simp) (by simp) (by simp [hT, hz]) ⟨rfl, rfl⟩
    · simp only [hT]
      refine callG_on true [l] ?_
      simp [i4, liveB, restr, pasH]
      refine callN_fun (c_sort hnd (by omega) hz hS.srt hS.mem) (by simp) ?_
      simp [i4, mergeH]
      have hll : l < H.length := (List.getElem?_eq_some_iff.1 i4).1
      refine end_tbe (n := S.length) (i2.other _ (fun e => ?_) fun y hy e => ?_) i3 (List.getElem?_set_self hll) (by simp) (by simp) (by simp) (by simp [hT, hS.len]) ⟨rfl, rfl⟩
      · subst e; rw [i2.map] at i4; cases i4
      · have := i2.row y hy
        rw [e, i4] at this; simp at this
end Go.Proofs.YtnjpigkijdnpkaaGreat
