/- Edges are compared: slices.Compare of two pairs, compareEdges. Edges that are sorted: the contract of slices.SortFunc.
Conditions: none. -/
import Derived.Test.YtnpflgeenecaeaaC1
import Derived.Shelf.SlSortCmp.WholeK
import Derived.Shelf.SlicesG.Cmp
import Derived.Shelf.Lay
import Derived.Ground.SlsfProg
import Derived.Ground.SlgcProg
namespace Go.Proofs
open Go.Shelf Go.RowKit Go.Lib Go.Sort
set_option linter.all false
shelf_lay_g SlLaysC2.n5 Slgc 5 at Try 111 as Try.cmpI64
namespace Ytnpflgeenecaeaa
abbrev Ed := Int × Int
/-- The order of edges. -/
def cmpE (x y : Ed) : Int := if compareInt x.1 y.1 = 0 then compareInt x.2 y.2 else compareInt x.1 y.1
def encE (x : Ed) : List Value := [.int .i64 x.1, .int .i64 x.2]
set_option maxHeartbeats 2000000 in
set_option maxRecDepth 100000 in
theorem slices_Compare2 (b1 b2 : Nat) (x y : Ed) (w : World) (h1 : w.cell? ⟨b1, 0, none⟩ = some (.int .i64 x.1)) (h2 : w.cell? ⟨b1, 1, none⟩ = some (.int .i64 x.2)) (h3 : w.cell? ⟨b2, 0, none⟩ = some (.int .i64 y.1)) (h4 : w.cell? ⟨b2, 1, none⟩ = some (.int .i64 y.2)) :
    Calls Try.prog 96 #[.slice (some ⟨b1, 0, none⟩) 2 2, .slice (some ⟨b2, 0, none⟩) 2 2] w fun e w' => e = .returned (.int .i64 (cmpE x y)) ∧ ∃ q, w' = w.drewN q := by
  have hcon := fun a b W' => AnyG.cmp_Compare_int Try.cmpI64 a b W'
  change ∀ a b W', Calls Try.prog 111 _ _ _ at hcon
  have hC1 : ∀ k : Nat, k < 2 → w.cell? ⟨b1, k, none⟩ = some (.int .i64 ([x.1, x.2].getD k 0)) := by
    intro k hk
    match k, hk with
    | 0, _ => exact h1
    | 1, _ => exact h2
  have hC2 : ∀ k : Nat, k < 2 → w.cell? ⟨b2, k, none⟩ = some (.int .i64 ([y.1, y.2].getD k 0)) := by
    intro k hk
    match k, hk with
    | 0, _ => exact h3
    | 1, _ => exact h4
  have hr : cmpE x y = if compareInt ([x.1, x.2].getD 0 0) ([y.1, y.2].getD 0 0) = 0 then compareInt ([x.1, x.2].getD 1 0) ([y.1, y.2].getD 1 0) else compareInt ([x.1, x.2].getD 0 0) ([y.1, y.2].getD 0 0) := rfl
  generalize cmpE x y = r at hr ⊢
  generalize [x.1, x.2] = xs at *
  generalize [y.1, y.2] = ys at *
  clear h1 h2 h3 h4
  go_enter Try.func96, Try.ntmps96
  go_wp2
  go_loopg [11] 2 (fun g s11 wr => ∃ k q : Nat, k ≤ 2 ∧ 2 - k ≤ g ∧ s11 = .int .i64 k ∧ wr = w.drewN q ∧ ∀ j, j < k → compareInt (xs.getD j 0) (ys.getD j 0) = 0)
  case atStart => exact ⟨0, 0, Nat.zero_le _, by omega, rfl, rfl, fun j hj => absurd hj (Nat.not_lt_zero _)⟩
  case round =>
    obtain ⟨k, q, hk, hg, rfl, rfl, heq⟩ := hrel
    by_cases hlt : k < 2
    · have g1 := hC1 k hlt
      have g2 := hC2 k hlt
      have A : Aside (∀ j, j < k → compareInt (xs.getD j 0) (ys.getD j 0) = 0) := heq
      have A2 : Aside (r = if compareInt (xs.getD 0 0) (ys.getD 0 0) = 0 then compareInt (xs.getD 1 0) (ys.getD 1 0) else compareInt (xs.getD 0 0) (ys.getD 0 0)) := hr
      clear heq hC1 hC2 hr
      generalize hxk : xs.getD k 0 = x at g1
      generalize hyk : ys.getD k 0 = y at g2
      have B : Aside (xs.getD k 0 = x ∧ ys.getD k 0 = y) := ⟨hxk, hyk⟩
      clear hxk hyk
      have hcon2 := fun W' => hcon x y W'
      clear hcon
      generalize hc : compareInt x y = c at hcon2
      have C : Aside (compareInt x y = c) := hc
      clear hc
      by_cases hxy : c = 0
      · subst hxy
        go_wp2_with (go_at_call 111; refine (hcon2 _).mono ?_; rintro e w' ⟨rfl, rfl⟩)
        go_roundg (2 - (k + 1))
        case measure => omega
        case rel =>
          refine ⟨k + 1, q, by omega, by omega, by go_num, rfl, fun j hj => ?_⟩
          by_cases e : j = k
          · subst e
            rw [B.out.1, B.out.2]; exact C.out
          · exact A.out j (by omega)
      · go_wp2_with (go_at_call 111; refine (hcon2 _).mono ?_; rintro e w' ⟨rfl, rfl⟩)
        go_ret
        refine ⟨?_, q, rfl⟩
        have h1 := A2.out
        have h2 := C.out
        rw [← B.out.1, ← B.out.2] at h2
        have h3 := A.out
        have : r = c := by
          match k, hlt with
          | 0, _ => rw [h1, if_neg (by rw [h2]; exact hxy), h2]
          | 1, _ => rw [h1, if_pos (h3 0 (by omega)), h2]
        rw [this]; rfl
    · have : k = 2 := by omega
      subst this
      clear hC1 hC2 hcon
      have h0 := heq 0 (by omega)
      have h1 := heq 1 (by omega)
      rw [h0, if_pos rfl, h1] at hr
      clear heq h0 h1
      subst hr
      go_wp2
      go_ret
      exact ⟨rfl, q, rfl⟩
set_option maxHeartbeats 2000000 in
set_option maxRecDepth 100000 in
theorem compareEdges_at (x y : Ed) (w : World) :
    Calls Try.prog 83 #[.agg (encE x).toArray, .agg (encE y).toArray] w fun e w' => e = .returned (.int .i64 (cmpE x y)) ∧ ∃ q os', w' = grow (w.drewN q) os' := by
  have hcon := fun b1 b2 w h1 h2 h3 h4 => slices_Compare2 b1 b2 x y w h1 h2 h3 h4
  generalize cmpE x y = r at hcon ⊢
  obtain ⟨x1, x2⟩ := x
  obtain ⟨y1, y2⟩ := y
  show Calls Try.prog 83 #[.agg #[.int .i64 x1, .int .i64 x2], .agg #[.int .i64 y1, .int .i64 y2]] w _
  go_enter Try.func83, Try.ntmps83
  go_wp2_with fail
  go_quiet (first | (go_at_call 96; refine Calls.quiet_of (hcon _ _ _ ?_ ?_ ?_ ?_) <;> simp))
  go_wp2
  go_ret
  exact ⟨rfl, nq, _, by rw [alloc_eq_grow, alloc_eq_grow, grow_grow]; rfl⟩
theorem cmpE_lt (x y : Ed) : ltOf cmpE x y = (decide (x.1 < y.1) || (decide (x.1 = y.1) && decide (x.2 < y.2))) := by
  unfold ltOf cmpE Lib.compareInt
  by_cases h1 : x.1 < y.1
  · simp [h1]
  · by_cases h2 : x.1 > y.1
    · have : ¬ x.1 = y.1 := by omega
      simp [h1, h2, this]
    · have h3 : x.1 = y.1 := by omega
      by_cases h4 : x.2 < y.2
      · simp [h3, h4]
      · by_cases h5 : x.2 > y.2 <;> simp [h3, h4, h5]
theorem swoE : SWO (ltOf cmpE) where
  irrefl x := by rw [cmpE_lt]; simp
  trans x y z h1 h2 := by rw [cmpE_lt] at *; simp at *; omega
  ntrans x y z h1 h2 := by rw [cmpE_lt] at *; simp at *; omega
end Ytnpflgeenecaeaa
shelf_lay_g SlLaysF0.n6 Slsf 6 at Try 82 as Try.sortEdge
namespace Ytnpflgeenecaeaa
theorem sort_at (blk off cap : Nat) (d : Array Ed) (w : World) (hH : HoldsK encE 2 w blk off d) (hblk : blk < w.heap.size) (hsz : d.size < 4611686018427387904) :
    Calls Try.prog 82 #[.slice (some ⟨blk, off, none⟩) d.size cap, .func (.func 83) #[] #[]] w fun e w' =>
      e = .returned (.tuple #[]) ∧ ∃ d' n os, PermIn 0 d.size d d' ∧ SortedIn (ltOf cmpE) 0 d.size d' ∧ w' = sortWorldK encE 2 w blk off n d' os := by
  have eg : ∀ args w, (callFunc 83 args).run Try.prog w = .ok (.enter 83 args) w := enters_of Try.func83 (by kernel_rfl) rfl
  exact AnyQ.slices_SortFunc Try.sortEdge 2 Try.isAgg107 Try.sizeOf107 encE (fun _ => rfl) (fun x v hv => by simp [encE] at hv; rcases hv with rfl | rfl <;> rfl) cmpE swoE 83 #[] blk off cap d w eg (fun _ _ _ _ x y => compareEdges_at x y _) hH hblk hsz
end Ytnpflgeenecaeaa
end Go.Proofs
namespace Go.Proofs.Ytnpflgeenecaeaa
set_option linter.all false
open Go Go.Awp Go.Sort Go.Shelf
set_option maxRecDepth 100000
set_option maxHeartbeats 4000000
set_option pp.deepTerms true

def eE (e : Ed) : List AV := [.int .i64 e.1, .int .i64 e.2]
def cEs (l : List Ed) : List AV := l.flatMap eE
@[simp] theorem eE_length (v : Ed) : (eE v).length = 2 := rfl
@[simp] theorem cEs_nil : cEs [] = [] := rfl
@[simp] theorem cEs_length (l : List Ed) : (cEs l).length = l.length * 2 := cat_length eE_length l
@[simp] theorem cEs_num (l : List Ed) : (cEs l).all AV.num = true := by
  induction l with
  | nil => rfl
  | cons a l ih => simp only [cEs, List.flatMap_cons, List.all_append] at ih ⊢; rw [ih]; rfl
@[simp] theorem cEs_flat (l : List Ed) : (cEs l).all AV.flat = true := num_flat (cEs_num l)
@[simp] theorem cEs_drop {l : List Ed} {k : Nat} (h : k < l.length) : (cEs l).drop (k * 2) = .int .i64 l[k].1 :: .int .i64 l[k].2 :: cEs (l.drop (k + 1)) := cat_drop_at eE_length h
@[simp] theorem cEs_take (l : List Ed) (k : Nat) : (cEs l).take (k * 2) = cEs (l.take k) := cat_take eE_length l k
@[simp] theorem cEs_get0 {l : List Ed} {k : Nat} (h : k < l.length) : (cEs l)[k * 2]? = some (.int .i64 l[k].1) := cat_get eE_length (j := 0) h (by omega)
@[simp] theorem cEs_get1 {l : List Ed} {k : Nat} (h : k < l.length) : (cEs l)[k * 2 + 1]? = some (.int .i64 l[k].2) := cat_get eE_length (j := 1) h (by omega)
@[simp high] theorem cEs_load {l : List Ed} {k : Nat} (h : k < l.length) : loadL true 2 (cEs l) (k * 2) = some (.agg [.int .i64 l[k].1, .int .i64 l[k].2]) := by
  show (if k * 2 + 2 ≤ (cEs l).length then _ else _) = _
  rw [if_pos (by rw [cEs_length]; omega), cEs_drop h]; rfl
@[simp] theorem cEs_append (l l' : List Ed) : cEs l ++ cEs l' = cEs (l ++ l') := by simp [cEs]
theorem cEs_one (x y : Int) : [.int .i64 x, .int .i64 y] = cEs [(x, y)] := rfl
@[simp] theorem cEs_push (l : List Ed) (x y : Int) : cEs l ++ [.int .i64 x, .int .i64 y] = cEs (l ++ [(x, y)]) := by rw [cEs_one, cEs_append]
@[simp] theorem cEs_pures (l : List Ed) : (∀ (x : AV), x ∈ cEs l → x.isPure = true) = True := eq_true (List.all_eq_true.1 (pure_flat (cEs_flat l)))


theorem newB_numE {l : List AV} (h : l.all AV.num = true) : ∀ x ∈ l, x.newB = true := by
  intro x hx
  have := List.all_eq_true.1 h x hx
  cases x <;> first | (cases this; done) | rfl
@[simp] theorem cEs_newB (l : List Ed) : (∀ (x : AV), x ∈ cEs l → x.newB = true) = True := eq_true (newB_numE (cEs_num l))

/-- Edges in ascending order. -/
def ltE (x y : Ed) : Prop := x.1 < y.1 ∨ x.1 = y.1 ∧ x.2 < y.2
theorem sorted_unique {α : Type} {lt : α → α → Prop} (irr : ∀ x, ¬ lt x x) (tr : ∀ x y z, lt x y → lt y z → lt x z) : ∀ {a b : List α}, a.Pairwise lt → b.Pairwise lt → (∀ x, x ∈ a ↔ x ∈ b) → a = b
  | [], [], _, _, _ => rfl
  | [], y :: b, _, _, h => absurd ((h y).2 (List.mem_cons_self ..)) (by simp)
  | x :: a, [], _, _, h => absurd ((h x).1 (List.mem_cons_self ..)) (by simp)
  | x :: a, y :: b, ha, hb, h => by
    obtain ⟨ha1, ha2⟩ := List.pairwise_cons.1 ha
    obtain ⟨hb1, hb2⟩ := List.pairwise_cons.1 hb
    have e : x = y := by
      rcases List.mem_cons.1 ((h x).1 (List.mem_cons_self ..)) with e | hx
      · exact e
      · rcases List.mem_cons.1 ((h y).2 (List.mem_cons_self ..)) with e | hy
        · exact e.symm
        · exact absurd (tr _ _ _ (ha1 y hy) (hb1 x hx)) (irr x)
    subst e
    congr 1
    refine sorted_unique irr tr ha2 hb2 fun z => ⟨fun hz => ?_, fun hz => ?_⟩
    · rcases List.mem_cons.1 ((h z).1 (List.mem_cons_of_mem _ hz)) with rfl | g
      · exact absurd (ha1 _ hz) (irr _)
      · exact g
    · rcases List.mem_cons.1 ((h z).2 (List.mem_cons_of_mem _ hz)) with rfl | g
      · exact absurd (hb1 _ hz) (irr _)
      · exact g
theorem ltE_irr (x : Ed) : ¬ ltE x x := by unfold ltE; omega
theorem ltE_tr (x y z : Ed) : ltE x y → ltE y z → ltE x z := by unfold ltE; omega
theorem lt_of_not {x y : Ed} (h : ltOf cmpE y x = false) (hne : x ≠ y) : ltE x y := by
  rw [cmpE_lt] at h
  simp at h
  unfold ltE
  obtain ⟨x1, x2⟩ := x
  obtain ⟨y1, y2⟩ := y
  simp at h
  have : ¬ (x1 = y1 ∧ x2 = y2) := fun ⟨e1, e2⟩ => hne (by rw [e1, e2])
  simp only
  omega
theorem sorted_to {d d' : Array Ed} {es : List Ed} (hp : PermIn 0 d.size d d') (hs : SortedIn (ltOf cmpE) 0 d.size d') (hn : d.toList.Nodup) (he : es.Pairwise ltE) (hm : ∀ x, x ∈ es ↔ x ∈ d.toList) : d'.toList = es := by
  obtain ⟨h1, _, h2⟩ := hp
  have h3 : d'.toList.Perm d.toList := by
    have e1 : d'.extract 0 d.size = d' := by rw [← h1]; exact Array.extract_size
    have e2 : d.extract 0 d.size = d := Array.extract_size
    rw [e1, e2] at h2
    exact h2
  refine sorted_unique ltE_irr ltE_tr ?_ he fun x => by rw [hm]; exact h3.mem_iff
  have hn' : d'.toList.Nodup := h3.nodup_iff.2 hn
  rw [List.pairwise_iff_getElem]
  intro i j hi hj hij
  have hi' : i < d'.size := by simpa using hi
  have hj' : j < d'.size := by simpa using hj
  have g := hs i j (Nat.zero_le _) hij (by omega)
  rw [getElem!_pos d' i hi', getElem!_pos d' j hj'] at g
  rw [Array.getElem_toList, Array.getElem_toList]
  refine lt_of_not g fun e => ?_
  have := (List.pairwise_iff_getElem.1 hn') i j hi hj hij
  rw [Array.getElem_toList, Array.getElem_toList] at this
  exact this e
/-- Cells of edges as what they are. -/
theorem cE_at {es : List Ed} {i : Nat} {a : AV} (h : (cEs es)[i]? = some a) : ∃ n : Int, a = .int .i64 n ∧ i < es.length * 2 ∧ (flatK encE 2 es.toArray)[i]! = .int .i64 n := by
  have hi : i < es.length * 2 := by
    have := (List.getElem?_eq_some_iff.1 h).1
    rwa [cEs_length] at this
  have hk : i / 2 < es.length := by omega
  have hf : (flatK encE 2 es.toArray)[i]! = (encE es.toArray[i / 2]!)[i % 2]! := get_flatK encE 2 es.toArray i (by simpa using hi)
  have hg : es.toArray[i / 2]! = es[i / 2] := by rw [getElem!_pos _ _ (by simpa using hk)]; simp
  rw [hf, hg]
  rcases Nat.mod_two_eq_zero_or_one i with e | e
  · have e2 : i = i / 2 * 2 := by omega
    rw [e2, cEs_get0 hk] at h
    cases h
    exact ⟨_, rfl, hi, by rw [e]; rfl⟩
  · have e2 : i = i / 2 * 2 + 1 := by omega
    rw [e2, cEs_get1 hk] at h
    cases h
    exact ⟨_, rfl, hi, by rw [e]; rfl⟩
theorem c_sort {es es' : List Ed} (hn : es.Nodup) (hlen : es.length ≤ 1000000) (h0 : es ≠ []) (he : es'.Pairwise ltE) (hm : ∀ x, x ∈ es' ↔ x ∈ es) :
    Fun Try.prog 82 [.slc 0 0 es.length 2, .clo 83 [] []] [.blk false false 107 (cEs es)] (.tup []) [.blk false false 107 (cEs es')] := by
  intro map w vs X hX hfree hW hargs o a next Q hnx
  obtain ⟨ha1, ha2⟩ := hargs
  obtain ⟨vs⟩ := vs
  match vs, ha1 with
  | [v0, v1], _ =>
    have hv0 := ha2 0 _ v0 rfl rfl
    have hv1 := ha2 1 _ v1 rfl rfl
    have hpos : 0 < es.length := List.length_pos_iff.2 h0
    rcases hW.root 0 _ _ _ _ rfl with ⟨_, q2, _⟩ | ⟨b, N, arr, q1, q2, q3, q4, q6, q5⟩
    · have := congrArg List.length q2
      rw [cEs_length] at this
      simp at this; omega
    · obtain ⟨n0, hn0, hv0⟩ : ∃ n0, n0 = es.length ∧ VRel w _ (.slc 0 0 n0 2) v0 := ⟨_, rfl, hv0⟩
      cases hv0 with
      | slcv _ _ h => rw [q1] at h; cases h
      | slc _ _ _ _ b' N' cap hm' k1 k2 k3 =>
        rw [q1] at hm'
        cases hm'
        cases hv1 with
        | clo _ _ _ vf vc g1 g2 _ _ =>
          obtain rfl : vf = #[] := Array.eq_empty_of_size_eq_zero g1.symm
          obtain rfl : vc = #[] := Array.eq_empty_of_size_eq_zero g2.symm
          replace q1 : map 0 = some (some (b, N' + 1)) := q1
          have hc := q2.cells
          have hbl := block_lt hc
          have hval : ∀ j, j < es.length * 2 → ∃ n : Int, arr[j]? = some (.int .i64 n) ∧ (flatK encE 2 es.toArray)[j]! = .int .i64 n := fun j hj => by
            have hx : (cEs es)[j]? = some ((cEs es)[j]'(by simpa using hj)) := List.getElem?_eq_getElem _
            obtain ⟨v, u1, u2, u3⟩ := q5 j _ hx
            obtain ⟨n, e1, _, e2⟩ := cE_at hx
            rw [e1] at u3
            cases u3
            exact ⟨n, u1, e2⟩
          have hH : HoldsK encE 2 w b 0 es.toArray := fun j hj => by
            obtain ⟨n, e1, e2⟩ := hval j (by simpa using hj)
            refine ⟨?_, ?_⟩
            · rw [Nat.zero_add, cell_at hc, e1, e2]; rfl
            · simp [World.frozen?, hc]
          have hcall := sort_at b 0 cap es.toArray w hH hbl (by simp; omega)
          have en : n0 = es.toArray.size := by simp [hn0]
          subst en
          have hrun : ∀ args w, (callFunc 82 args).run Try.prog w = .ok (.enter 82 args) w := enters_of Try.func82 (by kernel_rfl) rfl
          rw [hrun, Oper.upon_enter]
          refine hcall.mono fun e w' ⟨he', d', n, os, hp, hs, hw'⟩ => ?_
          subst he'
          have hd : d'.toList = es' := sorted_to hp hs (by simpa using hn) he (by simpa using hm)
          have hsz : d'.size = es.length := by have := hp.1; simpa using this
          have hel : es'.length = es.length := by rw [← hd]; simpa using hsz
          obtain rfl : d' = es'.toArray := by rw [← hd]
          have hh : w'.heap = w.heap.modify b (onCells (putCells id 0 (flatK encE 2 es'.toArray))) ++ os := by rw [hw']; rfl
          have hhb : w'.heap[b]? = some (.cells (putCells id 0 (flatK encE 2 es'.toArray) arr) 107 (0, 0)) := by
            rw [hh, Array.getElem?_append_left (by simpa using hbl), Array.getElem?_modify, if_pos rfl, hc]; rfl
          have hho : ∀ j, j < w.heap.size → j ≠ b → w'.heap[j]? = w.heap[j]? := fun j hj hne => by
            rw [hh, Array.getElem?_append_left (by simpa using hj), Array.getElem?_modify, if_neg (fun e => hne e.symm)]
          have hmut : ∀ b', mutOf map [Root.blk false false 107 (cEs es')] b' ↔ b' = b := fun b' => by
            constructor
            · rintro ⟨r, N1, n1, x1, e1, c1, h1, h2⟩
              match r, h1 with
              | 0, _ => rw [q1] at h2; cases h2; rfl
            · rintro rfl
              exact ⟨0, _, _, _, _, _, rfl, q1⟩
          have hmut0 : ∀ b', mutOf map [Root.blk false false 107 (cEs es)] b' ↔ b' = b := fun b' => by
            constructor
            · rintro ⟨r, N1, n1, x1, e1, c1, h1, h2⟩
              match r, h1 with
              | 0, _ => rw [q1] at h2; cases h2; rfl
            · rintro rfl
              exact ⟨0, _, _, _, _, _, rfl, q1⟩
          have hpa : (putCells id 0 (flatK encE 2 es'.toArray) arr).size = arr.size := by simp [putCells]
          have hroot : RootRel w' (env map [Root.blk false false 107 (cEs es')] X w.heap.size) 0 false false 107 (cEs es') := by
            refine .inr ⟨b, _, _, q1, RowAt.of_cells _ hhb, ?_, ?_, (fun h => by cases h), fun i a' ha' => ?_⟩
            · show (putCells id 0 (flatK encE 2 es'.toArray) arr).size = _
              rw [hpa]; exact q3
            · rw [hpa, cEs_length, hel]; rw [cEs_length] at q4; exact q4
            · obtain ⟨n, rfl, hi, hv⟩ := cE_at ha'
              refine ⟨.int .i64 n, ?_, rfl, .int _ _⟩
              obtain ⟨n1, g3, _⟩ := hval i (by omega)
              have hia : i < arr.size := (Array.getElem?_eq_some_iff.1 g3).1
              simp only [putCells, Array.getElem?_mapIdx, g3, Option.map_some]
              rw [if_pos ⟨Nat.zero_le _, by rw [size_flatK]; simpa using hi⟩, Nat.sub_zero, hv]; rfl
          refine hnx _ w' ⟨map, .tup [], [.blk false false 107 (cEs es')], ⟨rfl, rfl⟩, .tup [] #[] rfl (fun i a v h => by simp at h), ⟨fun r new box e cells hr => ?_, fun r r' b N N' n1 n2 x1 x2 e1 e2 c1 c2 hr hr' _ _ => ?_⟩, fun r new box e cells hr h => ?_, fun r hr => ?_, ⟨by rw [hw']; rfl, by rw [hw']; rfl, by rw [hw']; rfl, by rw [hh]; simp, fun b' hb' hn => hho b' hb' fun e => hn ((hmut0 b').2 e), fun _ _ h => h, fun _ _ => rfl, Nat.le_refl _, fun b' _ h => (hmut0 b').2 ((hmut b').1 h)⟩⟩
          · match r, hr with
            | 0, hr => cases hr; exact hroot
          · match r, r', hr, hr' with
            | 0, 0, _, _ => rfl
          · match r, h with
            | 0, _ => simp at hr
          · match r, hr with
            | 0, _ => exact ⟨_, _, _, _, rfl⟩
theorem c_len0 : Fun Try.prog 95 [.int .u64 0] [] (.int .i64 0) [] := by
  intro map w vs X hX hfree hW hargs o a next Q hnx
  obtain ⟨ha1, ha2⟩ := hargs
  obtain ⟨vs⟩ := vs
  match vs, ha1 with
  | [v0], _ =>
    have hv0 := ha2 0 _ v0 rfl rfl
    cases hv0
    have hcall := Any.bits_Len (SlLaysF0.n15.bits (P := Try.prog) { Try.sortEdge with }) 0 w (by omega) (by omega)
    have hrun : ∀ args w, (callFunc 95 args).run Try.prog w = .ok (.enter 95 args) w := enters_of Try.func95 (by kernel_rfl) rfl
    rw [hrun, Oper.upon_enter]
    refine hcall.mono fun e w' ⟨he, hw'⟩ => ?_
    subst he; subst hw'
    exact hnx _ w' ⟨map, .int .i64 0, [], ⟨rfl, rfl⟩, .int _ _, hW, fun r _ _ _ _ _ h => by simp at h, fun r h => by simp at h, Step.refl _ _ _⟩
theorem c_insert0 : Fun Try.prog 101 [.view false [] 0, .int .i64 0, .int .i64 0, .clo 83 [] []] [] (.tup []) [] := by
  refine FnSpec.walkF dr_ok Try.func101 rfl (by kernel_rfl) rfl rfl rfl (by simp) ?_
  have e1 : IntKind.i64.wrap 1 = 1 := by decide
  simp [e1]
  refine loopG_of (α := Unit) (fun _ => True) (fun _ => 0) (fun _ => [(8, .int .i64 1), (2, .int .i64 0)]) (fun _ => []) () trivial (weak_UH rfl (by simp)) fun _ _ => ?_
  simp
theorem c_pdq0 : Fun Try.prog 94 [.view false [] 0, .int .i64 0, .int .i64 0, .int .i64 0, .clo 83 [] []] [] (.tup []) [] := by
  refine FnSpec.walkF dr_ok Try.func94 rfl (by kernel_rfl) rfl rfl rfl (by simp) ?_
  have e0 : IntKind.i64.wrap 0 = 0 := by decide
  simp
  refine loopG_of (α := Unit) (fun _ => True) (fun _ => 0) (fun _ => [(0, .view false [] 0), (1, .int .i64 0), (2, .int .i64 0), (3, .int .i64 0), (4, .clo 83 [] [])]) (fun _ => []) () trivial (weak_UH rfl (by simp)) fun _ _ => ?_
  simp [e0]
  (first | refine callG_r ?_ | refine callD_r ?_); simp; (first | refine callN_flat (by with_reducible first | exact c_insert0) rfl ?_ | refine callN_new (by with_reducible first | exact c_insert0) ?_ | refine callM_flat (by with_reducible first | exact c_insert0) rfl ?_ | refine callM_new (by with_reducible first | exact c_insert0) ?_)
  simp
theorem c_sort0 : Fun Try.prog 82 [.view false [] 0, .clo 83 [] []] [] (.tup []) [] := by
  refine FnSpec.walkF dr_ok Try.func82 rfl (by kernel_rfl) rfl rfl rfl (by simp) ?_
  have e0 : IntKind.u64.wrap 0 = 0 := by decide
  simp [e0]
  (first | refine callG_r ?_ | refine callD_r ?_); simp; (first | refine callN_flat (by with_reducible first | exact c_len0) rfl ?_ | refine callN_new (by with_reducible first | exact c_len0) ?_ | refine callM_flat (by with_reducible first | exact c_len0) rfl ?_ | refine callM_new (by with_reducible first | exact c_len0) ?_)
  simp
  (first | refine callG_r ?_ | refine callD_r ?_); simp; (first | refine callN_flat (by with_reducible first | exact c_pdq0) rfl ?_ | refine callN_new (by with_reducible first | exact c_pdq0) ?_ | refine callM_flat (by with_reducible first | exact c_pdq0) rfl ?_ | refine callM_new (by with_reducible first | exact c_pdq0) ?_)
  simp
end Go.Proofs.Ytnpflgeenecaeaa
