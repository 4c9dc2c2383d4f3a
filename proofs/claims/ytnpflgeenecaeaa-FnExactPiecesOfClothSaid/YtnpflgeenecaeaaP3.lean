/- Contracts: the pieces of a cloth, as the program reckons them: the walk.
Conditions: none. -/
import Derived.Test.YtnpflgeenecaeaaP2
namespace Go.Proofs.Ytnpflgeenecaeaa
set_option linter.all false
open Go Go.Awp
set_option maxRecDepth 100000
set_option maxHeartbeats 4000000
set_option pp.deepTerms true

structure Vld (c : Clo) : Prop where
  pl : c.pl.length ≤ 64
  th : c.th.length ≤ 256
  ok : ∀ t ∈ c.th, ThOk c.pl.length t
theorem vld_of {c : Clo} (h : vldC c = true) : Vld c := by
  unfold vldC at h
  simp only [Bool.and_eq_true, decide_eq_true_eq, List.all_eq_true] at h
  obtain ⟨⟨⟨⟨h1, h2⟩, h3⟩, h4⟩, h5⟩ := h
  refine ⟨h1, h3, fun t ht => ?_⟩
  have := h4 t ht
  simp only [thrB, inB, Bool.and_eq_true, decide_eq_true_eq] at this
  exact ⟨by omega, by omega, by omega, by omega⟩
theorem adj1_len (t : Th) (p : Int) : (adj1 t p).length ≤ 2 := by
  unfold adj1
  split <;> split <;> simp
theorem adj_len (p : Int) : ∀ (th : List Th), (adj th p).length ≤ 2 * th.length
  | [] => by simp [adj]
  | t :: th => by
    have h1 := adj_len p th
    have h2 := adj1_len t p
    unfold adj at *
    simp only [List.flatMap_cons, List.length_append, List.length_cons]
    omega
theorem row_at {es : List Ent} {p : Int} {x : Ent} (h : es.find? (fun y => y.1 == p) = some x) : rowOf es p = x.2.2 := by
  unfold rowOf; rw [h]; rfl

/-- How many places have no number yet. -/
def negs (xs : List Int) : Nat := xs.countP (· < 0)
theorem negs_le (xs : List Int) : negs xs ≤ xs.length := List.countP_le_length
theorem negs_set {xs : List Int} {p : Nat} {m : Int} (h : p < xs.length) (h0 : nth xs p < 0) (hm : 0 ≤ m) : negs (xs.set p m) + 1 = negs xs := by
  rw [nth_at h] at h0
  unfold negs
  rw [List.countP_set h]
  have h1 : 0 < xs.countP (· < 0) := List.countP_pos_iff.2 ⟨xs[p], List.getElem_mem h, by simpa using h0⟩
  have e1 : decide (xs[p] < 0) = true := decide_eq_true h0
  have e2 : decide (m < 0) = false := decide_eq_false (by omega)
  simp only [e1, e2, if_true]
  simp
  omega
theorem cIs_mid (a b : List Int) (x : Int) : (cIs (a ++ x :: b))[a.length]? = some (.int .i64 x) := by
  unfold cIs
  rw [List.getElem?_map, List.getElem?_append_right (Nat.le_refl _), Nat.sub_self]; rfl
structure Inv4 (n : Nat) (th : List Th) (i : Nat) (out0 : List Int) (m : Int) (x : List Int × List Int × List Int) : Prop where
  di : DI n th i out0 m x.1 x.2.1
  small : negs x.1 * 600 + x.2.1.length ≤ 38401
theorem c_Pieces (c : Clo) (hs : c.Small) (hv : vldC c = true) {xs : List Int} {kk : Int} (hc : Char c.pl.length (Pa c.th) xs kk) : Fun Try.prog 9 [c.av] [] (.tup [.slc 0 0 c.pl.length 1, .int .i64 kk, .bool true]) [.blk true false 2 (cIs xs)] := by
  have hV := vld_of hv
  refine FnSpec.walkW dr_ok Try.func9 rfl (by kernel_rfl) rfl rfl rfl (by simp) ?_
  simp
  (first | refine callG_r ?_ | refine callD_r ?_); simp; (first | refine callN_flat (by with_reducible first | exact c_ValidCloth c hs) rfl ?_ | refine callN_new (by with_reducible first | exact c_ValidCloth c hs) ?_ | refine callM_flat (by with_reducible first | exact c_ValidCloth c hs) rfl ?_ | refine callM_new (by with_reducible first | exact c_ValidCloth c hs) ?_)
  simp [hv]
  obtain ⟨h1, h2, h3, h4⟩ := hs
  refine make_r 0 Try.underlying83 ?_
  simp
  refine loopG_of (α := Nat × Heap × List Ent) (Inv1 c) (fun x => c.th.length - x.1) (fun x => [(1, .ptr 0 0), (5, .mp 1), (19, .view false (cTs c.th) c.th.length), (20, .int .i64 c.th.length), (21, .int .i64 x.1)]) (fun x => x.2.1)
    (0, [cloB c, .blk true true 0 []], []) ?_ ?_ fun x hx => ?_
  · exact ⟨by simp, by simp, ⟨by simp [rowA, entK, entS], by simp, by simp, by simp, by simp, by simp⟩, fun p => by simp [rowOf, adj]⟩
  · exact weak_UH rfl (by simp)
  obtain ⟨k, H, es⟩ := x
  obtain ⟨i1, i2, i3, i4⟩ := hx
  simp only at i1 i2 i3 i4
  have hw := nat_wrap (k := k) (by omega)
  by_cases b : k < c.th.length
  · obtain ⟨t1, t2, t3, t4⟩ := hV.ok _ (List.getElem_mem b)
    have hpl := hV.pl
    have hth := hV.th
    have ha := adj_take b
    simp [b, hw]
    generalize c.th[k] = T at *
    obtain ⟨A, B, L⟩ := T
    simp only at t1 t2 t3 t4
    have IA : I64 A := by unfold I64; omega
    have IB : I64 B := by unfold I64; omega
    have w1 : WfK [A] := fun y hy => by rw [List.mem_singleton.1 hy]; omega
    have w2 : WfK [B] := fun y hy => by rw [List.mem_singleton.1 hy]; omega
    refine lookD_r Try.underlying83 map_key (k := [A]) rfl w1 zero_row (i3.at _) rfl rfl ?_
    rw [getM_ent]
    cases hf : es.find? (fun x => x.1 == A) with
    | some x =>
      have hx := List.mem_of_find?_eq_some hf
      have hr := i3.row x hx
      have hrl : x.2.1 < H.length := (List.getElem?_eq_some_iff.1 hr).1
      have hra : ∀ t : Heap, (H ++ t)[x.2.1]? = some (.blk true false 2 (cIs x.2.2)) := fun t => by rw [List.getElem?_append_left hrl]; exact hr
      have hxl : x.2.2.length ≤ 512 := by
        have := adj_len A (c.th.take k)
        rw [← i4, row_at hf, List.length_take] at this; omega
      have hx1 := i3.off x hx
      obtain ⟨es1, hp⟩ := push_upd (c := c) (t := [.blk true true 77 [.int .i64 A, .int .i64 B, .flt .f32 L], .blk true false 2 (cIs [B]), .blk true false 2 (cIs (x.2.2 ++ [B]))]) (j := 2) i3 i2 hf rfl
      simp [hra]
      refine ⟨by omega, by omega, by omega, ?_⟩
      have hm := map_laid (q := x.2.1) (x := .gone) (i3.at [.blk true true 77 [.int .i64 A, .int .i64 B, .flt .f32 L], .blk true false 2 (cIs [B]), .blk true false 2 (cIs (x.2.2 ++ [B]))]) (fun e => hx1 e.symm)
      refine putD_r Try.underlying83 map_key (k := [A]) rfl w1 hm rfl rfl rfl rfl ?_
      simp
      refine ⟨map_liv hm, ?_⟩
      generalize setL (setL (H ++ _) _ _) _ _ = H1 at hp ⊢
      have e0 : H1[H.length]? = some (.blk true true 77 [.int .i64 A, .int .i64 B, .flt .f32 L]) := hp.at_ 0
      have el : H.length < H1.length := by rw [hp.len]; simp
      have eT : ∀ t : Heap, (H1 ++ t)[H.length]? = some (.blk true true 77 [.int .i64 A, .int .i64 B, .flt .f32 L]) := fun t => by rw [List.getElem?_append_left el]; exact e0
      have j3 := hp.rows
      simp [e0, eT]
      refine lookD_r Try.underlying83 map_key (k := [B]) rfl w2 zero_row (by simpa using j3.at []) rfl rfl ?_
      rw [getM_ent]
      cases hg : es1.find? (fun x => x.1 == B) with
      | some y =>
        have hy := List.mem_of_find?_eq_some hg
        have gr := j3.row y hy
        have grl : y.2.1 < H1.length := (List.getElem?_eq_some_iff.1 gr).1
        have gra : ∀ t : Heap, (H1 ++ t)[y.2.1]? = some (.blk true false 2 (cIs y.2.2)) := fun t => by rw [List.getElem?_append_left grl]; exact gr
        have gyl : y.2.2.length ≤ 513 := by
          have := adj_len B (c.th.take k)
          rw [← row_at hg, hp.row, i4]
          rw [List.length_take] at this
          split <;> simp <;> omega
        have gne : ¬ y.2.1 = H.length := fun e => by rw [e, e0] at gr; cases gr
        obtain ⟨es2, hq⟩ := push_upd (c := c) (t := [.blk true false 2 (cIs [A]), .blk true false 2 (cIs (y.2.2 ++ [A]))]) (j := 1) j3 hp.box hg rfl
        have gy1 := j3.off y hy
        simp [e0, eT, gra, gr, gne]
        refine ⟨by omega, by omega, ?_⟩
        have hm2 := map_laid (q := y.2.1) (x := .gone) (j3.at [.blk true false 2 (cIs [A]), .blk true false 2 (cIs (y.2.2 ++ [A]))]) (fun e => gy1 e.symm)
        refine putD_r Try.underlying83 map_key (k := [B]) rfl w2 hm2 rfl rfl rfl rfl ?_
        simp
        refine ⟨map_liv hm2, ?_⟩
        generalize setL (setL (H1 ++ _) _ _) _ _ = H2 at hq ⊢
        have hfin : Inv1 c (k + 1, H2, es2) := by
          refine ⟨by simp; omega, hq.box, hq.rows, fun z => ?_⟩
          show rowOf es2 z = adj (c.th.take (k + 1)) z
          rw [ha, hq.row, hp.row, i4]
          unfold adj1
          by_cases eA : z = A
          · by_cases eB : z = B
            · subst eA; subst eB; simp
            · have : ¬ B = z := fun e => eB e.symm
              subst eA; simp [eB, this]
          · have eA' : ¬ A = z := fun e => eA e.symm
            by_cases eB : z = B
            · subst eB; simp [eA, eA']
            · have eB' : ¬ B = z := fun e => eB e.symm
              simp [eA, eB, eA', eB']
        refine loopK_next (k + 1, H2, es2) (by simp; omega) hfin (weak_UH rfl (by simp [hw]))
      | none =>
        obtain ⟨es2, hq⟩ := push_add (c := c) (t := [.blk true false 2 (cIs [A]), .blk true false 2 (cIs [A])]) (j := 1) j3 hp.box IB hg rfl
        simp [e0, eT]
        have hm2 := j3.at [.blk true false 2 (cIs [A]), .blk true false 2 (cIs [A])]
        refine putD_r Try.underlying83 map_key (k := [B]) rfl w2 hm2 rfl rfl rfl rfl ?_
        simp
        refine ⟨by have := map_liv hm2; simpa using this, ?_⟩
        generalize setL (H1 ++ _) _ _ = H2 at hq ⊢
        have hfin : Inv1 c (k + 1, H2, es2) := by
          refine ⟨by simp; omega, hq.box, hq.rows, fun z => ?_⟩
          show rowOf es2 z = adj (c.th.take (k + 1)) z
          rw [ha, hq.row, hp.row, i4]
          unfold adj1
          by_cases eA : z = A
          · by_cases eB : z = B
            · subst eA; subst eB; simp
            · have : ¬ B = z := fun e => eB e.symm
              subst eA; simp [eB, this]
          · have eA' : ¬ A = z := fun e => eA e.symm
            by_cases eB : z = B
            · subst eB; simp [eA, eA']
            · have eB' : ¬ B = z := fun e => eB e.symm
              simp [eA, eB, eA', eB']
        refine loopK_next (k + 1, H2, es2) (by simp; omega) hfin (weak_UH rfl (by simp [hw]))
    | none =>
      obtain ⟨es1, hp⟩ := push_add (c := c) (t := [.blk true true 77 [.int .i64 A, .int .i64 B, .flt .f32 L], .blk true false 2 (cIs [B]), .blk true false 2 (cIs [B])]) (j := 2) i3 i2 IA hf rfl
      simp
      have hm := i3.at [.blk true true 77 [.int .i64 A, .int .i64 B, .flt .f32 L], .blk true false 2 (cIs [B]), .blk true false 2 (cIs [B])]
      refine putD_r Try.underlying83 map_key (k := [A]) rfl w1 hm rfl rfl rfl rfl ?_
      simp
      refine ⟨by have := map_liv hm; simpa using this, ?_⟩
      generalize setL (H ++ _) _ _ = H1 at hp ⊢
      have e0 : H1[H.length]? = some (.blk true true 77 [.int .i64 A, .int .i64 B, .flt .f32 L]) := hp.at_ 0
      have el : H.length < H1.length := by rw [hp.len]; simp
      have eT : ∀ t : Heap, (H1 ++ t)[H.length]? = some (.blk true true 77 [.int .i64 A, .int .i64 B, .flt .f32 L]) := fun t => by rw [List.getElem?_append_left el]; exact e0
      have j3 := hp.rows
      simp [e0, eT]
      refine lookD_r Try.underlying83 map_key (k := [B]) rfl w2 zero_row (by simpa using j3.at []) rfl rfl ?_
      rw [getM_ent]
      cases hg : es1.find? (fun x => x.1 == B) with
      | some y =>
        have hy := List.mem_of_find?_eq_some hg
        have gr := j3.row y hy
        have grl : y.2.1 < H1.length := (List.getElem?_eq_some_iff.1 gr).1
        have gra : ∀ t : Heap, (H1 ++ t)[y.2.1]? = some (.blk true false 2 (cIs y.2.2)) := fun t => by rw [List.getElem?_append_left grl]; exact gr
        have gyl : y.2.2.length ≤ 513 := by
          have := adj_len B (c.th.take k)
          rw [← row_at hg, hp.row, i4]
          rw [List.length_take] at this
          split <;> simp <;> omega
        have gne : ¬ y.2.1 = H.length := fun e => by rw [e, e0] at gr; cases gr
        obtain ⟨es2, hq⟩ := push_upd (c := c) (t := [.blk true false 2 (cIs [A]), .blk true false 2 (cIs (y.2.2 ++ [A]))]) (j := 1) j3 hp.box hg rfl
        have gy1 := j3.off y hy
        simp [e0, eT, gra, gr, gne]
        refine ⟨by omega, by omega, ?_⟩
        have hm2 := map_laid (q := y.2.1) (x := .gone) (j3.at [.blk true false 2 (cIs [A]), .blk true false 2 (cIs (y.2.2 ++ [A]))]) (fun e => gy1 e.symm)
        refine putD_r Try.underlying83 map_key (k := [B]) rfl w2 hm2 rfl rfl rfl rfl ?_
        simp
        refine ⟨map_liv hm2, ?_⟩
        generalize setL (setL (H1 ++ _) _ _) _ _ = H2 at hq ⊢
        have hfin : Inv1 c (k + 1, H2, es2) := by
          refine ⟨by simp; omega, hq.box, hq.rows, fun z => ?_⟩
          show rowOf es2 z = adj (c.th.take (k + 1)) z
          rw [ha, hq.row, hp.row, i4]
          unfold adj1
          by_cases eA : z = A
          · by_cases eB : z = B
            · subst eA; subst eB; simp
            · have : ¬ B = z := fun e => eB e.symm
              subst eA; simp [eB, this]
          · have eA' : ¬ A = z := fun e => eA e.symm
            by_cases eB : z = B
            · subst eB; simp [eA, eA']
            · have eB' : ¬ B = z := fun e => eB e.symm
              simp [eA, eB, eA', eB']
        refine loopK_next (k + 1, H2, es2) (by simp; omega) hfin (weak_UH rfl (by simp [hw]))
      | none =>
        obtain ⟨es2, hq⟩ := push_add (c := c) (t := [.blk true false 2 (cIs [A]), .blk true false 2 (cIs [A])]) (j := 1) j3 hp.box IB hg rfl
        simp [e0, eT]
        have hm2 := j3.at [.blk true false 2 (cIs [A]), .blk true false 2 (cIs [A])]
        refine putD_r Try.underlying83 map_key (k := [B]) rfl w2 hm2 rfl rfl rfl rfl ?_
        simp
        refine ⟨by have := map_liv hm2; simpa using this, ?_⟩
        generalize setL (H1 ++ _) _ _ = H2 at hq ⊢
        have hfin : Inv1 c (k + 1, H2, es2) := by
          refine ⟨by simp; omega, hq.box, hq.rows, fun z => ?_⟩
          show rowOf es2 z = adj (c.th.take (k + 1)) z
          rw [ha, hq.row, hp.row, i4]
          unfold adj1
          by_cases eA : z = A
          · by_cases eB : z = B
            · subst eA; subst eB; simp
            · have : ¬ B = z := fun e => eB e.symm
              subst eA; simp [eB, this]
          · have eA' : ¬ A = z := fun e => eA e.symm
            by_cases eB : z = B
            · subst eB; simp [eA, eA']
            · have eB' : ¬ B = z := fun e => eB e.symm
              simp [eA, eB, eA', eB']
        refine loopK_next (k + 1, H2, es2) (by simp; omega) hfin (weak_UH rfl (by simp [hw]))
  · obtain rfl : k = c.th.length := by omega
    have hpl := hV.pl
    rw [List.take_length] at i4
    have hmap := i3.at [.blk true false 2 (cIs (List.replicate c.pl.length 0))]
    have hH1 := (List.getElem?_eq_some_iff.1 i3.map).1
    simp [i2]
    refine ⟨by omega, by omega, ?_⟩
    refine loopG_of (α := Nat) (fun j => j ≤ c.pl.length) (fun j => c.pl.length - j) (fun j => [(5, .mview true 0 (entK es) (entW es)), (8, .slc 0 0 c.pl.length 1), (9, .int .i64 0), (53, .int .i64 c.pl.length), (54, .int .i64 j)])
      (fun j => [.blk true false 2 (cIs (mixN (List.replicate c.pl.length (-1)) (List.replicate c.pl.length 0) j))]) 0 (by simp) ?_ fun j hj => ?_
    · refine Weak.trans (weak_freezeU (ws := entW es) (l1 := [(5, .mview true 0 (entK es) (entW es)), (8, .slc H.length 0 c.pl.length 1), (9, .int .i64 0), (53, .int .i64 c.pl.length), (54, .int .i64 0)]) (H1 := List.replicate H.length .gone ++ [.blk true false 2 (cIs (List.replicate c.pl.length 0))])
        (fun q => q < H.length) hmap hH1 (by simp [entW, entS]) (fun q a b ha hb => ?_) (by simp) (fun q nw bx e cc hq => ?_) (by simp)) ?_
      · unfold entS at ha; unfold entW at hb
        rw [List.getElem?_map] at ha hb
        cases hx : es[q]? with
        | none => rw [hx] at ha; cases ha
        | some x =>
          rw [hx] at ha hb
          simp only [Option.map_some, Option.some.injEq] at ha hb
          subst ha; subst hb
          have hxm := List.mem_of_getElem? hx
          have hr := i3.row x hxm
          have hrl := (List.getElem?_eq_some_iff.1 hr).1
          have := Froz.row (H := H ++ [.blk true false 2 (cIs (List.replicate c.pl.length 0))]) (F := fun q => q < H.length) x.2.1 x.2.2.length 2 (cIs x.2.2) (by rw [List.getElem?_append_left hrl]; exact hr) (by simp) hrl
          rwa [List.take_of_length_le (by simp)] at this
      · rw [List.getElem?_append] at hq ⊢
        simp only [List.length_replicate] at hq
        split at hq
        · rw [List.getElem?_replicate] at hq; split at hq <;> cases hq
        · rw [if_neg (by assumption)]; exact ⟨hq, by assumption⟩
      · refine weak_gc [(some H.length, 0)] ?_ ?_ ?_ ?_ ?_ <;> simp
    have hl : (List.replicate c.pl.length (-1 : Int)).length = (List.replicate c.pl.length (0 : Int)).length := by simp
    have hw2 := nat_wrap (k := j) (by omega)
    have hm := mixN_length j hl
    simp only [List.length_replicate] at hm
    by_cases b2 : j < c.pl.length
    · simp [b2, hw2, hm]
      refine ⟨by omega, loopK_next (j + 1) (by omega) (by omega) (weak_UH ?_ (by simp))⟩
      rw [mixN_set (by simpa using b2) hl (by simp)]
    · obtain rfl : j = c.pl.length := by omega
      rw [mixN_all (by simp) (by simp)]
      simp
      refine loopG_of (α := Nat × List Int × Int) (fun x => DF c.pl.length c.th x.1 x.2.1 x.2.2) (fun x => c.pl.length - x.1) (fun x => [(5, .mview true 0 (entK es) (entW es)), (8, .slc 0 0 c.pl.length 1), (9, .int .i64 x.2.2), (62, .int .i64 c.pl.length), (63, .int .i64 x.1)])
        (fun x => [.blk true false 2 (cIs x.2.1)]) (0, List.replicate c.pl.length (-1), 0) (df_start _ _) ?_ fun x hx => ?_
      · exact weak_UH rfl (by simp)
      obtain ⟨i, out, m⟩ := x
      simp only at hx
      have hle := hx.le
      have hlen := hx.len
      have hw3 := nat_wrap (k := i) (by omega)
      by_cases b3 : i < c.pl.length
      · have e3 : nth out i = out[i]'(by omega) := nth_at (by omega)
        simp [b3, hw3, hlen]
        have hwm : IntKind.i64.wrap (m + 1) = m + 1 := by have := hx.m0; have := hx.mi; exact wrap64 (by omega) (by omega)
        refine ⟨fun p0 => ?_, fun p0 => ?_⟩
        · rw [← e3] at p0
          exact loopK_next (i + 1, out, m) (by simp; omega) (df_skip hx b3 p0) (weak_UH rfl (by simp [hw3]))
        · rw [← e3] at p0
          refine loopG_of (α := List Int × List Int × List Int) (Inv4 c.pl.length c.th i out m) (fun x => negs x.1 * 600 + x.2.1.length) (fun x => [(5, .mview true 0 (entK es) (entW es)), (8, .slc 0 0 c.pl.length 1), (9, .int .i64 m), (11, .int .i64 i), (12, .slc 1 0 x.2.1.length 1), (62, .int .i64 c.pl.length), (63, .int .i64 i)])
            (fun x => [.blk true false 2 (cIs x.1), .blk true false 2 (cIs (x.2.1 ++ x.2.2))]) (out, [(i : Int)], []) ⟨di_start hx b3, ?_⟩ ?_ fun y hy => ?_
          · have := negs_le out; simp; omega
          · exact weak_UH rfl (by simp)
          obtain ⟨ou, st, jk⟩ := y
          obtain ⟨d, sm⟩ := hy
          simp only at d sm
          have hdl := d.len
          rcases List.eq_nil_or_concat st with rfl | ⟨st', p, rfl⟩
          · simp [hw3, hwm]
            refine loopK_next (i + 1, ou, m + 1) (by simp; omega) (di_end hV.ok hx b3 (by omega) d) ?_
            (refine weak_gc [(some 0, 0)] ?_ ?_ ?_ ?_ ?_ <;> simp)
          · rw [List.concat_eq_append] at d sm ⊢
            obtain ⟨v, rfl, hv0, hp0⟩ := d.stk p (by simp)
            simp at sm
            have hw4 : IntKind.i64.wrap (st'.length : Int) = st'.length := wrap64 (by omega) (by omega)
            have hmid := cIs_mid st' jk v
            have e4 : nth ou v = ou[v]'(by omega) := nth_at (by omega)
            simp [hw4, hdl, hv0, hmid]
            have hneg : nth out i < 0 := by omega
            refine ⟨by omega, by omega, fun q0 => ?_, fun q0 => ?_⟩
            · rw [← e4] at q0
              have hd' := di_new hV.ok hx b3 hneg d q0
              have hng := negs_set (xs := ou) (p := v) (m := m) (by omega) q0 hx.m0
              have hadj := adj_len (v : Int) c.th
              have hth := hV.th
              refine ⟨by omega, look_v Try.underlying83 map_key (k := [(v : Int)]) rfl (fun y hy => by rw [List.mem_singleton.1 hy]; omega) zero_row hmap.2.2 rfl rfl ?_⟩
              rw [getM_entW]
              have hrow := i4 (v : Int)
              cases hf : es.find? (fun x => x.1 == (v : Int)) with
              | some x =>
                rw [row_at hf] at hrow
                simp [hrow]
                refine ⟨by omega, by omega, ?_⟩
                refine loopK_next (ou.set v m, st' ++ adj c.th v, []) (by simp; omega) ⟨hd', by simp; omega⟩ ?_
                (refine weak_gc [(some 0, 0), (some 2, 0)] ?_ ?_ ?_ ?_ ?_ <;> simp)
              | none =>
                have hrow' : adj c.th v = [] := by rw [← hrow]; unfold rowOf; rw [hf]; rfl
                rw [hrow', List.append_nil] at hd'
                simp
                refine ⟨by omega, by omega, ?_⟩
                refine loopK_next (ou.set v m, st', []) (by simp; omega) ⟨hd', by simp; omega⟩ ?_
                (refine weak_gc [(some 0, 0), (some 2, 0)] ?_ ?_ ?_ ?_ ?_ <;> simp)
            · rw [← e4] at q0
              refine loopK_next (ou, st', (v : Int) :: jk) (by simp) ⟨di_seen hV.ok hx b3 hneg d q0, by simp; omega⟩ ?_
              exact weak_UH rfl (by simp)
      · obtain rfl : i = c.pl.length := by omega
        obtain ⟨rfl, rfl⟩ := char_unique (df_char hV.ok hx) hc
        simp
        refine endGW_of ?_
        (refine endG_keepT [(some 0, 0)] ?_ ?_ ?_ ?_ ?_ ?_ ?_ ⟨rfl, rfl⟩ ?_ <;> simp)
end Go.Proofs.Ytnpflgeenecaeaa
