/- append: on abstract values.
Conditions: none. -/
import Derived.Test.YtbjfkhjckfodbaaRow
namespace Go.Awp
set_option linter.all false
open Go

section
variable {P : Program} {w : World} {map : Nat → Option (Option (Nat × Nat))} {H : Heap} {X : Nat → Prop} {B : Nat}

/-- The cells of a slice that is appended or copied from. -/
def newsG (H : Heap) (sz : Nat) (x : AV) (K : List AV → Nat → Prop) : Prop :=
  match x with
  | .slc r off m q =>
    match H[r]? with
    | some (.blk _ _ _ cells) => q = sz ∧ off + m * sz ≤ cells.length ∧ K ((cells.drop off).take (m * sz)) m
    | _ => False
  | .view _ cells m => m * sz ≤ cells.length ∧ K (cells.take (m * sz)) m
  | .nils => K [] 0
  | _ => False

structure News (w : World) (E : Env) (sz : Nat) (v : Value) (news : List AV) (m : Nat) (A : Option Addr) (cap : Nat) (vs : List Value) : Prop where
  val : v = .slice A m cap
  none : A = Option.none → m = 0
  len : news.length = m * sz
  vlen : vs.length = m * sz
  cell : ∀ ad, A = some ad → ∀ (j : Nat) u, vs[j]? = some u → w.cell? (ad.add j) = some u
  one : ∀ u ∈ vs, u.oneCell' = true
  rel : ∀ (i : Nat) a u, news[i]? = some a → vs[i]? = some u → VRel w E a u

theorem news_of {E : Env} {sz m b off cap : Nat} {news : List AV} (hl : news.length = m * sz)
    (hc : ∀ (j : Nat) a, news[j]? = some a → ∃ u, w.cell? ⟨b, off + j, none⟩ = some u ∧ u.oneCell' = true ∧ VRel w E a u) :
    ∃ vs, News w E sz (.slice (some ⟨b, off, none⟩) m cap) news m (some ⟨b, off, none⟩) cap vs := by
  obtain ⟨vs, h1, h2⟩ := exists_list (fun j a u => w.cell? ⟨b, off + j, none⟩ = some u ∧ u.oneCell' = true ∧ VRel w E a u) news 0 (fun i a ha => by simpa using hc i a ha)
  have hat : ∀ (j : Nat) u, vs[j]? = some u → ∃ a, news[j]? = some a := fun j u hu => by
    have := (List.getElem?_eq_some_iff.1 hu).1
    exact ⟨_, List.getElem?_eq_getElem (by omega)⟩
  refine ⟨vs, rfl, fun h => (by cases h), hl, by omega, fun ad h j u hu => ?_, fun u hu => ?_, fun i a u ha hu => ?_⟩
  · cases h
    obtain ⟨a, ha⟩ := hat j u hu
    have := (h2 j a u ha hu).1
    rw [add_none]; simpa using this
  · obtain ⟨j, hj⟩ := List.getElem?_of_mem hu
    obtain ⟨a, ha⟩ := hat j u hj
    exact (h2 j a u ha hj).2.1
  · exact (h2 i a u ha hu).2.2

theorem newsG_ok {sz : Nat} {x : AV} {v : Value} {K : List AV → Nat → Prop} (hW : WRel w (env map H X B) H) (hx : VRel w (env map H X B) x v) (h : newsG H sz x K) :
    ∃ news m A cap vs, News w (env map H X B) sz v news m A cap vs ∧ K news m := by
  have empty : ∀ (A : Option Addr) (cap : Nat), News w (env map H X B) sz (.slice A 0 cap) [] 0 A cap [] := fun A cap =>
    ⟨rfl, fun _ => rfl, by simp, by simp, fun _ _ j u h => by simp at h, fun u h => by simp at h, fun i a u h => by simp at h⟩
  unfold newsG at h
  split at h
  · split at h
    · rename_i r off m q _ new box e cells hr
      obtain ⟨rfl, h2, hk⟩ := h
      cases hx with
      | @slcv _ A _ _ hm =>
        simp at hk
        exact ⟨[], 0, A, 0, [], empty _ _, hk⟩
      | slc _ _ _ _ b N cap hm h1 h3 hN =>
        rcases hW.root r new box e cells hr with ⟨q1, _⟩ | ⟨b', N', arr, q1, q2, q3, q4, q6, q5⟩
        · rw [q1] at hm; cases hm
        · rw [q1] at hm; cases hm
          replace q2 := q2.cells
          replace q3 : arr.size = N := q3
          rw [q3] at q4
          obtain ⟨vs, hv⟩ := news_of (w := w) (E := env map H X B) (sz := q) (m := m) (b := b) (off := off) (cap := cap) (news := (cells.drop off).take (m * q)) (by simp; omega) (fun j a ha => by
            rw [List.getElem?_take] at ha
            split at ha
            · rw [List.getElem?_drop] at ha
              obtain ⟨u, u1, u2, u3⟩ := q5 _ a ha
              refine ⟨u, by rw [cell_at q2]; exact u1, u2, ?_⟩
              cases box
              · exact u3.of_pure
              · exact u3
            · cases ha)
          exact ⟨_, m, _, cap, vs, hv, hk⟩
    · exact h.elim
  · rename_i new cells m
    obtain ⟨h1, hk⟩ := h
    cases hx with
    | view0 _ _ A cap hm => simp at hk; exact ⟨[], 0, A, cap, [], empty _ _, hk⟩
    | view _ _ _ b off cap hn hm hlt hb hmut u hc ho hr =>
      obtain ⟨vs, hv⟩ := news_of (w := w) (E := env map H X B) (sz := sz) (m := m) (b := b) (off := off) (cap := cap) (news := cells.take (m * sz)) (by simp; omega) (fun j a ha => by
        rw [List.getElem?_take] at ha
        split at ha
        · exact ⟨u j, hc j a ha, ho j a ha, (hr j a ha).of_pure⟩
        · cases ha)
      exact ⟨_, m, _, cap, vs, hv, hk⟩
  · cases hx with
    | @nils _ A => exact ⟨[], 0, A, 0, [], empty _ _, h⟩
  · exact h.elim

theorem run_append_news0 (t ty e : TypeId) (i : TypeInfo) (z : Value) (size : Nat) (ht : P.underlying t = some (.slice e)) (hi : P.info? e = some i) (hz : i.zero = some z)
    (hsize : i.size = size) (hzs : z.cells.size = size) (hsz : 0 < size)
    (v : Value) (n : Nat) (xs : List Value) (hown : w.ownsRow 0 e size v n xs) (vx : Value) {E : Env} {news : List AV} {m : Nat} {A : Option Addr} {cap : Nat} {vs : List Value} (hn : News w E size vx news m A cap vs)
    (h63 : n + m ≤ maxLen) (hbytes : (n + m) * i.bytes ≤ 140737488355328) :
    ∃ v' w', (Builtin.append_ #[t, t] ty #[v, vx]).run P w = .ok v' w' ∧ w'.ownsRow 0 e size v' (n + m) (xs ++ vs) ∧ w.grownBy w' v.ownBlock ∧ (v'.ownBlock = v.ownBlock ∨ v'.ownBlock = some w.heap.size) := by
  rw [hn.val]
  cases A with
  | some ad =>
    obtain ⟨v', w', h1, h2, h3, _, h5⟩ := run_append_own_at (P := P) w 0 t ty e i z size i.bytes ht hi hz hsize rfl hzs hsz v n xs hown ad m cap vs hn.vlen (hn.cell ad rfl) hn.one h63 hbytes (Nat.zero_le _)
    exact ⟨v', w', h1, h2, h3, h5⟩
  | none =>
    have hm := hn.none rfl
    subst hm
    have hv0 : vs = [] := List.eq_nil_of_length_eq_zero (by simpa using hn.vlen)
    subst hv0
    refine ⟨v, w, ?_, by simpa using hown, ⟨rfl, rfl, rfl, Nat.le_refl _, fun _ _ _ => rfl⟩, .inl rfl⟩
    rcases hown.2 with ⟨rfl, rfl⟩ | ⟨g, c, cur, rfl, _, hg, hnc, _⟩
    · simp [Builtin.append_, run_underlying ht, sizeOf, typeInfo, hi, Builtin.lenOf, Builtin.firstCells]
    · simp [Builtin.append_, run_underlying ht, sizeOf, typeInfo, hi, Builtin.lenOf, Builtin.firstCells, hnc, storeCells]

/-- A slice of no room, or a row of one's own. -/
def Nilly (v v0 : Value) : Prop := v = v0 ∨ v0 = .slice none 0 0 ∧ ∃ A, v = .slice A 0 0

theorem run_append_some {t ty e : TypeId} {i : TypeInfo} {z : Value} (ht : P.underlying t = some (.slice e)) (hi : P.info? e = some i) (hz : i.zero = some z) (A : Option Addr) (a : Option Addr) (m c : Nat) (hm : 0 < m) (h63 : m ≤ maxLen) (hbytes : m * i.bytes ≤ 140737488355328) (w : World) :
    (Builtin.append_ #[t, t] ty #[.slice A 0 0, .slice a m c]).run P w = (Builtin.append_ #[t, t] ty #[.slice none 0 0, .slice a m c]).run P w := by
  cases A with
  | none => rfl
  | some A =>
    have h1 : ¬ (m ≤ 0) := by omega
    have h2 : ¬ ((m : Int) > IntKind.i64.max) := by
      have : IntKind.i64.max = 9223372036854775807 := by decide
      rw [this]; unfold maxLen at h63; omega
    have h3 : ¬ (Builtin.nextslicecap m 0 * i.bytes > 2 ^ 48) := by
      unfold Builtin.nextslicecap
      rw [if_pos (by omega)]; omega
    have h4 : ∀ (w : World), (Builtin.firstCells i.size 0 (.slice (some A) 0 0)).run P w = (Builtin.firstCells i.size 0 (.slice none 0 0)).run P w := fun w => by
      simp [Builtin.firstCells, loadCells, loadCellsFrom]
    have h5 : ∀ (w : World), (typeInfo e).run P w = .ok i w := fun w => by simp [typeInfo, hi]
    have h6 : ∀ (w : World), (sizeOf e).run P w = .ok i.size w := fun w => by simp [sizeOf, h5]
    simp [Builtin.append_, run_underlying ht, h6, Builtin.lenOf, h1, h2, h5, h3, h4, show m ≠ 0 by omega]

theorem run_append_news (t ty e : TypeId) (i : TypeInfo) (z : Value) (size : Nat) (ht : P.underlying t = some (.slice e)) (hi : P.info? e = some i) (hz : i.zero = some z)
    (hsize : i.size = size) (hzs : z.cells.size = size) (hsz : 0 < size)
    (v v0 : Value) (hv : Nilly v v0) (n : Nat) (xs : List Value) (hown : w.ownsRow 0 e size v0 n xs) (vx : Value) {E : Env} {news : List AV} {m : Nat} {A : Option Addr} {cap : Nat} {vs : List Value} (hn : News w E size vx news m A cap vs)
    (h63 : n + m ≤ maxLen) (hbytes : (n + m) * i.bytes ≤ 140737488355328) :
    ∃ v' v1 w', (Builtin.append_ #[t, t] ty #[v, vx]).run P w = .ok v' w' ∧ Nilly v' v1 ∧ w'.ownsRow 0 e size v1 (n + m) (xs ++ vs) ∧ w.grownBy w' v0.ownBlock ∧ (v1.ownBlock = v0.ownBlock ∨ v1.ownBlock = some w.heap.size) := by
  rcases hv with rfl | ⟨rfl, A0, rfl⟩
  · obtain ⟨v', w', h1, h2, h3, h4⟩ := run_append_news0 (P := P) t ty e i z size ht hi hz hsize hzs hsz v n xs hown vx hn h63 hbytes
    exact ⟨v', v', w', h1, .inl rfl, h2, h3, h4⟩
  · have hn0 : n = 0 := by
      rcases hown.2 with ⟨_, h⟩ | ⟨g, c, cur, h, _⟩
      · exact h
      · cases h
    subst hn0
    by_cases hm : m = 0
    · subst hm
      have hv0 : vs = [] := List.eq_nil_of_length_eq_zero (by simpa using hn.vlen)
      subst hv0
      refine ⟨.slice A0 0 0, .slice none 0 0, w, ?_, .inr ⟨rfl, A0, rfl⟩, by simpa using hown, ⟨rfl, rfl, rfl, Nat.le_refl _, fun _ _ _ => rfl⟩, .inl rfl⟩
      rw [hn.val]
      cases A0 <;> cases A <;> simp [Builtin.append_, run_underlying ht, sizeOf, typeInfo, hi, Builtin.lenOf, Builtin.firstCells, loadCells, loadCellsFrom, storeCells]
    · obtain ⟨v', w', h1, h2, h3, h4⟩ := run_append_news0 (P := P) t ty e i z size ht hi hz hsize hzs hsz (.slice none 0 0) 0 xs hown vx hn h63 hbytes
      refine ⟨v', v', w', ?_, .inl rfl, h2, h3, h4⟩
      rw [hn.val] at h1 ⊢
      rw [run_append_some ht hi hz A0 A m cap (by omega) (by omega) (by simpa using hbytes)]
      exact h1

/-- What append leaves. -/
theorem good_append {K : AV → Heap → Prop} {v v' v2 : Value} {w' : World} {e : TypeId} {size n' : Nat} {cells : List AV} {vals : List Value} {new : Bool} {H1 : Heap}
    (hW : WRel w (env map H X B) H) (h1 : H1.length = H.length)
    (hsub : ∀ (r : Nat) nw bx e' c, H1[r]? = some (.blk nw bx e' c) → H[r]? = some (.blk nw bx e' c) ∧ ∀ b N, map r = some (some (b, N)) → v.ownBlock ≠ some b)
    (hfree : map H.length = none)
    (hmutv : ∀ b, v.ownBlock = some b → mutOf map H b ∧ (new = true → B ≤ b)) (hBw : B ≤ w.heap.size)
    (hown : w'.ownsRow 0 e size v' n' vals) (hg : w.grownBy w' v.ownBlock) (hat : v'.ownBlock = v.ownBlock ∨ v'.ownBlock = some w.heap.size)
    (hv2 : Nilly v2 v') (hlen : cells.length = vals.length)
    (hone : ∀ u ∈ vals, u.oneCell' = true) (hrel : ∀ (i : Nat) a u, cells[i]? = some a → vals[i]? = some u → VRel w (env map H X B).pure a u)
    (hk : K (.slc H.length 0 n' size) (H1 ++ [.blk new false e cells])) : Good map H X B w K v2 w' := by
  let at_ : Option (Nat × Nat) := match v' with
    | .slice (some a) _ cap => some (a.block, cap * size + 1)
    | _ => none
  let map' : Nat → Option (Option (Nat × Nat)) := fun r => if r = H.length then some at_ else map r
  have hmap : ∀ r, r < H.length → map' r = map r := fun r hr => by simp only [map']; rw [if_neg (by omega)]
  have hmapn : map' H.length = some at_ := by simp [map']
  have hsame : ∀ r x, map r = some x → map' r = some x := fun r x hx => by
    simp only [map']
    split
    · rename_i e; subst e; rw [hfree] at hx; cases hx
    · exact hx
  have hat_ : ∀ b N, at_ = some (b, N) → v'.ownBlock = some b := by
    intro b N h
    simp only [at_] at h
    split at h
    · cases h; rfl
    · cases h
  have hmut : ∀ b, b < w.heap.size → mutOf map' (H1 ++ [.blk new false e cells]) b → mutOf map H b := by
    rintro b hb ⟨r, N, nw, bx, e', c, hr, hm⟩
    rcases get_append hr with ⟨g1, g2⟩ | ⟨g1, g2⟩
    · have := hsub r nw bx e' c g2
      exact ⟨r, N, nw, bx, e', c, this.1, by rw [← hmap r (by omega)]; exact hm⟩
    · rw [g1, h1, hmapn] at hm
      have hm := Option.some.inj hm
      rcases hat with g | g
      · exact (hmutv b (by rw [← g]; exact hat_ _ _ hm)).1
      · rw [hat_ _ _ hm] at g; cases g; omega
  have hst : Step map H w map' (H1 ++ [.blk new false e cells]) w' :=
    ⟨hg.os, hg.tape, hg.output, hg.size, fun b hb hnm => hg.block b hb (fun e' => hnm (hmutv b e'.symm).1), hsame, fun r hr => by
      have : r ≠ H.length := by rcases hr with hr | hr; omega; simp at hr; omega
      simp only [map']; rw [if_neg this], by simp; omega, hmut⟩
  have hL := hst.later (X := X) (B := B)
  have hnewroot : RootRel w' (env map' (H1 ++ [.blk new false e cells]) X B) H.length new false e cells := by
    rcases hown.2 with ⟨rfl, h0⟩ | ⟨g, cap, cur, rfl, _, hh, hnc, hcm, hcs, htk⟩
    · refine .inl ⟨hmapn, ?_, rfl⟩
      have := hown.1
      rw [h0, Nat.zero_mul] at this
      exact List.eq_nil_of_length_eq_zero (by omega)
    · refine .inr ⟨g, cap * size + 1, cur, hmapn, .of_cells _ hh, hcs, ?_, fun hnw => ?_, fun i a ha => ?_⟩
      · have := hown.1
        have h3 : n' * size ≤ cap * size := Nat.mul_le_mul_right _ hnc
        omega
      · rcases hat with h | h
        · exact (hmutv g h.symm).2 hnw
        · cases h; exact hBw
      · have hi := (List.getElem?_eq_some_iff.1 ha).1
        have hv : vals[i]? = some (vals[i]'(by omega)) := List.getElem?_eq_getElem (by omega)
        generalize vals[i]'(by omega) = u at hv
        refine ⟨u, ?_, hone _ (List.mem_of_getElem? hv), (hrel i a _ ha hv).later hL.pure⟩
        rw [← htk, List.getElem?_take] at hv
        split at hv
        · simpa using hv
        · cases hv
  have hvrel : VRel w' (env map' (H1 ++ [.blk new false e cells]) X B) (.slc H.length 0 n' size) v2 := by
    rcases hown.2 with ⟨rfl, rfl⟩ | ⟨g, cap, cur, rfl, _, hh, hnc, hcm, hcs, htk⟩
    · rcases hv2 with rfl | ⟨_, A, rfl⟩
      · exact .slcv _ _ hmapn
      · exact .slcv _ _ hmapn
    · rcases hv2 with rfl | ⟨hv2, _⟩
      case inr => cases hv2
      exact .slc _ _ _ _ g (cap * size) cap hmapn hnc hcm (by omega)
  refine ⟨map', _, _, hk, hvrel, ⟨fun r nw bx e' c hr => ?_, fun r r' b N N' n1 n2 x1 x2 e1 e2 c1 c2 hr hr' hm hm' => ?_, hW.glob.later (hst.later (X := X) (B := B))⟩, hst⟩
  · rcases get_append hr with ⟨g1, g2⟩ | ⟨g1, g2⟩
    · obtain ⟨q1, q2⟩ := hsub r nw bx e' c g2
      refine (hW.root r nw bx e' c q1).later hL (fun b N hm => ?_)
      exact hg.block b (hW.lt q1 hm) (fun e' => q2 b N hm e'.symm)
    · cases g2
      rw [g1, h1]; exact hnewroot
  · have hm : map' r = some (some (b, N)) := hm
    have hm' : map' r' = some (some (b, N')) := hm'
    have clash : ∀ (r0 N0 N1 : Nat) nw bx e0 c0, H1[r0]? = some (.blk nw bx e0 c0) → map r0 = some (some (b, N0)) → at_ = some (b, N1) → False := by
      intro r0 N0 N1 nw bx e0 c0 g1 g2 g3
      obtain ⟨q1, q2⟩ := hsub r0 nw bx e0 c0 g1
      have g4 := hat_ _ _ g3
      rcases hat with g | g
      · exact q2 b N0 g2 (by rw [← g]; exact g4)
      · rw [g4] at g; cases g
        exact absurd (hW.lt q1 g2) (Nat.lt_irrefl _)
    rcases get_append hr with ⟨g1, g2⟩ | ⟨g1, g2⟩
    · rcases get_append hr' with ⟨g1', g2'⟩ | ⟨g1', g2'⟩
      · rw [hmap r (by omega)] at hm; rw [hmap r' (by omega)] at hm'
        exact hW.inj r r' b N N' _ _ _ _ _ _ _ _ (hsub _ _ _ _ _ g2).1 (hsub _ _ _ _ _ g2').1 hm hm'
      · rw [g1', h1, hmapn] at hm'
        rw [hmap r (by omega)] at hm
        exact (clash r N N' _ _ _ _ g2 hm (Option.some.inj hm')).elim
    · rcases get_append hr' with ⟨g1', g2'⟩ | ⟨g1', g2'⟩
      · rw [g1, h1, hmapn] at hm
        rw [hmap r' (by omega)] at hm'
        exact (clash r' N' N _ _ _ _ g2' hm' (Option.some.inj hm)).elim
      · omega

def appendG (P : Program) (t : TypeId) (s x : AV) (H : Heap) (K : AV → Heap → Prop) : Prop :=
  match P.underlying t with
  | some (.slice e) =>
    match szOf P e, bytesOf P e, zeroOf P e with
    | some sz, some by_, some zs =>
      match s with
      | .slc r 0 n q =>
        match H[r]? with
        | some (.blk new false e' cells) => newsG H sz x fun news m =>
            q = sz ∧ e' = e ∧ 0 < sz ∧ zs.length = sz ∧ n * sz ≤ cells.length ∧ n + m ≤ 9223372036854775807 ∧ (n + m) * by_ ≤ 140737488355328 ∧ news.all AV.isPure = true ∧
              K (.slc H.length 0 (n + m) sz) (H.set r .gone ++ [.blk new false e (cells.take (n * sz) ++ news)])
        | _ => False
      | .nils => newsG H sz x fun news m => 0 < sz ∧ zs.length = sz ∧ m ≤ 9223372036854775807 ∧ m * by_ ≤ 140737488355328 ∧ news.all AV.isPure = true ∧
          K (.slc H.length 0 m sz) (H ++ [.blk true false e news])
      | _ => False
    | _, _, _ => False
  | _ => False

theorem appendG_ok {t ty : TypeId} {s x : AV} {vs vx : Value} {K : AV → Heap → Prop} {o : Oper} {ρ : Operand → Value} (hfree : ∀ av H', K av H' → ∀ r, H.length ≤ r → r < H'.length → map r = none) (hs : VRel w (env map H X B) s vs) (hx : VRel w (env map H X B) x vx) (hW : WRel w (env map H X B) H) (hB : B ≤ w.heap.size)
    (he : (execOp ρ o) = (do pure (.value (← Builtin.append_ #[t, t] ty #[vs, vx])))) (h : appendG P t s x H K) : OpRun P o ρ w (Good map H X B w K) := by
  unfold appendG at h
  split at h
  · rename_i e hu
    split at h
    · rename_i sz by_ zs hsz hby hz
      have hz0 := hz
      unfold szOf at hsz; unfold bytesOf at hby; unfold zeroOf at hz
      cases hi : P.info? e with
      | none => simp [hi] at hsz
      | some i =>
        cases hzz : i.zero with
        | none => simp [hi, hzz] at hz
        | some z =>
          simp only [hi, hzz, Option.bind_some] at hz
          simp [hi] at hsz hby
          subst hsz; subst hby
          split at hz
          · rename_i hone
            cases hz
            split at h
            · rename_i r n q
              split at h
              · rename_i new e' cells hr
                obtain ⟨news, m, A, cap, vals, hN, rfl, rfl, h3, h4, h5, h6, h7, h8, hk⟩ := newsG_ok hW hx h
                have h4' : z.cells.size = i.size := by simpa using h4
                have hpure : ∀ (j : Nat) a u, news[j]? = some a → vals[j]? = some u → VRel w (env map H X B).pure a u := fun j a u ha hu => by
                  rw [List.all_eq_true] at h8
                  exact (hN.rel j a u ha hu).to_pure (h8 a (List.mem_of_getElem? ha))
                have hsub : ∀ (r0 : Nat) nw bx e0 c0, (H.set r .gone)[r0]? = some (.blk nw bx e0 c0) → r0 ≠ r ∧ H[r0]? = some (.blk nw bx e0 c0) := fun r0 nw bx e0 c0 h0 => gone_get h0
                cases hs with
                | @slcv _ A0 _ _ hm =>
                  have hown : w.ownsRow 0 e' i.size (.slice none 0 0) 0 [] := World.ownsRow_nil w 0 e' i.size
                  obtain ⟨v', v1, w', r1, rN, r2, r3, r4⟩ := run_append_news (P := P) t ty e' i z i.size hu hi hzz rfl h4' h3 (.slice A0 0 0) (.slice none 0 0) (.inr ⟨rfl, A0, rfl⟩) 0 [] hown vx hN (by unfold maxLen; omega) h7
                  refine .value (v := v') (w' := w') (by rw [he]; simp only [Sem.run_bind, r1, Result.andThen_ok, Sem.run_pure]) ?_
                  have hc0 : cells = [] := by
                    rcases hW.root r new false e' cells hr with ⟨_, q2, _⟩ | ⟨b', N', arr, q1, _⟩
                    · exact q2
                    · have q1' : map r = some (some (b', N')) := q1
                      have hm' : map r = some none := hm
                      rw [hm'] at q1'; cases q1'
                  subst hc0
                  simp only [Nat.zero_add, List.take_nil, List.nil_append] at hk r2
                  refine good_append (H1 := H.set r .gone) (new := new) (v := .slice none 0 0) hW (by simp) (fun r0 nw bx e0 c0 h0 => ⟨(hsub r0 nw bx e0 c0 h0).2, fun b N _ e1 => (by cases e1)⟩) (hfree _ _ hk _ (Nat.le_refl _) (by simp)) (fun b e1 => (by cases e1)) hB r2 r3 r4 rN (by rw [hN.len, hN.vlen]) hN.one hpure hk
                | slc _ _ _ _ b N c hm g1 g2 g3 =>
                  rcases hW.root r new false e' cells hr with ⟨q1, _⟩ | ⟨b', N', arr, q1, q2, q3, q4, q6, q5⟩
                  · rw [q1] at hm; cases hm
                  · rw [q1] at hm; cases hm
                    replace q2 := q2.cells
                    replace q3 : arr.size = N := q3
                    rw [q3] at q4
                    have hfit : n * i.size ≤ arr.size := by omega
                    have hown : w.ownsRow 0 e' i.size (.slice (some ⟨b, 0, none⟩) n c) n (arr.toList.take (n * i.size)) :=
                      ⟨by simp; omega, .inr ⟨b, c, arr, rfl, Nat.zero_le _, q2, g1, g2, by omega, rfl⟩⟩
                    obtain ⟨v', v1, w', r1, rN, r2, r3, r4⟩ := run_append_news (P := P) t ty e' i z i.size hu hi hzz rfl h4' h3 _ _ (.inl rfl) n _ hown vx hN (by unfold maxLen; omega) h7
                    refine .value (v := v') (w' := w') (by rw [he]; simp only [Sem.run_bind, r1, Result.andThen_ok, Sem.run_pure]) ?_
                    have hl1 : (cells.take (n * i.size)).length = n * i.size := by simp; omega
                    have hl2 : (arr.toList.take (n * i.size)).length = n * i.size := by simp; omega
                    have old : ∀ (j : Nat) a, j < n * i.size → cells[j]? = some a → ∃ u, arr[j]? = some u ∧ u.oneCell' = true ∧ VRel w (env map H X B).pure a u := fun j a _ ha => by simpa using q5 j a ha
                    refine good_append (H1 := H.set r .gone) (new := new) (v := .slice (some ⟨b, 0, none⟩) n c) hW (by simp) (fun r0 nw bx e0 c0 h0 => ?_) (hfree _ _ hk _ (Nat.le_refl _) (by simp)) (fun b0 e1 => ?_) hB r2 r3 r4 rN (by simp only [List.length_append, hl1, hl2, hN.len, hN.vlen]) (fun u hu' => ?_) (fun j a u ha hu' => ?_) hk
                    · obtain ⟨s1, s2⟩ := hsub r0 nw bx e0 c0 h0
                      refine ⟨s2, fun b0 N0 e1 e2 => s1 ?_⟩
                      have e3 : b0 = b := by injection e2 with e2; exact e2.symm
                      subst e3
                      exact hW.inj r0 r _ _ _ _ _ _ _ _ _ _ _ s2 hr e1 q1
                    · have e3 : b0 = b := by injection e1 with e1; exact e1.symm
                      subst e3
                      exact ⟨⟨r, _, _, _, _, _, hr, q1⟩, q6⟩
                    · rw [List.mem_append] at hu'
                      rcases hu' with hu' | hu'
                      · obtain ⟨j, hj⟩ := List.getElem?_of_mem hu'
                        have hjl := (List.getElem?_eq_some_iff.1 hj).1
                        rw [hl2] at hjl
                        obtain ⟨u2, u3, u4, _⟩ := old j (cells[j]'(by omega)) hjl (List.getElem?_eq_getElem (by omega))
                        rw [List.getElem?_take, if_pos hjl, Array.getElem?_toList, u3] at hj
                        cases hj; exact u4
                      · exact hN.one u hu'
                    · rw [List.getElem?_append, hl1] at ha
                      rw [List.getElem?_append, hl2] at hu'
                      split at ha
                      · rename_i hjl
                        rw [if_pos hjl] at hu'
                        rw [List.getElem?_take, if_pos hjl] at ha hu'
                        obtain ⟨u2, u3, u4, u5⟩ := old j a hjl ha
                        rw [Array.getElem?_toList, u3] at hu'
                        cases hu'; exact u5
                      · rename_i hjl
                        rw [if_neg hjl] at hu'
                        exact hpure _ a u ha hu'
              · exact h.elim
            · obtain ⟨news, m, A, cap, vals, hN, h3, h4, h6, h7, h8, hk⟩ := newsG_ok hW hx h
              have h4' : z.cells.size = i.size := by simpa using h4
              cases hs with
              | @nils _ A0 =>
              have hown : w.ownsRow 0 e i.size (.slice none 0 0) 0 [] := World.ownsRow_nil w 0 e i.size
              obtain ⟨v', v1, w', r1, rN, r2, r3, r4⟩ := run_append_news (P := P) t ty e i z i.size hu hi hzz rfl h4' h3 (.slice A0 0 0) (.slice none 0 0) (.inr ⟨rfl, A0, rfl⟩) 0 [] hown vx hN (by unfold maxLen; omega) (by rw [Nat.zero_add]; exact h7)
              refine .value (v := v') (w' := w') (by rw [he]; simp only [Sem.run_bind, r1, Result.andThen_ok, Sem.run_pure]) ?_
              simp only [Nat.zero_add, List.nil_append] at r2
              refine good_append (H1 := H) (new := true) (v := .slice none 0 0) hW rfl (fun r0 nw bx e0 c0 h0 => ⟨h0, fun b N _ e1 => (by cases e1)⟩) (hfree _ _ hk _ (Nat.le_refl _) (by simp)) (fun b e1 => (by cases e1)) hB r2 r3 r4 rN (by rw [hN.len, hN.vlen]) hN.one (fun j a u ha hu' => ?_) hk
              rw [List.all_eq_true] at h8
              exact (hN.rel j a u ha hu').to_pure (h8 a (List.mem_of_getElem? ha))
            · exact h.elim
          · cases hz
    · exact h.elim
  · exact h.elim
/-- clear: the cells of a slice are zeros again. -/
def clearG (P : Program) (t : TypeId) (x : AV) (H : Heap) (K : AV → Heap → Prop) : Prop :=
  match P.underlying t with
  | some (.slice e) =>
    match szOf P e, zeroOf P e with
    | some sz, some zs =>
      match x with
      | .slc r off n q =>
        match H[r]? with
        | some (.blk new box e' cells) => q = sz ∧ zs.length = sz ∧ off + n * sz ≤ cells.length ∧ zs.all AV.isPure = true ∧ K (.tup []) (H.set r (.blk new box e' (splice cells off (makeL n zs))))
        | _ => False
      | .view _ _ 0 => K (.tup []) H
      | .nils => K (.tup []) H
      | _ => False
    | _, _ => False
  | _ => False

theorem clearG_ok {t ty : TypeId} {x : AV} {vx : Value} {K : AV → Heap → Prop} {o : Oper} {ρ : Operand → Value} (hx : VRel w (env map H X B) x vx) (hW : WRel w (env map H X B) H)
    (he : (execOp ρ o) = (do pure (.value (← Builtin.clear_ #[t] ty #[vx])))) (h : clearG P t x H K) : OpRun P o ρ w (Good map H X B w K) := by
  have hundef : ∀ E' w', VRel w' E' (.tup []) (.tuple #[]) := fun E' w' => .tup [] #[] rfl fun i a v h => by simp at h
  unfold clearG at h
  split at h
  · rename_i e hu
    have empty : ∀ A c, vx = .slice A 0 c → K (.tup []) H → OpRun P o ρ w (Good map H X B w K) := by
      intro A c hvx hk
      refine .value (v := .tuple #[]) (w' := w) ?_ (good_same hW (hundef _ _) hk)
      rw [he, hvx]
      cases A <;> simp [Builtin.clear_, run_underlying hu]
    split at h
    · rename_i sz zs hsz hz
      split at h
      · rename_i r off n q
        split at h
        · rename_i new box e' cells hr
          obtain ⟨rfl, h2, h3, h4, hk⟩ := h
          by_cases hn : n = 0
          · subst hn
            have hs : H.set r (.blk new box e' (splice cells off (makeL 0 zs))) = H := by
              have e1 : splice cells off (makeL 0 zs) = cells := by simp [splice, makeL]
              rw [e1]
              apply List.ext_getElem?
              intro j
              rw [List.getElem?_set]
              split
              · rename_i e; subst e
                rw [hr, if_pos (List.getElem?_eq_some_iff.1 hr).1]
              · rfl
            rw [hs] at hk
            cases hx with
            | slc _ _ _ _ b N cap hm g1 g2 g3 => exact empty _ _ rfl hk
            | slcv _ _ hm => exact empty _ _ rfl hk
          · cases hx with
            | slcv _ _ hm => exact absurd rfl hn
            | slc _ _ _ _ b N cap hm g1 g2 g3 =>
              rcases hW.root r new box e' cells hr with ⟨q1, _⟩ | ⟨b', N', arr, q1, q2, q3, q4, q6, q5⟩
              · rw [q1] at hm; cases hm
              · rw [q1] at hm; cases hm
                replace q2 := q2.cells
                replace q3 : arr.size = N := q3
                rw [q3] at q4
                obtain ⟨z, z1, rfl, z3⟩ := run_zero hz w
                have hzs : z.cells.size = q := by simpa using h2
                have hcm := crel_make (w := w) (E := env map H X B) z3 n
                have hlm : (makeL n (z.cells.toList.map AV.of1)).length = n * q := by simp [makeL, hzs]
                have hla : (madeCells z.cells (n * z.cells.size)).toList.length = n * q := by simp [size_madeCells, hzs]
                have hfit : off + 0 + (madeCells z.cells (n * z.cells.size)).toList.length ≤ arr.size := by rw [hla]; omega
                have hrun := run_storeCells_at P b off e' (madeCells z.cells (n * z.cells.size)).toList 0 arr w q2 hfit (fun u hu' => by
                  obtain ⟨i, hi⟩ := List.getElem?_of_mem hu'
                  exact hcm.2.1 i u (by simpa using hi))
                have hzc : Builtin.zeroCells z.cells n = madeCells z.cells (n * z.cells.size) := rfl
                have hex : (execOp ρ o).run P w = .ok (.value (.tuple #[])) (w.setRow b (arr.toList.take (off + 0) ++ (madeCells z.cells (n * z.cells.size)).toList ++ arr.toList.drop (off + 0 + (madeCells z.cells (n * z.cells.size)).toList.length)).toArray) := by
                  rw [he]
                  obtain ⟨n', rfl⟩ : ∃ n', n = n' + 1 := ⟨n - 1, by omega⟩
                  simp only [Builtin.clear_, List.getElem?_toArray, List.getElem?_cons_zero, Sem.run_bind, run_underlying hu, Result.andThen_ok, z1, hzc, Sem.run_pure]
                  rw [hrun]; rfl
                refine .value hex ?_
                have hsp : (arr.toList.take (off + 0) ++ (madeCells z.cells (n * z.cells.size)).toList ++ arr.toList.drop (off + 0 + (madeCells z.cells (n * z.cells.size)).toList.length)) = splice arr.toList off (madeCells z.cells (n * z.cells.size)).toList := by simp [splice]
                rw [hsp]
                have hl : (splice arr.toList off (madeCells z.cells (n * z.cells.size)).toList).length = N := by
                  rw [splice_length _ _ _ (by rw [hla]; simp; omega)]
                  simp [q3]
                have hfc : off + (makeL n (z.cells.toList.map AV.of1)).length ≤ cells.length := by rw [hlm]; omega
                refine good_set hW hr q1 q2 q6 (by simpa using hl) (by rw [splice_length _ _ _ hfc]; exact q4) (fun i a' ha' => ?_) hk (fun _ _ => hundef _ _)
                rw [splice_get _ _ _ hfc] at ha'
                rw [List.getElem?_toArray, splice_get _ _ _ (by rw [hla]; simp; omega), hla]
                rw [hlm] at ha'
                by_cases c1 : i < off
                · rw [if_pos c1] at ha' ⊢
                  obtain ⟨u, u1, u2, u3⟩ := q5 i a' ha'
                  exact ⟨u, by simpa using u1, u2, u3⟩
                · rw [if_neg c1] at ha' ⊢
                  by_cases c2 : i < off + n * q
                  · rw [if_pos c2] at ha' ⊢
                    obtain ⟨u, u1, u2, u3⟩ := crel_pure hcm (makeSliceG_ok.all_make h4) ha'
                    refine ⟨u, by simpa using u1, u2, ?_⟩
                    cases box
                    · exact u3
                    · exact u3.of_pure
                  · rw [if_neg c2] at ha' ⊢
                    obtain ⟨u, u1, u2, u3⟩ := q5 i a' ha'
                    exact ⟨u, by simpa using u1, u2, u3⟩
        · exact h.elim
      · cases hx with
        | view0 _ _ A cap hm => exact empty _ _ rfl h
        | view _ _ _ b off cap hn hm hlt hb hmut u hc ho hr => exact empty _ _ rfl h
      · cases hx
        exact empty _ _ rfl h
      · exact h.elim
    · exact h.elim
  · exact h.elim
end
end Go.Awp
