/- Aggregates, slices, append: on abstract values.
Conditions: none. -/
import Derived.Test.YtbjfkhjckfodbaaNew
import Derived.Laws.BytesArg
import Derived.Laws.IdiomStrings
namespace Go.Awp
set_option linter.all false
open Go

section
variable {P : Program} {w : World} {map : Nat → Option (Option (Nat × Nat))} {H : Heap} {X : Nat → Prop} {B : Nat}

def partG (P : Program) (t : TypeId) (l : List AV) (off : Nat) (K : AV → Prop) : Prop :=
  match aggOf P t, szOf P t with
  | some ag, some sz => ∃ av, loadL ag sz l off = some av ∧ K av
  | _, _ => False

theorem partG_ok {t : TypeId} {l : List AV} {vs : Array Value} {off : Nat} {K : AV → Prop} {E : Env} (hx : VRel w E (.agg l) (.agg vs)) (h : partG P t l off K) : PureOk P w E (part t vs off) K := by
  unfold partG at h
  split at h
  · rename_i ag sz hag hsz
    obtain ⟨av, hl, hk⟩ := h
    cases hx with
    | agg l vs h1 h2 h3 =>
      unfold loadL at hl
      cases ag with
      | true =>
        simp only [if_true] at hl
        split at hl
        · rename_i hle
          cases hl
          refine .of (v := .agg (vs.extract off (off + sz))) (by simp [part, run_isAgg hag, run_sizeOf hsz]) (.agg _ _ (by simp; omega) (fun i v hv => ?_) (fun i a v ha hv => ?_)) hk
          · rw [Array.getElem?_extract] at hv
            split at hv
            · exact h2 _ v hv
            · cases hv
          · rw [Array.getElem?_extract] at hv
            rw [List.getElem?_take] at ha
            split at ha
            · rw [List.getElem?_drop] at ha
              split at hv
              · exact h3 _ a v ha hv
              · cases hv
            · cases ha
        · cases hl
      | false =>
        simp only [Bool.false_eq_true, if_false] at hl
        have hlt := (List.getElem?_eq_some_iff.1 hl).1
        have hv : vs[off]? = some (vs[off]'(by omega)) := Array.getElem?_eq_getElem (by omega)
        exact .of (v := vs[off]'(by omega)) (by simp [part, run_isAgg hag, hv]) (h3 off _ _ hl hv) hk
  · exact h.elim

def fieldG (P : Program) (t : TypeId) (x : AV) (f : Nat) (K : AV → Prop) : Prop :=
  match P.underlying t with
  | some (.struct fields) =>
    match fields[f]?, x with
    | some fd, .agg l => partG P fd.type l fd.offset K
    | _, _ => False
  | _ => False

theorem fieldG_ok {t : TypeId} {x : AV} {vx : Value} {f : Nat} {K : AV → Prop} {E : Env} (hx : VRel w E x vx) (h : fieldG P t x f K) : PureOk P w E (Instr.field t vx f) K := by
  unfold fieldG at h
  split at h
  · rename_i fields hu
    split at h
    · rename_i fd l hf
      cases hx with
      | agg _ vs h1 h2 h3 =>
        obtain ⟨v, n, av, hr, hrel, hk⟩ := partG_ok (.agg _ vs h1 h2 h3) h
        exact ⟨v, n, av, by simp [Instr.field, run_underlying hu, hf, asAgg, hr], hrel, hk⟩
    · exact h.elim
  · exact h.elim

def indexG (P : Program) (t : TypeId) (x i : AV) (K : AV → Prop) : Prop :=
  match i with
  | .int _ i =>
    match P.underlying t, x with
    | some (.array len e), .agg l => 0 ≤ i ∧ i < len ∧ ∃ sz, szOf P e = some sz ∧ partG P e l (i.toNat * sz) K
    | some .string, .str s => 0 ≤ i ∧ ∃ b, s[i.toNat]? = some b ∧ K (.int .u8 b.toNat)
    | _, _ => False
  | _ => False

theorem indexG_ok {t : TypeId} {x i : AV} {vx vi : Value} {K : AV → Prop} {E : Env} (hx : VRel w E x vx) (hi : VRel w E i vi) (h : indexG P t x i K) : PureOk P w E (Instr.index t vx vi) K := by
  unfold indexG at h
  split at h
  · cases hi
    split at h
    · rename_i len e l hu
      obtain ⟨h1, h2, sz, hsz, h⟩ := h
      cases hx with
      | agg _ vs g1 g2 g3 =>
        obtain ⟨v, n, av, hr, hrel, hk⟩ := partG_ok (.agg _ vs g1 g2 g3) h
        exact ⟨v, n, av, by simp [Instr.index, asIntOf, run_underlying hu, h1, h2, run_sizeOf hsz, hr], hrel, hk⟩
    · rename_i s hu
      obtain ⟨h1, b, hb, hk⟩ := h
      cases hx
      exact .of (v := .int .u8 b.toNat) (by simp [Instr.index, asIntOf, run_underlying hu, h1, hb]) (.int _ _) hk
    · exact h.elim
  · exact h.elim

def extractG (x : AV) (i : Nat) (K : AV → Prop) : Prop :=
  match x with
  | .tup l => ∃ a, l[i]? = some a ∧ K a
  | _ => False

theorem extractG_ok {x : AV} {vx : Value} {i : Nat} {K : AV → Prop} {E : Env} (hx : VRel w E x vx) (h : extractG x i K) : PureOk P w E (Instr.extract vx i) K := by
  unfold extractG at h
  split at h
  · obtain ⟨a, ha, hk⟩ := h
    cases hx with
    | tup l vs h1 h3 =>
      have hlt := (List.getElem?_eq_some_iff.1 ha).1
      have hv : vs[i]? = some (vs[i]'(by omega)) := Array.getElem?_eq_getElem (by omega)
      exact .of (v := vs[i]'(by omega)) (by simp [Instr.extract, hv]) (h3 i a _ ha hv) hk
  · exact h.elim

def lenG (P : Program) (t : TypeId) (x : AV) (K : AV → Prop) : Prop :=
  match P.underlying t, x with
  | some .string, .str s => K (.int .i64 s.size)
  | some (.slice _), .slc _ _ n _ => K (.int .i64 n)
  | some (.slice _), .view _ _ n => K (.int .i64 n)
  | some (.slice _), .nils => K (.int .i64 0)
  | _, _ => False

theorem lenG_ok {t ty : TypeId} {x : AV} {vx : Value} {K : AV → Prop} {E : Env} (hx : VRel w E x vx) (h : lenG P t x K) : PureOk P w E (Builtin.len_ #[t] ty #[vx]) K := by
  unfold lenG at h
  split at h
  · rename_i hu; cases hx
    exact .of (v := .int .i64 _) (by simp [Builtin.len_, run_underlying hu, goInt]) (.int _ _) h
  · rename_i hu
    cases hx with
    | slc r off n q b N cap hm hn hmx hN => exact .of (v := .int .i64 _) (by simp [Builtin.len_, run_underlying hu, goInt]) (.int _ _) h
    | slcv r q hm => exact .of (v := .int .i64 _) (by simp [Builtin.len_, run_underlying hu, goInt]) (.int _ _) h
  · rename_i hu
    cases hx with
    | view0 new cells A cap hm => exact .of (v := .int .i64 _) (by simp [Builtin.len_, run_underlying hu, goInt]) (.int _ _) h
    | view new cells n b off cap hn hm hlt hb hmut u hc ho hr => exact .of (v := .int .i64 _) (by simp [Builtin.len_, run_underlying hu, goInt]) (.int _ _) h
  · rename_i hu; cases hx
    exact .of (v := .int .i64 _) (by simp [Builtin.len_, run_underlying hu, goInt]) (.int _ _) h
  · exact h.elim

/-- A bound of a slice expression. -/
def boundA (d : Nat) : Option AV → Option Int
  | none => some d
  | some (.int _ i) => some i
  | _ => none

/-- 'x[lo:hi]'. -/
def sliceG (P : Program) (t : TypeId) (x : AV) (lo hi : Option AV) (K : AV → Prop) : Prop :=
  match P.underlying t with
  | some .string =>
    match x with
    | .str s =>
      match boundA 0 lo, boundA s.size hi with
      | some l, some h => 0 ≤ l ∧ l ≤ h ∧ h ≤ s.size ∧ K (.str (s.extract l.toNat h.toNat))
      | _, _ => False
    | _ => False
  | some (.slice e) =>
    match szOf P e with
    | some sz =>
      match x with
      | .slc r off n q =>
        match boundA 0 lo, boundA n hi with
        | some l, some h => q = sz ∧ 0 ≤ l ∧ l ≤ h ∧ h ≤ n ∧ (l = 0 → K (.slc r off h.toNat q)) ∧ (0 < l → l < h → K (.slc r (off + l.toNat * sz) (h.toNat - l.toNat) q)) ∧ (0 < l → l = h → K (.view false [] 0))
        | _, _ => False
      | .view new cells n =>
        match boundA 0 lo, boundA n hi with
        | some l, some h => 0 ≤ l ∧ l ≤ h ∧ h ≤ n ∧ K (.view new ((cells.drop (l.toNat * sz)).take ((h.toNat - l.toNat) * sz)) (h.toNat - l.toNat))
        | _, _ => False
      | .nils =>
        match boundA 0 lo, boundA 0 hi with
        | some 0, some 0 => K .nils
        | _, _ => False
      | _ => False
    | _ => False
  | _ => False

def BRel (w : World) (E : Env) : Option AV → Option Value → Prop
  | none, none => True
  | some a, some v => VRel w E a v
  | _, _ => False

theorem run_sliceBounds {E : Env} {isSlice : Bool} {len cap : Nat} {lo hi : Option AV} {vlo vhi : Option Value} {l h : Int} (hlo : BRel w E lo vlo) (hhi : BRel w E hi vhi)
    (h1 : boundA 0 lo = some l) (h2 : boundA len hi = some h) (h0 : 0 ≤ l) (hlh : l ≤ h) (hh : h ≤ cap) :
    (Instr.sliceBounds isSlice len cap vlo vhi none).run P w = .ok (l.toNat, h.toNat, cap) w := by
  have hp : 0 ≤ h := by omega
  have hl : l ≤ (h.toNat : Int) := by omega
  have fin : ∀ (vhi' : Option Value) (hv : (match vhi' with | some v => ∃ k, v = Value.int k h | none => (len : Int) = h)), (Instr.sliceBounds isSlice len cap vlo vhi' none).run P w = .ok (l.toNat, h.toNat, cap) w := by
    intro vhi' hv
    have lov : match vlo with | some v => ∃ k, v = Value.int k l | none => l = 0 := by
      cases lo with
      | none => cases vlo with
        | none => simp [boundA] at h1; exact h1.symm
        | some v => exact hlo.elim
      | some a => cases vlo with
        | none => exact hlo.elim
        | some v =>
          cases a <;> simp [boundA] at h1
          subst h1
          cases (show VRel w E (.int _ _) v from hlo)
          exact ⟨_, rfl⟩
    cases vhi' with
    | none =>
      have hv : (len : Int) = h := hv
      subst hv
      cases vlo with
      | none => have lov : l = 0 := lov; subst lov; simp [Instr.sliceBounds]
      | some v =>
        obtain ⟨k, rfl⟩ := lov
        simp [Instr.sliceBounds, Instr.sliceBound, asIntOf, h0, hlh]
    | some v' =>
      obtain ⟨k', rfl⟩ := hv
      cases vlo with
      | none => have lov : l = 0 := lov; subst lov; simp [Instr.sliceBounds, Instr.sliceBound, asIntOf, hp, hh]
      | some v =>
        obtain ⟨k, rfl⟩ := lov
        simp only [Instr.sliceBounds, Instr.sliceBound, asIntOf, Sem.run_bind, Sem.run_pure, Result.andThen_ok, hp, hh, and_self, if_true, h0, hl]
  refine fin vhi ?_
  cases hi with
  | none => cases vhi with
    | none => simp [boundA] at h2; exact h2
    | some v => exact hhi.elim
  | some a => cases vhi with
    | none => exact hhi.elim
    | some v =>
      cases a <;> simp [boundA] at h2
      subst h2
      cases (show VRel w E (.int _ _) v from hhi)
      exact ⟨_, rfl⟩

theorem sliceG_ok {t : TypeId} {x : AV} {vx : Value} {lo hi : Option AV} {vlo vhi : Option Value} {K : AV → Prop} {E : Env} (hx : VRel w E x vx) (hlo : BRel w E lo vlo) (hhi : BRel w E hi vhi)
    (h : sliceG P t x lo hi K) : PureOk P w E (Instr.sliceAt t vx vlo vhi none) K := by
  unfold sliceG at h
  split at h
  · rename_i hu
    split at h
    · split at h
      · rename_i l hh e1 e2
        obtain ⟨h1, h2, h3, hk⟩ := h
        cases hx
        refine .of (v := .string _) ?_ (.str _) hk
        simp [Instr.sliceAt, run_underlying hu, Instr.slice, run_sliceBounds (isSlice := false) hlo hhi e1 e2 h1 h2 h3]
      · exact h.elim
    · exact h.elim
  · rename_i e hu
    split at h
    · rename_i sz hsz
      split at h
      · rename_i r off n q
        split at h
        · rename_i l hh e1 e2
          obtain ⟨rfl, h1, h2, h3, k1, k2, k3⟩ := h
          cases hx with
          | slc _ _ _ _ b N cap hm hn hmx hN =>
            have hb := run_sliceBounds (P := P) (w := w) (isSlice := true) (len := n) (cap := cap) hlo hhi e1 e2 h1 h2 (by omega)
            have hrun : (Instr.sliceAt t (.slice (some ⟨b, off, none⟩) n cap) vlo vhi none).run P w =
                .ok (.slice (if cap = l.toNat then some ⟨b, off, none⟩ else some ⟨b, off + l.toNat * q, none⟩) (hh.toNat - l.toNat) (cap - l.toNat)) w := by
              simp [Instr.sliceAt, run_underlying hu, Instr.slice, hb, run_sizeOf hsz, add_none]
            by_cases c0 : l = 0
            · subst c0
              refine .of (v := .slice (some ⟨b, off, none⟩) hh.toNat cap) ?_ (.slc _ _ _ _ b N cap hm (by omega) hmx hN) (k1 rfl)
              rw [hrun]
              simp
            · by_cases c1 : l = hh
              · subst c1
                refine .of hrun ?_ (k3 (by omega) rfl)
                rw [Nat.sub_self]
                exact .view0 _ _ _ _ (by omega)
              · refine .of hrun ?_ (k2 (by omega) (by omega))
                rw [if_neg (by omega)]
                refine .slc _ _ _ _ b N _ hm (by omega) (by omega) ?_
                have : cap = (cap - l.toNat) + l.toNat := by omega
                rw [← hN]
                conv => rhs; rw [this, Nat.add_mul]
                omega
          | slcv _ _ hm =>
            have hl : l = 0 := by omega
            have hh0 : hh = 0 := by omega
            subst hl; subst hh0
            have hb := run_sliceBounds (P := P) (w := w) (isSlice := true) (len := 0) (cap := 0) hlo hhi e1 e2 h1 h2 (by omega)
            rename_i A
            refine .of (v := .slice A 0 0) ?_ (.slcv _ _ hm) (k1 rfl)
            cases A <;> simp [Instr.sliceAt, run_underlying hu, Instr.slice, hb, run_sizeOf hsz, Addr.add]
        · exact h.elim
      · rename_i new cells n
        split at h
        · rename_i l hh e1 e2
          obtain ⟨h1, h2, h3, hk⟩ := h
          cases hx with
          | view0 _ _ A cap hm =>
            have hb := run_sliceBounds (P := P) (w := w) (isSlice := true) (len := 0) (cap := cap) hlo hhi e1 e2 h1 h2 (by omega)
            have h0 : hh.toNat - l.toNat = 0 := by omega
            rw [h0] at hk
            refine .of (v := .slice (if cap = l.toNat then A else A.map (·.add (l.toNat * sz))) 0 (cap - l.toNat)) ?_ (.view0 _ _ _ _ (by omega)) hk
            simp [Instr.sliceAt, run_underlying hu, Instr.slice, hb, run_sizeOf hsz, h0]
          | view _ _ _ b off cap hn hm hlt hb hmut u hc ho hr =>
            have hbd := run_sliceBounds (P := P) (w := w) (isSlice := true) (len := n) (cap := cap) hlo hhi e1 e2 h1 h2 (by omega)
            have hrun : (Instr.sliceAt t (.slice (some ⟨b, off, none⟩) n cap) vlo vhi none).run P w =
                .ok (.slice (if cap = l.toNat then some ⟨b, off, none⟩ else some ⟨b, off + l.toNat * sz, none⟩) (hh.toNat - l.toNat) (cap - l.toNat)) w := by
              simp [Instr.sliceAt, run_underlying hu, Instr.slice, hbd, run_sizeOf hsz, add_none]
            refine .of hrun ?_ hk
            by_cases c0 : hh.toNat - l.toNat = 0
            · rw [c0]; exact .view0 _ _ _ _ (by omega)
            · rw [if_neg (by omega)]
              refine .view _ _ _ b _ _ (by omega) (by omega) hlt hb hmut (fun j => u (l.toNat * sz + j)) (fun j a ha => ?_) (fun j a ha => ?_) (fun j a ha => ?_)
              all_goals
                rw [List.getElem?_take] at ha
                split at ha
                · rw [List.getElem?_drop] at ha
                  first
                    | (rw [Nat.add_assoc]; exact hc _ a ha)
                    | exact ho _ a ha
                    | exact hr _ a ha
                · cases ha
        · exact h.elim
      · split at h
        · rename_i e1 e2
          cases hx
          have hb := run_sliceBounds (P := P) (w := w) (isSlice := true) (len := 0) (cap := 0) hlo hhi e1 e2 (Int.le_refl _) (Int.le_refl _) (Int.le_refl _)
          rename_i A
          refine .of (v := .slice A 0 0) ?_ .nils h
          cases A <;> simp [Instr.sliceAt, run_underlying hu, Instr.slice, hb, run_sizeOf hsz, Addr.add]
        · exact h.elim
      · exact h.elim
    · exact h.elim
  · exact h.elim

/-- Numbers of cells that are bytes. -/
def numsA : List AV → Option (List Int)
  | [] => some []
  | .int .u8 n :: l => (numsA l).map (n :: ·)
  | _ => none
theorem numsA_get : ∀ {L : List AV} {l : List Int}, numsA L = some l → L.length = l.length ∧ ∀ i, i < l.length → L[i]? = some (.int .u8 (l.getD i 0))
  | [], l, h => by cases h; exact ⟨rfl, fun i hi => by simp at hi⟩
  | a :: L, l, h => by
    unfold numsA at h
    split at h
    · rename_i heq; cases heq
    · rename_i n L' heq
      cases heq
      cases hn : numsA L with
      | none => rw [hn] at h; cases h
      | some l' =>
        rw [hn] at h
        cases h
        obtain ⟨h1, h2⟩ := numsA_get hn
        refine ⟨by simp [h1], fun i hi => ?_⟩
        cases i with
        | zero => rfl
        | succ i => simpa using h2 i (by simpa using hi)
    · cases h
def cvtN (l : Option (List Int)) (n : Nat) (K : AV → Prop) : Prop := match l with
  | some l => l.length = n ∧ K (.str (strOfNums l))
  | none => False
def cvtR (x : Option Root) (off n : Nat) (K : AV → Prop) : Prop := match x with
  | some (.blk _ false _ cells) => cvtN (numsA ((cells.drop off).take n)) n K
  | _ => False
/-- 'string(b)' of a row of bytes. -/
def cvtB (P : Program) (s d : TypeId) (x : AV) (H : Heap) (K : AV → Prop) : Prop :=
  (∃ e, P.underlying s = some (.slice e) ∧ P.underlying e = some (.int .u8)) ∧ P.underlying d = some .string ∧
  match x with
  | .nils => K (.str (strOfNums []))
  | .view _ cells n => cvtN (numsA (cells.take n)) n K
  | .slc r off n q => q = 1 ∧ cvtR H[r]? off n K
  | _ => False
def cvtX (P : Program) (s d : TypeId) (x : AV) (H : Heap) (K : AV → Prop) : Prop := match x with
  | .nils => cvtB P s d .nils H K
  | .view b c n => cvtB P s d (.view b c n) H K
  | .slc r o n q => cvtB P s d (.slc r o n q) H K
  | a => cvtG P s d a K

theorem cvt_none {s d e : TypeId} {A : Option Addr} {cap : Nat} (hs : P.underlying s = some (.slice e)) (he : P.underlying e = some (.int .u8)) (hd : P.underlying d = some .string) :
    (convert s d (.slice A 0 cap)).run P w = .ok (.string (strOfNums [])) w := by
  cases A with
  | none => exact run_convert_bytes_nil w s e hs he 0 cap d hd
  | some a => exact run_convert_bytes_back w s d e a cap [] hs he hd (fun j hj => by simp at hj)
theorem cvtB_ok {s d : TypeId} {x : AV} {vx : Value} {K : AV → Prop} (hx : VRel w (env map H X B) x vx) (hW : WRel w (env map H X B) H) (h : cvtB P s d x H K) : PureOk P w (env map H X B) (convert s d vx) K := by
  unfold cvtB at h
  obtain ⟨⟨e, hs, he⟩, hd, h⟩ := h
  split at h
  · cases hx
    exact .of (cvt_none hs he hd) (.str _) h
  · rename_i nw cells n
    unfold cvtN at h
    split at h
    · rename_i l hl
      obtain ⟨hn, h⟩ := h
      obtain ⟨_, hg⟩ := numsA_get hl
      generalize hE : env map H X B = E at *
      cases hx with
      | view0 =>
        obtain rfl : l = [] := List.length_eq_zero_iff.1 hn
        exact .of (cvt_none hs he hd) (.str _) h
      | view _ _ _ b off cap k1 k2 k3 k4 k5 u hc ho hr =>
        refine .of (run_convert_bytes_arg w s e hs he b off n cap l hn (fun i hi => ?_) d hd) (.str _) h
        have hi' := hg i (by omega)
        rw [List.getElem?_take] at hi'
        rw [if_pos hi] at hi'
        rw [hc i _ hi']
        have := hr i _ hi'
        generalize u i = ui at *
        cases this
        rfl
    · exact h.elim
  · rename_i r off n q
    obtain ⟨rfl, h⟩ := h
    unfold cvtR at h
    split at h
    · rename_i nw e' cells hr
      unfold cvtN at h
      split at h
      · rename_i l hl
        obtain ⟨hn, h⟩ := h
        obtain ⟨_, hg⟩ := numsA_get hl
        have hroot := hW.root r _ _ _ _ hr
        generalize hE : env map H X B = E at *
        cases hx with
        | slcv =>
          obtain rfl : l = [] := List.length_eq_zero_iff.1 hn
          exact .of (cvt_none hs he hd) (.str _) h
        | slc _ _ _ _ b N cap hm k1 k2 k3 =>
          rcases hroot with ⟨d1, d2, d3⟩ | ⟨b', N', arr, d1, d2, d3, d4, d6, d5⟩
          · rw [d1] at hm; cases hm
          · rw [d1] at hm
            cases hm
            refine .of (run_convert_bytes_arg w s e hs he b off n cap l hn (fun i hi => ?_) d hd) (.str _) h
            have hi' := hg i (by omega)
            rw [List.getElem?_take, if_pos hi, List.getElem?_drop] at hi'
            obtain ⟨v, v1, v2, v3⟩ := d5 _ _ hi'
            have hcell : w.cell? ⟨b, off + i, none⟩ = some v := by
              simp [World.cell?, d2.cells, v1]
            rw [hcell]
            cases v3
            rfl
      · exact h.elim
    · exact h.elim
  · exact h.elim
theorem cvtX_ok {s d : TypeId} {x : AV} {vx : Value} {K : AV → Prop} (hx : VRel w (env map H X B) x vx) (hW : WRel w (env map H X B) H) (h : cvtX P s d x H K) : PureOk P w (env map H X B) (convert s d vx) K := by
  unfold cvtX at h
  split at h
  · exact cvtB_ok hx hW h
  · exact cvtB_ok hx hW h
  · exact cvtB_ok hx hW h
  · exact cvtG_ok hx h
end
end Go.Awp
