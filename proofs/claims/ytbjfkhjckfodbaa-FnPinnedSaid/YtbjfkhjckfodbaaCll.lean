/- Calls whose arguments are reckoned on to the callee; ends with new memory; loops by a state.
Conditions: none. -/
import Derived.Test.YtbjfkhjckfodbaaSrc
namespace Go.Awp
set_option linter.all false
open Go
variable {P : Program}

/-- Memory as a callee sees it that only reads. -/
def AV.frz : AV → AV
  | .agg l => .agg (l.map AV.frz)
  | .view _ c n => .view false (c.map AV.frz) n
  | .vptr _ c => .vptr false (c.map AV.frz)
  | .ptr _ _ => .any
  | .slc _ _ _ _ => .any
  | .tup _ => .any
  | .clo f l c => .clo f (l.map AV.frz) (c.map AV.frz)
  | .mp _ => .any
  | .mview _ _ _ _ => .any
  | a => a

theorem map_get {α β : Type} {l : List α} {f : α → β} {i : Nat} {b : β} (h : (l.map f)[i]? = some b) : ∃ a, l[i]? = some a ∧ f a = b := by
  rw [List.getElem?_map] at h
  cases hl : l[i]? with
  | none => rw [hl] at h; cases h
  | some a => rw [hl] at h; exact ⟨a, rfl, by simpa using h⟩

theorem passV_frz : ∀ (a : AV) {own : Bool} {σ : List Nat} {H : Heap}, PassV own σ H a a.frz
  | .any => by simp only [AV.frz]; exact .any _
  | .int k n => by simp only [AV.frz]; exact .flat _ rfl
  | .bool b => by simp only [AV.frz]; exact .flat _ rfl
  | .flt k x => by simp only [AV.frz]; exact .flat _ rfl
  | .str s => by simp only [AV.frz]; exact .flat _ rfl
  | .ifc s => by simp only [AV.frz]; exact .flat _ rfl
  | .nilp => by simp only [AV.frz]; exact .flat _ rfl
  | .nils => by simp only [AV.frz]; exact .flat _ rfl
  | .nilf => by simp only [AV.frz]; exact .flat _ rfl
  | .ptr r o => by simp only [AV.frz]; exact .any _
  | .slc r o n q => by simp only [AV.frz]; exact .any _
  | .tup l => by simp only [AV.frz]; exact .any _
  | .mp _ => by simp only [AV.frz]; exact .any _
  | .mview _ _ _ _ => by simp only [AV.frz]; exact .any _
  | .agg l => by
    simp only [AV.frz]
    refine .agg l _ (by simp) fun i a a' h h' => ?_
    obtain ⟨b, hb, rfl⟩ := map_get h'
    rw [h] at hb; cases hb
    have := List.mem_of_getElem? h
    exact passV_frz a
  | .clo f l c => by
    simp only [AV.frz]
    refine .clo f l _ c _ (by simp) (by simp) (fun i a a' h h' => ?_) (fun i a a' h h' => ?_)
    · obtain ⟨b, hb, rfl⟩ := map_get h'
      rw [h] at hb; cases hb
      have := List.mem_of_getElem? h
      exact passV_frz a
    · obtain ⟨b, hb, rfl⟩ := map_get h'
      rw [h] at hb; cases hb
      have := List.mem_of_getElem? h
      exact passV_frz a
  | .view nw c n => by
    simp only [AV.frz]
    refine .view nw c _ n (fun j => c.getD j .any) (fun j a' h => ?_) (fun j a' h => ?_)
    · obtain ⟨b, hb, rfl⟩ := map_get h
      rw [List.getD_eq_getElem?_getD, hb]; rfl
    · obtain ⟨b, hb, rfl⟩ := map_get h
      rw [List.getD_eq_getElem?_getD, hb]
      have := List.mem_of_getElem? hb
      exact passV_frz b
  | .vptr nw c => by
    simp only [AV.frz]
    refine .vptr nw c _ (fun j => c.getD j .any) (fun j a' h => ?_) (fun j a' h => ?_)
    · obtain ⟨b, hb, rfl⟩ := map_get h
      rw [List.getD_eq_getElem?_getD, hb]; rfl
    · obtain ⟨b, hb, rfl⟩ := map_get h
      rw [List.getD_eq_getElem?_getD, hb]
      have := List.mem_of_getElem? hb
      exact passV_frz b
termination_by a => SizeOf.sizeOf a
decreasing_by
  all_goals
    simp_wf
    have := List.sizeOf_lt_of_mem (by assumption)
    omega

/-- Where a root stands among those that are handed on. -/
def posN : List Nat → Nat → Nat → Option Nat
  | [], _, _ => none
  | s :: σ, i, r => if s = r then some i else posN σ (i + 1) r
theorem posN_get : ∀ {σ : List Nat} {i r j : Nat}, posN σ i r = some j → i ≤ j ∧ σ[j - i]? = some r
  | [], _, _, _, h => by cases h
  | s :: σ, i, r, j, h => by
    unfold posN at h
    split at h
    · rename_i e; cases h; subst e; simp
    · obtain ⟨h1, h2⟩ := posN_get h
      refine ⟨by omega, ?_⟩
      rw [show j - i = (j - (i + 1)) + 1 by omega]
      simpa using h2
theorem posN_none : ∀ {σ : List Nat} {i r : Nat}, posN σ i r = none → r ∉ σ
  | [], _, _, _ => by simp
  | s :: σ, i, r, h => by
    unfold posN at h
    split at h
    · cases h
    · rename_i e
      have := posN_none h
      simp only [List.mem_cons, not_or]
      exact ⟨fun e' => e e'.symm, this⟩

/-- A row of the caller's that the callee reads. -/
def ownV (own : Bool) (x : Option Root) (o n q : Nat) : AV := match own, x with
  | true, some (.blk _ false _ cells) => .view false (((cells.drop o).take (n * q)).map AV.frz) n
  | _, _ => .any
/-- A cell of a row of rows that the callee reads. -/
def cellB (own : Bool) (σ : List Nat) (H : Heap) : AV → AV
  | .slc r o n q => (match posN σ 0 r with
    | some _ => .any
    | none => ownV own H[r]? o n q)
  | .view _ c n => .view false (c.map AV.frz) n
  | .int k n => .int k n
  | .bool b => .bool b
  | .flt k x => .flt k x
  | .str s => .str s
  | .ifc s => .ifc s
  | .nils => .nils
  | _ => .any
/-- A row of the caller's, of rows as well. -/
def ownW (own : Bool) (σ : List Nat) (H : Heap) (x : Option Root) (o n q : Nat) : AV := match own, x with
  | true, some (.blk _ true _ cells) => .view false (((cells.drop o).take (n * q)).map (cellB own σ H)) n
  | _, _ => ownV own x o n q
def pasR (own : Bool) (σ : List Nat) (H : Heap) (p : Option Nat) (r o n q : Nat) : AV := match p with
  | some i => .slc i o n q
  | none => ownW own σ H H[r]? o n q
def pasP (p : Option Nat) (o : Nat) : AV := match p with
  | some i => .ptr i o
  | none => .any
/-- What a caller's value is to the callee. -/
def pass0 (nv own : Bool) (σ : List Nat) (H : Heap) : AV → AV
  | .agg l => .agg (l.map (pass0 nv own σ H))
  | .view _ c n => .view false (c.map AV.frz) n
  | .vptr _ c => .vptr false (c.map AV.frz)
  | .ptr r o => pasP (posN σ 0 r) o
  | .slc r o n q => pasR own σ H (posN σ 0 r) r o n q
  | .tup _ => .any
  | .nils => if nv then .view false [] 0 else .nils
  | .clo f l c => .clo f (l.map (pass0 nv own σ H)) (c.map (pass0 nv own σ H))
  | .mp _ => .any
  | .mview _ _ _ _ => .any
  | a => a

theorem passV_own (own : Bool) {σ : List Nat} {H : Heap} {r : Nat} (o n q : Nat) (hr : r ∉ σ) : PassV own σ H (.slc r o n q) (ownV own H[r]? o n q) := by
  unfold ownV
  split
  · rename_i nw e cells hx
    refine .ownS rfl r o n q nw e cells _ hr hx (fun j => cells.getD (o + j) .any) (fun j a' h => ?_) (fun j a' h => ?_)
    · obtain ⟨b, hb, rfl⟩ := map_get h
      rw [List.getElem?_take] at hb
      split at hb
      · rw [List.getElem?_drop] at hb
        rw [List.getD_eq_getElem?_getD, hb]; rfl
      · cases hb
    · obtain ⟨b, hb, rfl⟩ := map_get h
      rw [List.getElem?_take] at hb
      split at hb
      · rw [List.getElem?_drop] at hb
        rw [List.getD_eq_getElem?_getD, hb]
        exact passV_frz b
      · cases hb
  · exact .any _

theorem ownV_pure (own : Bool) (x : Option Root) (o n q : Nat) : (ownV own x o n q).isPure = true := by
  unfold ownV
  split <;> rfl
theorem cellB_pure (own : Bool) (σ : List Nat) (H : Heap) (a : AV) : (cellB own σ H a).isPure = true := by
  cases a <;> simp only [cellB] <;> first | rfl | skip
  split
  · rfl
  · exact ownV_pure _ _ _ _ _
theorem passV_cellB (own : Bool) (σ : List Nat) (H : Heap) (a : AV) : PassV own σ H a (cellB own σ H a) := by
  cases a <;> simp only [cellB] <;> first | exact .any _ | exact .flat _ rfl | skip
  · split
    · exact .any _
    · rename_i h
      exact passV_own own _ _ _ (posN_none h)
  · rename_i nw c n
    have := passV_frz (.view nw c n) (own := own) (σ := σ) (H := H)
    simpa only [AV.frz] using this
theorem passV_ownW (own : Bool) {σ : List Nat} {H : Heap} {r : Nat} (o n q : Nat) (hr : r ∉ σ) : PassV own σ H (.slc r o n q) (ownW own σ H H[r]? o n q) := by
  unfold ownW
  split
  · rename_i nw e cells hx
    refine .ownB rfl r o n q nw e cells _ hr hx (fun j => cells.getD (o + j) .any) ?_ (fun j a' h => ?_) (fun j a' h => ?_)
    · rw [List.all_eq_true]
      intro a ha
      obtain ⟨b, _, rfl⟩ := List.mem_map.1 ha
      exact cellB_pure _ _ _ _
    · obtain ⟨b, hb, rfl⟩ := map_get h
      rw [List.getElem?_take] at hb
      split at hb
      · rw [List.getElem?_drop] at hb
        rw [List.getD_eq_getElem?_getD, hb]; rfl
      · cases hb
    · obtain ⟨b, hb, rfl⟩ := map_get h
      rw [List.getElem?_take] at hb
      split at hb
      · rw [List.getElem?_drop] at hb
        rw [List.getD_eq_getElem?_getD, hb]
        exact passV_cellB _ _ _ b
      · cases hb
  · exact passV_own _ o n q hr

theorem passV_pass0 (nv own : Bool) (σ : List Nat) (H : Heap) : ∀ (a : AV), PassV own σ H a (pass0 nv own σ H a)
  | .any => by simp only [pass0]; exact .any _
  | .int k n => by simp only [pass0]; exact .flat _ rfl
  | .bool b => by simp only [pass0]; exact .flat _ rfl
  | .flt k x => by simp only [pass0]; exact .flat _ rfl
  | .str s => by simp only [pass0]; exact .flat _ rfl
  | .ifc s => by simp only [pass0]; exact .flat _ rfl
  | .nilp => by simp only [pass0]; exact .flat _ rfl
  | .nils => by
    simp only [pass0]
    split
    · exact .nils
    · exact .flat _ rfl
  | .nilf => by simp only [pass0]; exact .flat _ rfl
  | .ptr r o => by
    simp only [pass0]
    unfold pasP
    split
    · rename_i i hi
      exact .ptr r i o (by simpa using (posN_get hi).2)
    · exact .any _
  | .slc r o n q => by
    simp only [pass0]
    unfold pasR
    split
    · rename_i i hi
      exact .slc r i o n q (by simpa using (posN_get hi).2)
    · rename_i hi
      exact passV_ownW own o n q (posN_none hi)
  | .mp _ => by simp only [pass0]; exact .any _
  | .mview _ _ _ _ => by simp only [pass0]; exact .any _
  | .tup l => by simp only [pass0]; exact .any _
  | .agg l => by
    simp only [pass0]
    refine .agg l _ (by simp) fun i a a' h h' => ?_
    obtain ⟨b, hb, rfl⟩ := map_get h'
    rw [h] at hb; cases hb
    have := List.mem_of_getElem? h
    exact passV_pass0 nv own σ H a
  | .clo f l c => by
    simp only [pass0]
    refine .clo f l _ c _ (by simp) (by simp) (fun i a a' h h' => ?_) (fun i a a' h h' => ?_)
    · obtain ⟨b, hb, rfl⟩ := map_get h'
      rw [h] at hb; cases hb
      have := List.mem_of_getElem? h
      exact passV_pass0 nv own σ H a
    · obtain ⟨b, hb, rfl⟩ := map_get h'
      rw [h] at hb; cases hb
      have := List.mem_of_getElem? h
      exact passV_pass0 nv own σ H a
  | .view nw c n => by
    have := passV_frz (.view nw c n) (own := own) (σ := σ) (H := H)
    simp only [AV.frz] at this
    simp only [pass0]; exact this
  | .vptr nw c => by
    have := passV_frz (.vptr nw c) (own := own) (σ := σ) (H := H)
    simp only [AV.frz] at this
    simp only [pass0]; exact this
termination_by a => SizeOf.sizeOf a
decreasing_by
  all_goals
    simp_wf
    have := List.sizeOf_lt_of_mem (by assumption)
    omega

/-- A pointer to a root that is not handed on: what it points to, to be read. -/
def ownP (own : Bool) (σ : List Nat) (H : Heap) (x : Option Root) (o : Nat) : AV := match own, x with
  | true, some (.blk _ _ _ cells) => if ((cells.drop o).map (pass0 true own σ H)).all AV.isPure = true then .vptr false ((cells.drop o).map (pass0 true own σ H)) else .any
  | _, _ => .any
def pasQ (own : Bool) (σ : List Nat) (H : Heap) (p : Option Nat) (r o : Nat) : AV := match p with
  | some i => .ptr i o
  | none => ownP own σ H H[r]? o
/-- Arguments: as 'pass0', and pointers to what the callee reads. -/
def passA (own : Bool) (σ : List Nat) (H : Heap) : AV → AV
  | .ptr r o => pasQ own σ H (posN σ 0 r) r o
  | .clo f l c => .clo f (l.map (pass1 own σ H)) (c.map (pass1 own σ H))
  | a => pass0 true own σ H a
where pass1 (own : Bool) (σ : List Nat) (H : Heap) : AV → AV
  | .ptr r o => pasQ own σ H (posN σ 0 r) r o
  | a => pass0 true own σ H a

theorem passV_ptr (own : Bool) (σ : List Nat) (H : Heap) (r o : Nat) : PassV own σ H (.ptr r o) (pasQ own σ H (posN σ 0 r) r o) := by
  unfold pasQ
  split
  · rename_i i hi
    exact .ptr r i o (by simpa using (posN_get hi).2)
  · rename_i hi
    unfold ownP
    split
    · rename_i nw box e cells hx
      split
      · rename_i hp
        refine .ownP rfl r o nw box e cells _ (posN_none hi) hx (fun j => cells.getD (o + j) .any) hp (fun j a' h => ?_) (fun j a' h => ?_)
        · obtain ⟨b, hb, rfl⟩ := map_get h
          rw [List.getElem?_drop] at hb
          rw [List.getD_eq_getElem?_getD, hb]; rfl
        · obtain ⟨b, hb, rfl⟩ := map_get h
          rw [List.getElem?_drop] at hb
          rw [List.getD_eq_getElem?_getD, hb]
          exact passV_pass0 true true σ H b
      · exact .any _
    · exact .any _
theorem passV_pass1 (own : Bool) (σ : List Nat) (H : Heap) (a : AV) : PassV own σ H a (passA.pass1 own σ H a) := by
  unfold passA.pass1
  split
  · exact passV_ptr ..
  · exact passV_pass0 ..
theorem passV_passA (own : Bool) (σ : List Nat) (H : Heap) (a : AV) : PassV own σ H a (passA own σ H a) := by
  unfold passA
  split
  · exact passV_ptr ..
  · rename_i f l c
    refine .clo f l _ c _ (by simp) (by simp) (fun i a a' h h' => ?_) (fun i a a' h h' => ?_)
    all_goals
      obtain ⟨b, hb, rfl⟩ := map_get h'
      rw [h] at hb; cases hb
      exact passV_pass1 own σ H a
  · exact passV_pass0 ..
theorem passL_passA (own : Bool) (σ : List Nat) (H : Heap) (avs : List AV) : PassL own σ H avs (avs.map (passA own σ H)) := by
  refine ⟨by simp, fun i a a' h h' => ?_⟩
  obtain ⟨b, hb, rfl⟩ := map_get h'
  rw [h] at hb; cases hb
  exact passV_passA own σ H a

/-- A root as the callee is given it. -/
def pasH (σ : List Nat) (H : Heap) : Option Root → Root
  | some (.blk _ box e cells) => .blk false box e (cells.map (pass0 false false σ H))
  | _ => .gone
def restr (σ : List Nat) (H : Heap) : Heap := σ.map fun r => pasH σ H H[r]?
def liveB (x : Option Root) : Bool := match x with
  | some (.blk ..) => true
  | _ => false

/-- A call, its arguments as the callee has them. -/
def callN (P : Program) (f : FuncId) (own : Bool) (σ : List Nat) (args : List AV) (Hin H : Heap) [K : Hold (AV → Heap → Prop)] (_t : True) : Prop :=
  ∃ R, FnSpec P f args Hin R ∧ ∀ av H', R av H' → (own = true → (H'.take σ.length).all Root.noView = true) ∧ K.v (av.ren (backN σ H.length)) (mergeH σ H H')

theorem callG_of (own : Bool) (σ : List Nat) {f : FuncId} {args : List AV} {H : Heap} {K : AV → Heap → Prop} (hn : σ.Nodup) (hl : σ.all (fun r => liveB H[r]?) = true) (h : @callN P f own σ (args.map (passA own σ H)) (restr σ H) H ⟨K⟩ trivial) : @callS P f args H ⟨K⟩ trivial := by
  obtain ⟨R, h1, h2⟩ := h
  refine .inl ⟨own, σ, _, _, R, .inl h1, ⟨by simp [restr], hn, fun i r hi => ?_⟩, passL_passA own σ H args, h2⟩
  have hlr := List.all_eq_true.1 hl r (List.mem_of_getElem? hi)
  cases hx : H[r]? with
  | none => rw [hx] at hlr; cases hlr
  | some x =>
    cases x with
    | gone => rw [hx] at hlr; cases hlr
    | blk new box e cells =>
      refine ⟨new, box, e, cells, cells.map (pass0 false false σ H), rfl, ?_, by simp, fun _ => by simp, fun j a a' ha ha' => ?_⟩
      · simp only [restr, List.getElem?_map, hi, Option.map_some, hx, pasH]
      · obtain ⟨b, hb, rfl⟩ := map_get ha'
        rw [ha] at hb; cases hb
        exact passV_pass0 false false σ H a
theorem callG_on (own : Bool) (σ : List Nat) {f : FuncId} {args : List AV} {H : Heap} {K : AV → Heap → Prop} (h : (σ.Nodup ∧ σ.all (fun r => liveB H[r]?) = true) ∧ @callN P f own σ (args.map (passA own σ H)) (restr σ H) H ⟨K⟩ trivial) : @callS P f args H ⟨K⟩ trivial := callG_of own σ h.1.1 h.1.2 h.2
theorem callG_r {f : FuncId} {args : List AV} {H : Heap} {K : AV → Heap → Prop} (h : @callN P f true [] (args.map (passA true [] H)) [] H ⟨K⟩ trivial) : @callS P f args H ⟨K⟩ trivial :=
  callG_of true [] List.nodup_nil rfl h

/-- A function of which it is known what it hands back and leaves. -/
def Fun (P : Program) (f : FuncId) (args : List AV) (Hin : Heap) (r : AV) (Hout : Heap) : Prop := FnSpec P f args Hin fun av H => av = r ∧ H = Hout

theorem callN_fun {f : FuncId} {own : Bool} {σ : List Nat} {args : List AV} {Hin H Hout : Heap} {K : AV → Heap → Prop} {r : AV} (hc : Fun P f args Hin r Hout) (hv : own = true → (Hout.take σ.length).all Root.noView = true)
    (hk : K (r.ren (backN σ H.length)) (mergeH σ H Hout)) : @callN P f own σ args Hin H ⟨K⟩ trivial :=
  ⟨_, hc, fun av H' ⟨e1, e2⟩ => by subst e1; subst e2; exact ⟨hv, hk⟩⟩
theorem callN_new {f : FuncId} {args : List AV} {H Hout : Heap} {K : AV → Heap → Prop} {r : AV} (hc : Fun P f args [] r Hout) (hk : K (r.ren fun r => H.length + r) (H ++ Hout.map (Root.ren fun r => H.length + r))) : @callN P f true [] args [] H ⟨K⟩ trivial :=
  callN_fun hc (fun _ => rfl) (by rw [mergeH_nil, backN_nil]; exact hk)
theorem callN_flat {f : FuncId} {args : List AV} {H : Heap} {K : AV → Heap → Prop} {r : AV} (hc : Fun P f args [] r []) (hr : r.flats = true) (hk : K r H) : @callN P f true [] args [] H ⟨K⟩ trivial :=
  callN_new hc (by rw [ren_flats hr]; simpa using hk)
theorem callN_rel {f : FuncId} {args : List AV} {H : Heap} {K : AV → Heap → Prop} {R : AV → Prop} (hc : FnSpec P f args [] fun av H => H = [] ∧ av.flats = true ∧ R av) (hk : ∀ r, R r → K r H) : @callN P f true [] args [] H ⟨K⟩ trivial :=
  ⟨_, hc, fun av H' ⟨e1, e2, e3⟩ => by subst e1; rw [mergeH_nil, ren_flats e2]; exact ⟨fun _ => rfl, by simpa using hk av e3⟩⟩

/-- A function that may hand back what it was given to read. -/
def FunV (P : Program) (f : FuncId) (args : List AV) (Hin : Heap) (r : AV) (Hout : Heap) : Prop := FnSpecV P f args Hin fun av H => av = r ∧ H = Hout
def callNV (P : Program) (f : FuncId) (args : List AV) (H : Heap) [K : Hold (AV → Heap → Prop)] (_t : True) : Prop := ∃ r Hout, FunV P f args [] r Hout ∧ K.v (r.ren fun r => H.length + r) (H ++ Hout.map (Root.ren fun r => H.length + r))
/-- A call that is told on the caller's own roots. -/
theorem callG_inl {f : FuncId} {args : List AV} {H : Heap} {K : AV → Heap → Prop} (h : Inl P f args H K) : @callS P f args H ⟨K⟩ trivial := .inr h
theorem callG_v {f : FuncId} {args : List AV} {H : Heap} {K : AV → Heap → Prop} (h : @callNV P f (args.map (passA false [] H)) H ⟨K⟩ trivial) : @callS P f args H ⟨K⟩ trivial := by
  obtain ⟨r, Hout, h1, h2⟩ := h
  refine .inl ⟨false, [], _, [], _, .inr ⟨rfl, h1⟩, ⟨rfl, List.nodup_nil, fun i r h => by simp at h⟩, passL_passA false [] H args, fun av H' ⟨e1, e2⟩ => ⟨fun e => (by cases e), ?_⟩⟩
  subst e1; subst e2
  rw [mergeH_nil, backN_nil]; exact h2
theorem callNV_fun {f : FuncId} {args : List AV} {H Hout : Heap} {K : AV → Heap → Prop} {r : AV} (hc : FunV P f args [] r Hout) (hk : K (r.ren fun r => H.length + r) (H ++ Hout.map (Root.ren fun r => H.length + r))) : @callNV P f args H ⟨K⟩ trivial := ⟨r, Hout, hc, hk⟩

/-- A call in a drawn region, its arguments as the callee has them. -/
def callM (P : Program) (f : FuncId) (args : List AV) (H : Heap) [K : Hold (AV → List (Nat × Root) → List Root → Prop)] (_t : True) : Prop := ∃ r Hout, Fun P f args [] r Hout ∧ K.v (r.ren fun r => H.length + r) [] (Hout.map (Root.ren fun r => H.length + r))
theorem callD_r {f : FuncId} {args : List AV} {H : Heap} {K : AV → List (Nat × Root) → List Root → Prop} (h : @callM P f (args.map (passA true [] H)) H ⟨K⟩ trivial) : @callD P f args H ⟨K⟩ trivial := by
  obtain ⟨r, Hout, h1, h2⟩ := h
  exact ⟨_, [], _, callG_r (K := fun a h => a = _ ∧ h = _) (callN_new h1 ⟨rfl, rfl⟩), h2⟩
theorem callM_new {f : FuncId} {args : List AV} {H Hout : Heap} {K : AV → List (Nat × Root) → List Root → Prop} {r : AV} (hc : Fun P f args [] r Hout) (hk : K (r.ren fun r => H.length + r) [] (Hout.map (Root.ren fun r => H.length + r))) : @callM P f args H ⟨K⟩ trivial := ⟨r, Hout, hc, hk⟩
theorem callM_flat {f : FuncId} {args : List AV} {H : Heap} {K : AV → List (Nat × Root) → List Root → Prop} {r : AV} (hc : Fun P f args [] r []) (hr : r.flats = true) (hk : K r [] []) : @callM P f args H ⟨K⟩ trivial :=
  callM_new hc (by rw [ren_flats hr]; simpa using hk)

/-- What a call lays anew. -/
def stM (f : Nat → Nat) : List Nat → List Root → Heap → List (Nat × Root)
  | r :: σ, x :: xs, H => (r, withNew (H.getD r .gone) (x.ren f)) :: stM f σ xs H
  | _, _, _ => []
theorem setA_congr {l : List (Nat × Root)} {A B : Heap} {j : Nat} (h : A[j]? = B[j]?) : (setA l A)[j]? = (setA l B)[j]? := by
  induction l with
  | nil => exact h
  | cons p l ih =>
    obtain ⟨r, x⟩ := p
    simp only [setA]
    rw [setL_get, setL_get, ih]
theorem stM_keys (f : Nat → Nat) : ∀ (σ : List Nat) (xs : List Root) (H : Heap) (p : Nat × Root), p ∈ stM f σ xs H → p.1 ∈ σ
  | [], _, _, _, h => by simp [stM] at h
  | _ :: _, [], _, _, h => by simp [stM] at h
  | r :: σ, x :: xs, H, p, h => by
    simp only [stM, List.mem_cons] at h
    rcases h with rfl | h
    · exact List.mem_cons_self ..
    · exact List.mem_cons_of_mem _ (stM_keys f σ xs H p h)
theorem stM_set (f : Nat → Nat) {r : Nat} {y : Root} : ∀ (σ : List Nat) (xs : List Root) (H : Heap), r ∉ σ → stM f σ xs (H.set r y) = stM f σ xs H
  | [], _, _, _ => by simp [stM]
  | _ :: _, [], _, _ => by simp [stM]
  | s :: σ, x :: xs, H, h => by
    simp only [stM]
    rw [stM_set f σ xs H (fun e => h (List.mem_cons_of_mem _ e))]
    have : s ≠ r := fun e => h (by rw [e]; exact List.mem_cons_self ..)
    rw [List.getD_eq_getElem?_getD, List.getD_eq_getElem?_getD, List.getElem?_set_ne (fun e => this e.symm)]
theorem mergeSet_setA (f : Nat → Nat) : ∀ (σ : List Nat) (xs : List Root) (H : Heap), σ.Nodup → (∀ r ∈ σ, liv H[r]? = true) → mergeSet f σ xs H = setA (stM f σ xs H) H
  | [], _, H, _, _ => by simp [mergeSet, stM, setA]
  | _ :: _, [], H, _, _ => by simp [mergeSet, stM, setA]
  | r :: σ, x :: xs, H, hn, hl => by
    obtain ⟨n1, n2⟩ := List.nodup_cons.1 hn
    rw [mergeSet, mergeSet_setA f σ xs _ n2 (fun s hs => by
      rw [List.getElem?_set_ne (fun e => n1 (by rw [e]; exact hs))]
      exact hl s (List.mem_cons_of_mem _ hs)), stM_set f σ xs H n1]
    simp only [stM, setA]
    generalize withNew (H.getD r .gone) (x.ren f) = y
    have hk : ∀ p ∈ stM f σ xs H, p.1 ≠ r := fun p hp e => n1 (by rw [← e]; exact stM_keys f σ xs H p hp)
    generalize stM f σ xs H = l at hk
    have hlr := hl r (List.mem_cons_self ..)
    apply List.ext_getElem?
    intro j
    rw [setL_get]
    by_cases c : j = r
    · subst c
      obtain ⟨nw, b, e, c', hx⟩ := liv_blk hlr
      rw [if_pos rfl, setA_ne hk, setA_ne hk, List.getElem?_set_self (List.getElem?_eq_some_iff.1 hx).1, hx]; rfl
    · rw [if_neg c]
      exact setA_congr (List.getElem?_set_ne (fun e => c e.symm))
/-- A call in a drawn region that roots are handed to. -/
def callMD (P : Program) (f : FuncId) (own : Bool) (σ : List Nat) (args : List AV) (Hin H : Heap) [K : Hold (AV → List (Nat × Root) → List Root → Prop)] (_t : True) : Prop :=
  ∃ r Hout, Fun P f args Hin r Hout ∧ (own = true → (Hout.take σ.length).all Root.noView = true) ∧ K.v (r.ren (backN σ H.length)) (stM (backN σ H.length) σ Hout H) ((Hout.drop σ.length).map (Root.ren (backN σ H.length)))
theorem callD_on (own : Bool) (σ : List Nat) {f : FuncId} {args : List AV} {H : Heap} {K : AV → List (Nat × Root) → List Root → Prop} (h : (σ.Nodup ∧ σ.all (fun r => liveB H[r]?) = true) ∧ @callMD P f own σ (args.map (passA own σ H)) (restr σ H) H ⟨K⟩ trivial) : @callD P f args H ⟨K⟩ trivial := by
  obtain ⟨⟨h1, h2⟩, r, Hout, h3, h4, h5⟩ := h
  have hlv : ∀ r ∈ σ, liv H[r]? = true := fun r hr => by
    have := List.all_eq_true.1 h2 r hr
    cases hx : H[r]? with
    | none => rw [hx] at this; cases this
    | some x => cases x with
      | gone => rw [hx] at this; cases this
      | blk _ _ _ _ => rfl
  refine ⟨_, _, _, callG_on own σ (K := fun a h => a = _ ∧ h = _) ⟨⟨h1, h2⟩, callN_fun h3 h4 ⟨rfl, ?_⟩⟩, h5⟩
  unfold mergeH
  rw [mergeSet_setA _ _ _ _ h1 hlv]
theorem callMD_fun {f : FuncId} {own : Bool} {σ : List Nat} {args : List AV} {Hin H Hout : Heap} {K : AV → List (Nat × Root) → List Root → Prop} {r : AV} (hc : Fun P f args Hin r Hout) (hv : own = true → (Hout.take σ.length).all Root.noView = true)
    (hk : K (r.ren (backN σ H.length)) (stM (backN σ H.length) σ Hout H) ((Hout.drop σ.length).map (Root.ren (backN σ H.length)))) : @callMD P f own σ args Hin H ⟨K⟩ trivial := ⟨r, Hout, hc, hv, hk⟩
attribute [simp] stM
@[simp] theorem isB_b (n b : Bool) (e : TypeId) (c : List AV) : isB (.blk n b e c) = true := .trans rfl rfl
@[simp] theorem liv_b (n b : Bool) (e : TypeId) (c : List AV) : liv (some (.blk n b e c)) = true := .trans rfl rfl
section
variable (m : List Nat) (all rest : List Oper) (H0 Hb : Heap) (i n : Nat) (l : List (Nat × AV)) (d : Option Tmp) (N : List (Nat × Root)) (S : List (Nat × Nat × Root)) (T : List (Nat × Option Nat)) (K : List AV → Heap → Prop)
@[simp ↓] theorem drawCX_cons (a : AV) (p : Nat × Root) (st : List (Nat × Root)) (news : List Root) : @drawCX P ⟨m⟩ ⟨all⟩ ⟨rest⟩ H0 Hb i n l d N S T ⟨K⟩ a (p :: st) news =
    ((∀ q ∈ p :: st, tOk m i q.1 T ∧ liv Hb[q.1]? = true) ∧ @drawCA P ⟨m⟩ ⟨all⟩ ⟨rest⟩ H0 [] i n l d N ((p :: st).map (fun p => (i, p.1, p.2)) ++ S) ((i, none) :: T) ⟨K⟩ a news) := by
  unfold drawCX drawCA; simp
end

-- what is reckoned
attribute [simp] posN pasP pasR pasQ pasH restr liveB AV.frz pass0 passA passA.pass1
@[simp] theorem ownW_some (σ : List Nat) (H : Heap) (nw : Bool) (e : TypeId) (cells : List AV) (o n q : Nat) : ownW true σ H (some (.blk nw false e cells)) o n q = .view false (((cells.drop o).take (n * q)).map AV.frz) n := .trans rfl rfl
@[simp] theorem ownW_box (σ : List Nat) (H : Heap) (nw : Bool) (e : TypeId) (cells : List AV) (o n q : Nat) : ownW true σ H (some (.blk nw true e cells)) o n q = .view false (((cells.drop o).take (n * q)).map (cellB true σ H)) n := .trans rfl rfl
@[simp] theorem ownW_false (σ : List Nat) (H : Heap) (x : Option Root) (o n q : Nat) : ownW false σ H x o n q = ownV false x o n q := .trans rfl rfl
@[simp] theorem ownV_some (nw : Bool) (e : TypeId) (cells : List AV) (o n q : Nat) : ownV true (some (.blk nw false e cells)) o n q = .view false (((cells.drop o).take (n * q)).map AV.frz) n := .trans rfl rfl
@[simp] theorem ownP_some (σ : List Nat) (H : Heap) (nw box : Bool) (e : TypeId) (cells : List AV) (o : Nat) : ownP true σ H (some (.blk nw box e cells)) o = if ((cells.drop o).map (pass0 true true σ H)).all AV.isPure = true then .vptr false ((cells.drop o).map (pass0 true true σ H)) else .any := .trans rfl rfl
@[simp] theorem map_frz_flat {l : List AV} (h : l.all AV.flat = true) : l.map AV.frz = l := by
  rw [List.all_eq_true] at h
  refine (List.map_congr_left (g := id) (fun a ha => ?_)).trans (List.map_id l)
  have := h a ha
  cases a <;> first | (cases this; done) | simp [AV.frz]
@[simp] theorem map_pass0_flat {nv own : Bool} {σ : List Nat} {H : Heap} {l : List AV} (h : l.all AV.flat = true) (hn : .nils ∉ l) : l.map (pass0 nv own σ H) = l := by
  rw [List.all_eq_true] at h
  refine (List.map_congr_left (g := id) (fun a ha => ?_)).trans (List.map_id l)
  have := h a ha
  cases a <;> first | (cases this; done) | (exact absurd ha hn) | simp [pass0]
theorem ren_int (f : Nat → Nat) (k : IntKind) (n : Int) : (AV.int k n).ren f = .int k n := by simp only [AV.ren]
@[simp] theorem ren_any (f : Nat → Nat) : AV.any.ren f = .any := by simp only [AV.ren]
attribute [simp] ren_int
@[simp] theorem ren_bool (f : Nat → Nat) (b : Bool) : (AV.bool b).ren f = .bool b := by simp only [AV.ren]
@[simp] theorem ren_flt (f : Nat → Nat) (k : FloatKind) (n : Nat) : (AV.flt k n).ren f = .flt k n := by simp only [AV.ren]
@[simp] theorem ren_str (f : Nat → Nat) (s : ByteArray) : (AV.str s).ren f = .str s := by simp only [AV.ren]
@[simp] theorem ren_ifc (f : Nat → Nat) (s : Bool) : (AV.ifc s).ren f = .ifc s := by simp only [AV.ren]
@[simp] theorem ren_nilp (f : Nat → Nat) : AV.nilp.ren f = .nilp := by simp only [AV.ren]
@[simp] theorem ren_nils (f : Nat → Nat) : AV.nils.ren f = .nils := by simp only [AV.ren]
@[simp] theorem ren_nilf (f : Nat → Nat) : AV.nilf.ren f = .nilf := by simp only [AV.ren]
@[simp] theorem ren_ptr (f : Nat → Nat) (r o : Nat) : (AV.ptr r o).ren f = .ptr (f r) o := by simp only [AV.ren]
@[simp] theorem ren_slc (f : Nat → Nat) (r o n q : Nat) : (AV.slc r o n q).ren f = .slc (f r) o n q := by simp only [AV.ren]
@[simp] theorem ren_view (f : Nat → Nat) (b : Bool) (c : List AV) (n : Nat) : (AV.view b c n).ren f = .view b c n := by simp only [AV.ren]
@[simp] theorem ren_vptr (f : Nat → Nat) (b : Bool) (c : List AV) : (AV.vptr b c).ren f = .vptr b c := by simp only [AV.ren]
@[simp] theorem ren_mp (f : Nat → Nat) (r : Nat) : (AV.mp r).ren f = .mp (f r) := by simp only [AV.ren]
@[simp] theorem ren_mview (f : Nat → Nat) (b : Bool) (e : Nat) (ks : List (List Int)) (c : List AV) : (AV.mview b e ks c).ren f = .mview b e ks c := by simp only [AV.ren]
@[simp] theorem ren_agg (f : Nat → Nat) (l : List AV) : (AV.agg l).ren f = .agg (l.map (AV.ren f)) := by simp only [AV.ren]
@[simp] theorem ren_tup (f : Nat → Nat) (l : List AV) : (AV.tup l).ren f = .tup (l.map (AV.ren f)) := by simp only [AV.ren]
@[simp] theorem ren_clo (f : Nat → Nat) (g : FuncId) (a b : List AV) : (AV.clo g a b).ren f = .clo g (a.map (AV.ren f)) (b.map (AV.ren f)) := by simp only [AV.ren]
@[simp] theorem rren_flat (f : Nat → Nat) (nw : Bool) (e : TypeId) (c : List AV) : Root.ren f (.blk nw false e c) = .blk nw false e c := .trans rfl rfl
@[simp] theorem rren_box (f : Nat → Nat) (nw : Bool) (e : TypeId) (c : List AV) : Root.ren f (.blk nw true e c) = .blk nw true e (c.map (AV.ren f)) := .trans rfl rfl
@[simp] theorem rren_gone (f : Nat → Nat) : Root.ren f .gone = .gone := .trans rfl rfl
@[simp] theorem map_ren_flat' {f : Nat → Nat} {l : List AV} (h : l.all AV.flat = true) : l.map (AV.ren f) = l := map_ren_flat h
@[simp] theorem withNew_blk (n n' b b' : Bool) (e e' : TypeId) (c c' : List AV) : withNew (.blk n b e c) (.blk n' b' e' c') = .blk n b' e' c' := .trans rfl rfl
@[simp] theorem withNew_gone (x : Root) : withNew x .gone = .gone := by cases x <;> rfl
attribute [simp] mergeSet mergeH backN
@[simp] theorem noView_blk (n b : Bool) (e : TypeId) (c : List AV) : Root.noView (.blk n b e c) = c.all AV.noView := .trans rfl rfl
@[simp] theorem noView_slc (r o n q : Nat) : AV.noView (.slc r o n q) = true := .trans rfl rfl
@[simp] theorem noView_ptr (r o : Nat) : AV.noView (.ptr r o) = true := .trans rfl rfl
@[simp] theorem noView_int (k : IntKind) (n : Int) : AV.noView (.int k n) = true := .trans rfl rfl
@[simp] theorem noView_bool (b : Bool) : AV.noView (.bool b) = true := .trans rfl rfl
@[simp] theorem noView_flt (k : FloatKind) (n : Nat) : AV.noView (.flt k n) = true := .trans rfl rfl
@[simp] theorem noView_str (s : ByteArray) : AV.noView (.str s) = true := .trans rfl rfl
@[simp] theorem noView_ifc (s : Bool) : AV.noView (.ifc s) = true := .trans rfl rfl
@[simp] theorem noView_nils : AV.noView .nils = true := .trans rfl rfl
@[simp] theorem noView_nilp : AV.noView .nilp = true := .trans rfl rfl
@[simp] theorem noView_any : AV.noView .any = true := .trans rfl rfl
theorem noView_of_flat {a : AV} (h : a.flat = true) : a.noView = true := by cases a <;> first | (cases h; done) | rfl
@[simp] theorem all_noView {l : List AV} (h : l.all AV.flat = true) : l.all AV.noView = true := by
  rw [List.all_eq_true] at h ⊢
  exact fun a ha => noView_of_flat (h a ha)
@[simp] theorem all_isPure {l : List AV} (h : l.all AV.flat = true) : l.all AV.isPure = true := pure_flat h

-- ends
mutual
def AV.newB : AV → Bool
  | .agg l => newBL l
  | .tup l => newBL l
  | .view true c _ => newBL c
  | .view _ _ 0 => true
  | .vptr true c => newBL c
  | .mview true _ _ c => newBL c
  | .mp _ => true
  | .clo _ [] [] => true
  | .ptr _ _ => true
  | .slc _ _ _ _ => true
  | a => a.flat
def newBL : List AV → Bool
  | [] => true
  | a :: l => a.newB && newBL l
end
theorem newBL_all : ∀ (l : List AV), newBL l = l.all AV.newB
  | [] => rfl
  | a :: l => by simp only [newBL, List.all_cons, newBL_all l]
theorem new_newB : ∀ (a : AV), a.newB = true → AllNew a
  | .any, _ => .any
  | .int _ _, _ => .int _ _
  | .bool _, _ => .bool _
  | .flt _ _, _ => .flt _ _
  | .str _, _ => .str _
  | .ifc _, _ => .ifc _
  | .nilp, _ => .nilp
  | .nils, _ => .nils
  | .nilf, _ => .nilf
  | .ptr _ _, _ => .ptr _ _
  | .slc _ _ _ _, _ => .slc _ _ _ _
  | .agg l, h => .agg l fun a ha => by
    simp only [AV.newB, newBL_all, List.all_eq_true] at h
    exact new_newB a (h a ha)
  | .tup l, h => .tup l fun a ha => by
    simp only [AV.newB, newBL_all, List.all_eq_true] at h
    exact new_newB a (h a ha)
  | .view true c n, h => .view c n fun a ha => by
    simp only [AV.newB, newBL_all, List.all_eq_true] at h
    exact new_newB a (h a ha)
  | .view false c 0, _ => .view0 _ _
  | .view false c (n + 1), h => by simp [AV.newB, AV.flat] at h
  | .vptr true c, h => .vptr c fun a ha => by
    simp only [AV.newB, newBL_all, List.all_eq_true] at h
    exact new_newB a (h a ha)
  | .vptr false c, h => by simp [AV.newB, AV.flat] at h
  | .mp r, _ => .mp r
  | .mview true e ks c, h => .mview e ks c fun a ha => by
    simp only [AV.newB, newBL_all, List.all_eq_true] at h
    exact new_newB a (h a ha)
  | .mview false _ _ c, h => by simp [AV.newB, AV.flat] at h
  | .clo f [] [], _ => .clo0 f
  | .clo f (_ :: _) _, h => by simp [AV.newB, AV.flat] at h
  | .clo f [] (_ :: _), h => by simp [AV.newB, AV.flat] at h
termination_by a => SizeOf.sizeOf a
decreasing_by
  all_goals
    simp_wf
    have := List.sizeOf_lt_of_mem (by assumption)
    omega
theorem all_newB {l : List AV} (h : l.all AV.flat = true) : l.all AV.newB = true := by
  rw [List.all_eq_true] at h ⊢
  intro a ha
  have := h a ha
  cases a <;> first | (cases this; done) | simp [AV.newB, AV.flat]
attribute [simp] all_newB AV.newB newBL_all
def Root.newB : Root → Bool
  | .blk new _ _ cells => new && cells.all AV.newB
  | .gone => true
@[simp] theorem newB_blk (nw b : Bool) (e : TypeId) (c : List AV) : Root.newB (.blk nw b e c) = (nw && c.all AV.newB) := .trans rfl rfl

/-- Roots told anew: the old one, what is told of it. -/
def leR (f : Nat → Nat) (Z : Nat → Prop) : Root → Root → Prop
  | .blk n b e c, .blk n' b' e' c' => n = n' ∧ b = b' ∧ e = e' ∧ (b = false → c = c') ∧ (b = true → leL f Z c c')
  | _, .gone => True
  | .gone, _ => False
def leH (f : Nat → Nat) (Z : Nat → Prop) : Heap → Heap → Prop
  | [], [] => True
  | x :: xs, y :: ys => leR f Z x y ∧ leH f Z xs ys
  | _, _ => False
theorem leH_get {f : Nat → Nat} {Z : Nat → Prop} : ∀ {l l' : Heap}, leH f Z l l' → l'.length = l.length ∧ ∀ (i : Nat) x y, l[i]? = some x → l'[i]? = some y → leR f Z x y
  | [], [], _ => ⟨rfl, fun i a a' h => by simp at h⟩
  | a :: l, a' :: l', h => by
    obtain ⟨h1, h2⟩ := leH_get h.2
    refine ⟨by simp [h1], fun i b b' hb hb' => ?_⟩
    cases i with
    | zero => simp at hb hb'; subst hb; subst hb'; exact h.1
    | succ i => exact h2 i b b' (by simpa using hb) (by simpa using hb')
  | [], _ :: _, h => h.elim
  | _ :: _, [], h => h.elim
/-- The roots that stay: those of the caller, and some of the new ones. 'none': a row that is not there yet, of elements of type e. -/
def keepH (n0 : Nat) (τ : List (Option Nat × TypeId)) (H : Heap) : Heap := H.take n0 ++ τ.map fun k => match k.1 with
  | some k => H.getD k .gone
  | none => .blk true false k.2 []
def oldT (n0 n : Nat) (τ : List (Option Nat × TypeId)) : Nat → Nat := oldN n0 n (τ.map (·.1))
def noRow (n0 : Nat) (τ : List (Option Nat × TypeId)) (r : Nat) : Prop := n0 ≤ r ∧ (τ[r - n0]?).map (·.1) = some none

theorem gc_mk {n0 : Nat} {τ : List (Option Nat × TypeId)} {s s' : List AV} {H H' : Heap} (hle : n0 ≤ H.length) (hnd : (τ.filterMap (·.1)).Nodup) (hb : ∀ k ∈ τ.filterMap (·.1), n0 ≤ k ∧ k < H.length)
    (hs : leL (oldT n0 H.length τ) (noRow n0 τ) s s') (hr : leH (oldT n0 H.length τ) (noRow n0 τ) (keepH n0 τ H) H') : Gc n0 (τ.map (·.1)) s H s' H' := by
  obtain ⟨h1, h2⟩ := leH_get hr
  have hlen : H'.length = n0 + τ.length := by rw [h1]; simp [keepH]; omega
  have hZ : (noRow n0 τ) = fun r => n0 ≤ r ∧ (τ.map (·.1))[r - n0]? = some none := by
    funext r; simp [noRow]
  refine ⟨by simpa using hlen, hle, by simpa [List.filterMap_map] using hnd, fun k r hk => ?_, by rw [← hZ]; exact hs, fun r new box e cells hr => ?_⟩
  · refine hb r (List.mem_filterMap.2 ?_)
    rw [List.getElem?_map] at hk
    cases ht : τ[k]? with
    | none => rw [ht] at hk; cases hk
    | some p => rw [ht] at hk; exact ⟨p, List.mem_of_getElem? ht, by simpa using hk⟩
  · have hlt := (List.getElem?_eq_some_iff.1 hr).1
    have hx : (keepH n0 τ H)[r]? = some ((keepH n0 τ H)[r]'(by omega)) := List.getElem?_eq_getElem (by omega)
    have hR := h2 r _ _ hx hr
    by_cases c : r < n0
    · right
      have hk : (keepH n0 τ H)[r]? = H[r]? := by
        unfold keepH
        rw [List.getElem?_append_left (by simp; omega), List.getElem?_take, if_pos c]
      have ho : oldN n0 H.length (τ.map (·.1)) r = r := by unfold oldN; rw [if_pos c]
      rw [ho, ← hk, hx]
      generalize (keepH n0 τ H)[r]'(by omega) = x at hR
      cases x with
      | gone => exact hR.elim
      | blk n b e' c' =>
        obtain ⟨rfl, rfl, rfl, g1, g2⟩ := hR
        exact ⟨c', rfl, g1, fun hb => by rw [← hZ]; exact g2 hb⟩
    · have hk : (keepH n0 τ H)[r]? = (τ[r - n0]?).map fun k => match k.1 with | some k => H.getD k .gone | none => .blk true false k.2 [] := by
        unfold keepH
        rw [List.getElem?_append_right (by simp; omega), List.getElem?_map]
        simp [Nat.min_eq_left hle]
      have ht : τ[r - n0]? = some (τ[r - n0]'(by omega)) := List.getElem?_eq_getElem (by omega)
      generalize τ[r - n0]'(by omega) = p at ht
      obtain ⟨o, ty⟩ := p
      rw [ht] at hk
      simp only [Option.map_some] at hk
      cases o with
      | none =>
        left
        simp only at hk
        rw [hx] at hk
        have hk' := Option.some.inj hk
        rw [hk'] at hR
        obtain ⟨rfl, rfl, rfl, g1, g2⟩ := hR
        refine ⟨by omega, by simp [ht], rfl, rfl, (g1 rfl).symm⟩
      | some k =>
        right
        simp only at hk
        have ho : oldN n0 H.length (τ.map (·.1)) r = k := by
          unfold oldN; rw [if_neg c, List.getElem?_map, ht]; rfl
        obtain ⟨k1, k2⟩ := hb k (List.mem_filterMap.2 ⟨(some k, ty), List.mem_of_getElem? ht, rfl⟩)
        have hg : H[k]? = some (H[k]'k2) := List.getElem?_eq_getElem k2
        rw [List.getD_eq_getElem?_getD, hg, hx] at hk
        have hk' : (keepH n0 τ H)[r]'(by omega) = H[k]'k2 := Option.some.inj hk
        rw [hk'] at hR
        rw [ho, hg]
        generalize H[k]'k2 = x at hR
        cases x with
        | gone => exact hR.elim
        | blk n b e' c' =>
          obtain ⟨rfl, rfl, rfl, g1, g2⟩ := hR
          exact ⟨c', rfl, g1, fun hb => by rw [← hZ]; exact g2 hb⟩

/-- An end: which new roots stay, what is handed back. -/
theorem endG_keepT {rs : List ResultVar} {Hin H Hout : Heap} {r : AV} {R : AV → Heap → Prop} {s : List AV} (τ : List (Option Nat × TypeId)) (hle : Hin.length ≤ H.length) (hnd : (τ.filterMap (·.1)).Nodup) (hb : ∀ k ∈ τ.filterMap (·.1), Hin.length ≤ k ∧ k < H.length)
    (hr : leH (oldT Hin.length H.length τ) (noRow Hin.length τ) (keepH Hin.length τ H) Hout) (hnw : (Hout.drop Hin.length).all Root.newB = true) (hlv : ∀ x ∈ Hout.take Hin.length, liveB (some x) = true) (hrn : r.newB = true) (hR : R r Hout)
    (h : resL P s H rs fun l => leV (oldT Hin.length H.length τ) (noRow Hin.length τ) (resOne l) r) : endG P rs Hin R s H := by
  unfold endG
  refine resL_mono rs (fun l hl => ?_) h
  refine ⟨_, r, Hout, gc_mk hle hnd hb ⟨hl, trivial⟩ hr, new_newB r hrn, fun k new box e cells hk hx => ?_, fun k hk => ?_, hR⟩
  · have hm : Root.blk new box e cells ∈ Hout.drop Hin.length := by
      refine List.mem_of_getElem? (i := k - Hin.length) ?_
      rw [List.getElem?_drop, show Hin.length + (k - Hin.length) = k by omega]; exact hx
    have := List.all_eq_true.1 hnw _ hm
    simp only [newB_blk, Bool.and_eq_true, List.all_eq_true] at this
    exact ⟨this.1, fun a ha => new_newB a (this.2 a ha)⟩
  · have hlen : Hin.length ≤ Hout.length := by rw [(leH_get hr).1]; simp [keepH]; omega
    have hm : Hout[k]? = some (Hout[k]'(by omega)) := List.getElem?_eq_getElem (by omega)
    have hin : Hout[k]'(by omega) ∈ Hout.take Hin.length := by
      refine List.mem_of_getElem? (i := k) ?_
      rw [List.getElem?_take, if_pos hk]; exact hm
    have := hlv _ hin
    generalize Hout[k]'(by omega) = x at hm this
    cases x with
    | gone => cases this
    | blk n b e c => exact ⟨n, b, e, c, hm⟩

/-- An end of a body that may hand back what it was given to read. -/
theorem endGV_keepT {rs : List ResultVar} {Hin H Hout : Heap} {r : AV} {R : AV → Heap → Prop} {s : List AV} (τ : List (Option Nat × TypeId)) (hle : Hin.length ≤ H.length) (hnd : (τ.filterMap (·.1)).Nodup) (hb : ∀ k ∈ τ.filterMap (·.1), Hin.length ≤ k ∧ k < H.length)
    (hr : leH (oldT Hin.length H.length τ) (noRow Hin.length τ) (keepH Hin.length τ H) Hout) (hnw : ∀ x ∈ Hout.drop Hin.length, (match x with | .blk new _ _ _ => new | .gone => true) = true) (hlv : ∀ x ∈ Hout.take Hin.length, liveB (some x) = true) (hR : R r Hout)
    (h : resL P s H rs fun l => leV (oldT Hin.length H.length τ) (noRow Hin.length τ) (resOne l) r) : endGV P rs Hin R s H := by
  unfold endGV
  refine resL_mono rs (fun l hl => ?_) h
  refine ⟨_, r, Hout, gc_mk hle hnd hb ⟨hl, trivial⟩ hr, fun k new box e cells hk hx => ?_, fun k hk => ?_, hR⟩
  · have hm : Root.blk new box e cells ∈ Hout.drop Hin.length := by
      refine List.mem_of_getElem? (i := k - Hin.length) ?_
      rw [List.getElem?_drop, show Hin.length + (k - Hin.length) = k by omega]; exact hx
    exact hnw _ hm
  · have hlen : Hin.length ≤ Hout.length := by rw [(leH_get hr).1]; simp [keepH]; omega
    have hm : Hout[k]? = some (Hout[k]'(by omega)) := List.getElem?_eq_getElem (by omega)
    have hin : Hout[k]'(by omega) ∈ Hout.take Hin.length := by
      refine List.mem_of_getElem? (i := k) ?_
      rw [List.getElem?_take, if_pos hk]; exact hm
    have := hlv _ hin
    generalize Hout[k]'(by omega) = x at hm this
    cases x with
    | gone => cases this
    | blk n b e c => exact ⟨n, b, e, c, hm⟩

/-- The end of a body that leaves plain values and no root. -/
def endF (P : Program) (rs : List ResultVar) (R : AV → Heap → Prop) : Exit → List AV → Heap → Prop := fun e s H => match e with
  | .normal => resL P s H rs fun l => (resOne l).flats = true ∧ R (resOne l) []
  | .ret => resL P s H rs fun l => (resOne l).flats = true ∧ R (resOne l) []
  | _ => False
@[simp ↓] theorem endF_normal (rs : List ResultVar) (R : AV → Heap → Prop) (s : List AV) (H : Heap) : endF P rs R .normal s H = resL P s H rs fun l => (resOne l).flats = true ∧ R (resOne l) [] := .trans rfl rfl
@[simp ↓] theorem endF_ret (rs : List ResultVar) (R : AV → Heap → Prop) (s : List AV) (H : Heap) : endF P rs R .ret s H = resL P s H rs fun l => (resOne l).flats = true ∧ R (resOne l) [] := .trans rfl rfl
theorem FnSpec.walkF {f : FuncId} {fn : Func} {c : Code} {nt : Nat} {rs : List ResultVar} {avs : List AV} {R : AV → Heap → Prop} (hdr : DrawOk P okN (drawK P))
    (hf : P.funcs[f]? = some fn) (hb : fn.body = some c) (hdo : drawsOk okN c = true) (hname : (fn.name == "runtime.NumGoroutine") = false)
    (hnt : fn.ntmps = nt) (hrs : fn.results.toList = rs) (hle : avs.length ≤ nt) (h : codeG P (drawK P) [] c (U nt (inits 0 avs)) [] (endF P rs R)) : FnSpec P f avs [] R :=
  FnSpec.of_goalK hdr hf hb hdo hname hnt hrs (K := endF P rs R) (fun e s H hk => by
    cases e <;> first | exact endG_flat hk | exact hk) (by rw [U_init hle]; exact h)
attribute [simp] AV.flats

-- loops
def loopK {α : Type} (H0 : Heap) (n : Nat) [inv : Hold (α → Prop)] [meas : Hold (α → Nat)] [sl : Hold (α → List (Nat × AV))] [hp : Hold (α → Heap)] [x : Hold α] [Q : Hold (Exit → List AV → Heap → Prop)] (_t : True) : Exit → List AV → Heap → Prop := fun e s H => match e with
  | .normal => ∃ m s1 H1, m < meas.v x.v ∧ Weak H0 s H s1 H1 ∧ ∃ y, inv.v y ∧ meas.v y = m ∧ s1 = U n (sl.v y) ∧ H1 = hp.v y
  | e => Q.v e s H
section
variable {H0 : Heap} {n : Nat} {α : Type} {inv : α → Prop} {meas : α → Nat} {sl : α → List (Nat × AV)} {hp : α → Heap} {x : α} {Q : Exit → List AV → Heap → Prop} {s : List AV} {H : Heap}
@[simp ↓] theorem loopK_exit (i : Nat) : @loopK α H0 n ⟨inv⟩ ⟨meas⟩ ⟨sl⟩ ⟨hp⟩ ⟨x⟩ ⟨Q⟩ trivial (.exit i) s H = Q (.exit i) s H := .trans rfl rfl
@[simp ↓] theorem loopK_ret : @loopK α H0 n ⟨inv⟩ ⟨meas⟩ ⟨sl⟩ ⟨hp⟩ ⟨x⟩ ⟨Q⟩ trivial .ret s H = Q .ret s H := .trans rfl rfl
theorem loopK_next (y : α) (h1 : meas y < meas x) (h2 : inv y) (h3 : Weak H0 s H (U n (sl y)) (hp y)) : @loopK α H0 n ⟨inv⟩ ⟨meas⟩ ⟨sl⟩ ⟨hp⟩ ⟨x⟩ ⟨Q⟩ trivial .normal s H := ⟨_, _, _, h1, h3, y, h2, rfl, rfl, rfl⟩
theorem loopG_of {l : List (Nat × AV)} {dr : List Oper → List AV → Heap → (List AV → Heap → Prop) → Prop} {body : Code} (inv : α → Prop) (meas : α → Nat) (sl : α → List (Nat × AV)) (hp : α → Heap) (x : α) (h1 : inv x) (h2 : Weak H0 (U n l) H (U n (sl x)) (hp x))
    (hr : ∀ x, inv x → codeG P dr H0 body (U n (sl x)) (hp x) (@loopK α H0 n ⟨inv⟩ ⟨meas⟩ ⟨sl⟩ ⟨hp⟩ ⟨x⟩ ⟨Q⟩ trivial)) : @loopG P dr H0 ⟨body⟩ n l H ⟨Q⟩ trivial :=
  ⟨fun m s H => ∃ y, inv y ∧ meas y = m ∧ s = U n (sl y) ∧ H = hp y, ⟨meas x, _, _, h2, x, h1, rfl, rfl, rfl⟩, by
    rintro m s H ⟨y, hy, rfl, rfl, rfl⟩
    exact hr y hy⟩
end
theorem weak_U {H0 H : Heap} {n : Nat} {l l' : List (Nat × AV)} (h : ∀ p ∈ l', look l p.1 = p.2) : Weak H0 (U n l) H (U n l') H := by
  rintro m0 w0 X a w hXX hm ⟨map, h1, h2, h3, h4, h5⟩
  refine ⟨map, ⟨?_, fun i a' v ha hv => ?_⟩, h2, h3, h4, h5⟩
  · have := h1.1; simpa [U] using this
  · rw [U_get] at ha
    split at ha
    · rename_i hi
      have hl : (U n l)[i]? = some (look l i) := by rw [U_get, if_pos hi]
      have hr := h1.2 i _ v hl hv
      cases ha
      have key : ∀ (l' : List (Nat × AV)), (∀ p ∈ l', look l p.1 = p.2) → look l' i = .any ∨ look l' i = look l i := by
        intro l'
        induction l' with
        | nil => exact fun _ => .inl rfl
        | cons p l' ih =>
          intro h
          obtain ⟨d, v⟩ := p
          simp only [look]
          split
          · rename_i e; subst e
            exact .inr (h (d, v) (List.mem_cons_self ..)).symm
          · exact ih fun p hp => h p (List.mem_cons_of_mem _ hp)
      rcases key l' h with e | e
      · rw [e]; exact .any v
      · rw [e]; exact hr
    · cases ha
theorem Weak.trans {H0 H H1 H2 : Heap} {s s1 s2 : List AV} (h : Weak H0 s H s1 H1) (k : Weak H0 s1 H1 s2 H2) : Weak H0 s H s2 H2 :=
  fun m0 w0 X a w hX hm hs => k m0 w0 X a w hX hm (h m0 w0 X a w hX hm hs)
theorem weak_freezeU {H0 H H1 : Heap} {n : Nat} {l l1 : List (Nat × AV)} (F : Nat → Prop) {r : Nat} {bx : Bool} {e : Nat} {ks : List (List Int)} {vs ws : List AV} (hat : MapAt H r true bx e ks vs) (hFr : F r)
    (hl : ws.length = vs.length) (hv : ∀ (j : Nat) a b, vs[j]? = some a → ws[j]? = some b → Froz H F a b)
    (hlen : H1.length = H.length) (hH : ∀ (q : Nat) nw bx e c, H1[q]? = some (.blk nw bx e c) → H[q]? = some (.blk nw bx e c) ∧ ¬ F q)
    (h : ∀ p ∈ l1, look l p.1 = p.2 ∨ look l p.1 = .mp r ∧ p.2 = .mview true e ks ws) : Weak H0 (U n l) H (U n l1) H1 := by
  refine weak_freeze F hat hFr hl hv hlen hH (by simp [U]) fun i b hb => ?_
  rw [U_get] at hb
  split at hb
  · rename_i hi
    cases hb
    have key : ∀ (l1 : List (Nat × AV)), (∀ p ∈ l1, look l p.1 = p.2 ∨ look l p.1 = .mp r ∧ p.2 = .mview true e ks ws) → look l1 i = .any ∨ look l i = look l1 i ∨ look l i = .mp r ∧ look l1 i = .mview true e ks ws := by
      intro l1
      induction l1 with
      | nil => exact fun _ => .inl rfl
      | cons p l1 ih =>
        intro h
        obtain ⟨d, v⟩ := p
        simp only [look]
        split
        · rename_i e; subst e
          rcases h (d, v) (List.mem_cons_self ..) with g | g
          · exact .inr (.inl g)
          · exact .inr (.inr g)
        · exact ih fun p hp => h p (List.mem_cons_of_mem _ hp)
    rw [U_get, if_pos hi]
    rcases key l1 h with g | g | ⟨g1, g2⟩
    · exact .inl g
    · exact .inr (.inl (by rw [g]))
    · exact .inr (.inr ⟨by rw [g1], g2⟩)
  · cases hb
theorem weak_UH {H0 H H' : Heap} {n : Nat} {l l' : List (Nat × AV)} (hH : H = H') (h : ∀ p ∈ l', look l p.1 = p.2) : Weak H0 (U n l) H (U n l') H' := by subst hH; exact weak_U h
theorem leL_U {f : Nat → Nat} {Z : Nat → Prop} {n : Nat} {l l' : List (Nat × AV)} (h : ∀ p ∈ l', leV f Z (look l p.1) p.2) : leL f Z (U n l) (U n l') := by
  have key : ∀ t, leV f Z (look l t) (look l' t) := by
    intro t
    induction l' with
    | nil => exact .inl rfl
    | cons p l' ih =>
      obtain ⟨d, v⟩ := p
      simp only [look]
      split
      · rename_i e; subst e; exact h (d, v) (List.mem_cons_self ..)
      · exact ih fun p hp => h p (List.mem_cons_of_mem _ hp)
  unfold U
  generalize List.range n = ts
  induction ts with
  | nil => trivial
  | cons t ts ih => exact ⟨key t, ih⟩
theorem weak_gc {H0 H H' : Heap} {n : Nat} {l l' : List (Nat × AV)} (τ : List (Option Nat × TypeId)) (hle : H0.length ≤ H.length) (hnd : (τ.filterMap (·.1)).Nodup) (hb : ∀ k ∈ τ.filterMap (·.1), H0.length ≤ k ∧ k < H.length)
    (hs : ∀ p ∈ l', leV (oldT H0.length H.length τ) (noRow H0.length τ) (look l p.1) p.2) (hr : leH (oldT H0.length H.length τ) (noRow H0.length τ) (keepH H0.length τ H) H') : Weak H0 (U n l) H (U n l') H' :=
  Weak.gc _ (gc_mk hle hnd hb (leL_U hs) hr)
attribute [simp] leR leH leL keepH oldT noRow oldN leV
end Go.Awp
