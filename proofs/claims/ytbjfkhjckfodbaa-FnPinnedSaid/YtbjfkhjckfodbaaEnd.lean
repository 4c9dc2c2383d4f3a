/- How bodies end and how calls are met: the common forms.
Conditions: none. -/
import Derived.Test.YtbjfkhjckfodbaaFn
namespace Go.Awp
set_option linter.all false
open Go

/-- Plain values, and rows of such. -/
def AV.flats : AV → Bool
  | .agg l => l.all AV.flat
  | .tup l => l.all fun a => match a with
    | .agg l => l.all AV.flat
    | a => a.flat
  | a => a.flat

theorem ren_flat {f : Nat → Nat} {a : AV} (h : a.flat = true) : a.ren f = a := by
  cases a <;> first | (cases h; done) | simp [AV.ren]
theorem map_ren_flat {f : Nat → Nat} {l : List AV} (h : l.all AV.flat = true) : l.map (AV.ren f) = l := by
  rw [List.all_eq_true] at h
  exact (List.map_congr_left (fun a ha => ren_flat (h a ha))).trans (List.map_id l)
theorem ren_flats {f : Nat → Nat} {a : AV} (h : a.flats = true) : a.ren f = a := by
  cases a with
  | agg l => simp only [AV.ren]; rw [map_ren_flat h]
  | tup l =>
    simp only [AV.ren]
    congr 1
    have h' : ∀ a ∈ l, (match a with | AV.agg l => l.all AV.flat | a => a.flat) = true := by
      simpa [AV.flats, List.all_eq_true] using h
    refine (List.map_congr_left (g := id) (fun a ha => ?_)).trans (List.map_id l)
    have := h' a ha
    cases a with
    | agg l => simp only [AV.ren, id]; rw [map_ren_flat this]
    | tup l => cases this
    | view _ _ _ => cases this
    | vptr _ _ => cases this
    | ptr _ _ => cases this
    | slc _ _ _ _ => cases this
    | clo _ _ _ => cases this
    | mp _ => cases this
    | _ => simp [AV.ren]
  | view _ _ _ => cases h
  | vptr _ _ => cases h
  | ptr _ _ => cases h
  | slc _ _ _ _ => cases h
  | clo _ _ _ => cases h
  | mp _ => cases h
  | _ => simp [AV.ren]
theorem new_flats {a : AV} (h : a.flats = true) : AllNew a := by
  cases a with
  | agg l => exact .agg l (allNew_flat h)
  | tup l =>
    refine .tup l fun a ha => ?_
    have h' : ∀ a ∈ l, (match a with | AV.agg l => l.all AV.flat | a => a.flat) = true := by
      simpa [AV.flats, List.all_eq_true] using h
    have := h' a ha
    cases a with
    | agg l => exact .agg l (allNew_flat this)
    | _ => first | (cases this; done) | constructor
  | _ => first | (cases h; done) | constructor

section
variable {P : Program}

theorem loadG_mono {t : TypeId} {a : AV} {H : Heap} {K K' : AV → Prop} (hk : ∀ av, K av → K' av) (h : loadG P t a H K) : loadG P t a H K' := by
  unfold loadG at h ⊢
  split at h
  · split at h
    · split at h
      · obtain ⟨av, h1, h2⟩ := h
        exact ⟨av, h1, hk av h2⟩
      · exact h.elim
    · obtain ⟨av, h1, h2⟩ := h
      exact ⟨av, h1, hk av h2⟩
    · exact h.elim
  · exact h.elim

theorem resL_mono {s : List AV} {H : Heap} : ∀ (rs : List ResultVar) {K K' : List AV → Prop}, (∀ l, K l → K' l) → resL P s H rs K → resL P s H rs K'
  | [], _, _, hk, h => hk _ h
  | .tmp _ :: rs, _, _, hk, h => resL_mono rs (fun _ => hk _) h
  | .cell _ _ :: rs, _, _, hk, h => loadG_mono (fun _ h => resL_mono rs (fun _ => hk _) h) h

/-- A body that leaves plain values and no root. -/
theorem endG_flat {rs : List ResultVar} {R : AV → Heap → Prop} {s : List AV} {H : Heap} (h : resL P s H rs fun l => (resOne l).flats = true ∧ R (resOne l) []) : endG P rs [] R s H := by
  unfold endG
  refine resL_mono rs (fun l ⟨h1, h2⟩ => ?_) h
  refine ⟨[], resOne l, [], ⟨rfl, Nat.zero_le _, by simp, fun k r h => by simp at h, ⟨.inr (.inl (ren_flats h1).symm), trivial⟩, fun r new box e cells h => by simp at h⟩, new_flats h1, fun r new box e cells _ h => by simp at h, fun r h => by simp at h, h2⟩
theorem mergeH_nil (H H' : Heap) : mergeH [] H H' = H ++ H'.map (Root.ren fun r => H.length + r) := by
  simp only [mergeH, mergeSet, List.length_nil, List.drop_zero]
  congr 2
theorem backN_nil (n : Nat) : backN [] n = fun r => n + r := by
  funext r; simp [backN]

/-- A call of a function that only reads, and hands plain values back. -/
theorem callG_own {f : FuncId} {avs avs' : List AV} {H : Heap} {K : AV → Heap → Prop} {R : AV → Heap → Prop} (h : FnSpec P f avs' [] R) (hp : PassL true [] H avs avs') (hk : ∀ av H', R av H' → H' = [] ∧ av.flats = true ∧ K av H) : callG P f avs H K := by
  refine .inl ⟨true, [], avs', [], R, .inl h, ⟨rfl, List.nodup_nil, fun i r h => by simp at h⟩, hp, fun av H' hr => ?_⟩
  obtain ⟨rfl, h2, h3⟩ := hk av H' hr
  refine ⟨fun _ => rfl, ?_⟩
  rw [mergeH_nil, ren_flats h2]
  simpa using h3

/-- A call of a function that only reads, and hands new memory back. -/
theorem callG_new {f : FuncId} {avs avs' : List AV} {H : Heap} {K : AV → Heap → Prop} {R : AV → Heap → Prop} (h : FnSpec P f avs' [] R) (hp : PassL true [] H avs avs')
    (hk : ∀ av H', R av H' → K (av.ren fun r => H.length + r) (H ++ H'.map (Root.ren fun r => H.length + r))) : callG P f avs H K := by
  refine .inl ⟨true, [], avs', [], R, .inl h, ⟨rfl, List.nodup_nil, fun i r h => by simp at h⟩, hp, fun av H' hr => ⟨fun _ => rfl, ?_⟩⟩
  have := hk av H' hr
  rw [mergeH_nil, backN_nil]
  exact this

theorem passL_nil (own : Bool) (σ : List Nat) (H : Heap) : PassL own σ H [] [] := ⟨rfl, fun i a a' h => by simp at h⟩
theorem passL_cons {own : Bool} {σ : List Nat} {H : Heap} {a a' : AV} {l l' : List AV} (h1 : PassV own σ H a a') (h2 : PassL own σ H l l') : PassL own σ H (a :: l) (a' :: l') := by
  refine ⟨by simp [h2.1], fun i b b' hb hb' => ?_⟩
  cases i with
  | zero => simp at hb hb'; subst hb; subst hb'; exact h1
  | succ i => exact h2.2 i b b' (by simpa using hb) (by simpa using hb')
theorem passL_flat {own : Bool} {σ : List Nat} {H : Heap} : ∀ {l : List AV}, l.all AV.flat = true → PassL own σ H l l
  | [], _ => passL_nil _ _ _
  | a :: l, h => by
    simp only [List.all_cons, Bool.and_eq_true] at h
    exact passL_cons (.flat a h.1) (passL_flat h.2)
theorem passV_agg {own : Bool} {σ : List Nat} {H : Heap} {l l' : List AV} (h : PassL own σ H l l') : PassV own σ H (.agg l) (.agg l') := .agg l l' h.1 h.2

/-- A call on plain values. -/
theorem callG_flat {f : FuncId} {avs : List AV} {H : Heap} {K : AV → Heap → Prop} {r : AV} (h : FnSpec P f avs [] fun av H => av = r ∧ H = []) (hp : avs.all AV.flat = true) (hr : r.flats = true) (hk : K r H) : callG P f avs H K :=
  callG_own h (passL_flat hp) fun av H' ⟨e1, e2⟩ => ⟨e2, by rw [e1]; exact hr, by rw [e1]; exact hk⟩

/-- A function without a body, that Go's model knows. -/
theorem FnSpec.of_extern {f : FuncId} {fn : Func} {avs : List AV} {R : AV → Heap → Prop} {e : Array Value → Sem Value} (hf : P.funcs[f]? = some fn) (hb : fn.body = none) (hname : (fn.name == "runtime.NumGoroutine") = false)
    (hn : (Extern.findNext fn).isNone = true) (he : Extern.find fn = some e)
    (h : ∀ (w : World) (E : Env) (vs : Array Value), RelL w E avs vs → ∃ v n av, (e vs).run P w = .ok v (w.drewN n) ∧ VRel (w.drewN n) E av v ∧ av.flats = true ∧ R av []) : FnSpec P f avs [] R := by
  intro map w vs X hX hfree hW hargs o a next Q hnx
  obtain ⟨v, n, av, h1, h2, h3, h4⟩ := h w _ vs hargs
  have hrun : (callFunc f vs).run P w = .ok (.value v) (w.drewN n) := by
    have hb' : fn.body.isNone = true := by rw [hb]; rfl
    have hn' : Extern.findNext fn = none := by simpa using hn
    simp only [callFunc, Sem.run_bind, run_program, Result.andThen_ok, hf, hname, hb', Bool.false_eq_true, if_false, if_true, run_mark, hn', he, h1, Sem.run_pure]
  rw [hrun]
  refine hnx v _ ⟨map, av, [], h4, ?_, hW.drewN n, fun r new box e cells _ h => by simp at h, fun r h => by simp at h, Step.drewN map [] w n⟩
  refine (h2.fresh (E' := env map [] (fun b => X b ∨ b < w.heap.size) w.heap.size) (new_flats h3) rfl rfl ?_)
  rintro b (hb | hb | hb)
  · exact .inl (.inl hb)
  · exact .inl (.inr hb)
  · exact .inr hb
end

theorem flt_ret (k : FloatKind) (x : Nat) : (AV.flt k x).flats = true := rfl
end Go.Awp
