/- Bodies that keep their callers' roots, and the reader of choices.
Conditions: none. -/
import Derived.Test.YtbjfkhjckfodbaaRul
namespace Go.Awp
set_option linter.all false
open Go
variable {P : Program}

theorem gc_id {n0 : Nat} {H : Heap} {a : AV} (hl : H.length = n0) (ha : a.flats = true) (hc : ∀ (r : Nat) (new : Bool) (e : TypeId) (cells : List AV), H[r]? = some (.blk new true e cells) → cells.map (AV.ren (oldN n0 H.length [])) = cells) : Gc n0 [] [a] H [a] H :=
  ⟨by simpa using hl, by omega, by simp, fun k r h => by simp at h, ⟨.inr (.inl (ren_flats ha).symm), trivial⟩, fun r new box e cells hr => by
    have hlt := (List.getElem?_eq_some_iff.1 hr).1
    refine .inr ⟨cells, ?_, fun _ => rfl, fun hb => ?_⟩
    · unfold oldN; rw [if_pos (by omega)]; exact hr
    · subst hb
      have hm := hc r new e cells hr
      have : ∀ (l : List AV), l.map (AV.ren (oldN n0 H.length [])) = l → leL (oldN n0 H.length []) (fun r => n0 ≤ r ∧ ([] : List (Option Nat))[r - n0]? = some none) l l := by
        intro l
        induction l with
        | nil => intro _; trivial
        | cons x l ih =>
          intro h
          simp only [List.map_cons, List.cons.injEq] at h
          exact ⟨.inr (.inl h.1.symm), ih h.2⟩
      exact this cells hm⟩

/-- A body that leaves plain values, and the caller's roots with other cells. -/
theorem endG_keep {rs : List ResultVar} {Hin H : Heap} {R : AV → Heap → Prop} {s : List AV} (hlen : H.length = Hin.length) (hb : ∀ r < H.length, ∃ new box e cells, H[r]? = some (.blk new box e cells) ∧ (box = true → cells.map (AV.ren (oldN Hin.length H.length [])) = cells))
    (h : resL P s H rs fun l => (resOne l).flats = true ∧ R (resOne l) H) : endG P rs Hin R s H := by
  unfold endG
  refine resL_mono rs (fun l ⟨h1, h2⟩ => ?_) h
  refine ⟨[], resOne l, H, gc_id hlen h1 fun r new e cells hr => ?_, new_flats h1, fun r new box e cells hr h => ?_, fun r hr => ?_, h2⟩
  · obtain ⟨n', b', e', c', g1, g2⟩ := hb r (List.getElem?_eq_some_iff.1 hr).1
    rw [hr] at g1; cases g1
    exact g2 rfl
  · have := (List.getElem?_eq_some_iff.1 h).1; omega
  · obtain ⟨n', b', e', c', g1, g2⟩ := hb r (by omega)
    exact ⟨n', b', e', c', g1⟩

/-- The reader's block. -/
def srcB (nw : Bool) (T : TypeId) (C : List AV) (n : Nat) (at_ seed : Int) : Root := .blk nw true T [.view false C n, .int .i64 at_, .int .u64 seed]

theorem endG_src {rs : List ResultVar} {b : Bool} {T : TypeId} {C : List AV} {n : Nat} {a0 s0 a1 s1 : Int} {R : AV → Heap → Prop} {s : List AV} (h : resL P s [.blk b true T [.view false C n, .int .i64 a1, .int .u64 s1]] rs fun l => (resOne l).flats = true ∧ R (resOne l) [srcB b T C n a1 s1]) :
    endG P rs [srcB b T C n a0 s0] R s [.blk b true T [.view false C n, .int .i64 a1, .int .u64 s1]] :=
  endG_keep rfl (fun r hr => by
    have : r = 0 := by simpa using hr
    subst this
    exact ⟨_, _, _, _, rfl, fun _ => by simp [AV.ren]⟩) h

/-- A function that draws from the reader, at most inc times, and hands back a plain value of which R is known. -/
def Draws (P : Program) (f : FuncId) (as : List AV) (T : TypeId) (C : List AV) (n : Nat) (inc : Nat) (R : AV → Prop) : Prop :=
  ∀ at_ seed : Int, 0 ≤ at_ → at_ + inc < 4611686018427387904 → FnSpec P f (.ptr 0 0 :: as) [srcB false T C n at_ seed] fun av H => av.flats = true ∧ R av ∧ ∃ at' seed' : Int, at_ ≤ at' ∧ at' ≤ at_ + inc ∧ H = [srcB false T C n at' seed']

theorem callG_draws {f : FuncId} {as : List AV} {T : TypeId} {C : List AV} {n inc r : Nat} {R : AV → Prop} (h : Draws P f as T C n inc R) {nw : Bool} {at_ seed : Int} {H : Heap} {K : AV → Heap → Prop} (hp : as.all AV.flat = true) (h0 : 0 ≤ at_) (h1 : at_ + inc < 4611686018427387904)
    (hr : H[r]? = some (.blk nw true T [.view false C n, .int .i64 at_, .int .u64 seed])) (hC : C.all AV.flat = true)
    (hk : ∀ av (at' seed' : Int), av.flats = true → R av → at_ ≤ at' → at' ≤ at_ + inc → K av (H.set r (.blk nw true T [.view false C n, .int .i64 at', .int .u64 seed']))) : callG P f (.ptr r 0 :: as) H K := by
  refine .inl ⟨false, [r], .ptr 0 0 :: as, _, _, .inl (h at_ seed h0 h1), ⟨rfl, by simp, fun i r' hi => ?_⟩, passL_cons (.ptr r 0 0 rfl) (passL_flat hp), fun av H' ⟨hf, hR, at', seed', g1, g2, g3⟩ => ⟨fun e => (by cases e), ?_⟩⟩
  · cases i with
    | zero =>
      simp at hi; subst hi
      refine ⟨nw, true, T, _, _, hr, rfl, by simp, fun _ => rfl, fun j a a' ha ha' => ?_⟩
      match j with
      | 0 => simp at ha ha'; subst ha; subst ha'; exact .view_flat _ _ _ hC
      | 1 => simp at ha ha'; subst ha; subst ha'; exact .flat _ rfl
      | 2 => simp at ha ha'; subst ha; subst ha'; exact .flat _ rfl
      | j + 3 => simp at ha
    | succ i => simp at hi
  · subst g3
    have := hk av at' seed' hf hR g1 g2
    rw [ren_flats hf]
    have e : mergeH [r] H [srcB false T C n at' seed'] = H.set r (.blk nw true T [.view false C n, .int .i64 at', .int .u64 seed']) := by
      simp [mergeH, mergeSet, srcB, Root.ren, AV.ren, withNew, List.getD_eq_getElem?_getD, hr]
    rw [e]; exact this
end Go.Awp
