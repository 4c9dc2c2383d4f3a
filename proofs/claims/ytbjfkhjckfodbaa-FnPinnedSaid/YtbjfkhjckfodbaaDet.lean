/- Operations that come to one value: drawn regions reckoned onward.
Conditions: none. -/
import Derived.Test.YtbjfkhjckfodbaaEnd
namespace Go.Awp
set_option linter.all false
open Go

def DetP (G : (AV → Prop) → Prop) : Prop := ∀ K, G K → ∃ av, G (· = av) ∧ K av
def Det (G : (AV → Heap → Prop) → Prop) : Prop := ∀ K, G K → ∃ av H', G (fun a h => a = av ∧ h = H') ∧ K av H'

theorem DetP.det {G : (AV → Prop) → Prop} (h : DetP G) (H : Heap) : Det (fun K => G (K · H)) := by
  intro K hk
  obtain ⟨av, h1, h2⟩ := h _ hk
  refine ⟨av, H, ?_, h2⟩
  have e : (fun a => a = av ∧ H = H) = (· = av) := by funext a; simp
  show G (fun a => a = av ∧ H = H)
  rw [e]; exact h1

variable {P : Program}
theorem det_pick (c a b : AV) : DetP (pickG c a b) := by
  intro K h
  unfold pickG at *
  split at h
  · rename_i t
    cases t
    · exact ⟨b, ⟨fun e => (by cases e), fun _ => rfl⟩, h.2 rfl⟩
    · exact ⟨a, ⟨fun _ => rfl, fun e => (by cases e)⟩, h.1 rfl⟩
  · exact h.elim
theorem det_nil (x : AV) : DetP (nilG x) := by
  intro K h
  unfold nilG at *
  split at h <;> first | exact ⟨_, rfl, h⟩ | exact h.elim
theorem det_part (t : TypeId) (l : List AV) (off : Nat) : DetP (partG P t l off) := by
  intro K h
  unfold partG at *
  split at h
  · obtain ⟨av, h1, h2⟩ := h
    exact ⟨av, ⟨av, h1, rfl⟩, h2⟩
  · exact h.elim
theorem det_field (t : TypeId) (x : AV) (f : Nat) : DetP (fieldG P t x f) := by
  intro K h
  unfold fieldG at *
  split at h
  · split at h
    · exact det_part _ _ _ K h
    · exact h.elim
  · exact h.elim
theorem det_load (t : TypeId) (a : AV) (H : Heap) : DetP (loadG P t a H) := by
  intro K h
  unfold loadG at *
  split at h
  · split at h
    · split at h
      · obtain ⟨av, h1, h2⟩ := h
        exact ⟨av, ⟨av, h1, rfl⟩, h2⟩
      · exact h.elim
    · obtain ⟨av, h1, h2⟩ := h
      exact ⟨av, ⟨av, h1, rfl⟩, h2⟩
    · exact h.elim
  · exact h.elim
theorem det_binI (op : BinOp) (k : IntKind) (x y : Int) : DetP (binI op k x y) := by
  intro K h
  unfold binI at *
  split at h <;> first | exact ⟨_, rfl, h⟩ | exact ⟨_, ⟨h.1, rfl⟩, h.2⟩ | exact h.elim
theorem det_binF (op : BinOp) (k : FloatKind) (x y : Nat) : DetP (binF op k x y) := by
  intro K h
  unfold binF at *
  split at h <;> first | exact ⟨_, rfl, h⟩ | exact h.elim
theorem det_binS (op : BinOp) (x y : ByteArray) : DetP (binS op x y) := by
  intro K h
  unfold binS at *
  split at h <;> first | exact ⟨_, rfl, h⟩ | exact ⟨_, ⟨h.1, rfl⟩, h.2⟩ | exact h.elim
theorem det_bin (op : BinOp) (t : TypeId) (a b : AV) : DetP (binG P op t a b) := by
  intro K h
  unfold binG at *
  split at h
  · split at h
    · exact ⟨_, ⟨h.1, rfl⟩, h.2⟩
    · exact ⟨_, ⟨h.1, rfl⟩, h.2⟩
    · obtain ⟨av, h1, h2⟩ := det_binI _ _ _ _ K h.2
      exact ⟨av, ⟨h.1, h1⟩, h2⟩
  · obtain ⟨av, h1, h2⟩ := det_binF _ _ _ _ K h.2
    exact ⟨av, ⟨h.1, h1⟩, h2⟩
  · obtain ⟨h0, h⟩ := h
    split at h <;> first | exact ⟨_, ⟨h0, rfl⟩, h⟩ | exact h.elim
  · exact det_binS _ _ _ K h
  · unfold binA at *
    split at h
    · obtain ⟨h0, h⟩ := h
      split at h <;> first | exact ⟨_, ⟨h0, rfl⟩, h⟩ | exact h.elim
    · exact h.elim
  · exact h.elim
theorem det_binX (op : BinOp) (t : TypeId) (c : Bool) (a b : AV) : DetP (binX P op t c a b) := by
  cases c with
  | false => exact det_bin op t a b
  | true =>
    intro K h
    have h : ifcG P op t a b K := h
    show ∃ av, (ifcG P op t a b fun x => x = av) ∧ K av
    unfold ifcG at *
    split at h
    · obtain ⟨h0, h⟩ := h
      split at h <;> first | exact ⟨_, ⟨h0, rfl⟩, h⟩ | exact h.elim
    · exact h.elim
theorem det_un (op : UnOp) (a : AV) : DetP (unG op a) := by
  intro K h
  unfold unG at *
  split at h <;> first | exact ⟨_, rfl, h⟩ | exact h.elim
theorem det_cvt (s d : TypeId) (a : AV) : DetP (cvtG P s d a) := by
  intro K h
  unfold cvtG at *
  obtain ⟨h0, h⟩ := h
  split at h
  · exact ⟨_, ⟨h0, rfl⟩, h⟩
  · exact ⟨_, ⟨h0, rfl⟩, h⟩
  · obtain ⟨n, h1, h2⟩ := h
    exact ⟨_, ⟨h0, n, h1, rfl⟩, h2⟩
  · obtain ⟨n, h1, h2⟩ := h
    exact ⟨_, ⟨h0, n, h1, rfl⟩, h2⟩
  · exact ⟨_, ⟨h0, h.1, rfl⟩, h.2⟩
  · exact h.elim
theorem det_cvtN (l : Option (List Int)) (n : Nat) : DetP (cvtN l n) := by
  intro K h
  unfold cvtN at *
  split at h
  · exact ⟨_, ⟨h.1, rfl⟩, h.2⟩
  · exact h.elim
theorem det_cvtR (x : Option Root) (o n : Nat) : DetP (cvtR x o n) := by
  intro K h
  unfold cvtR at *
  split at h
  · exact det_cvtN _ _ K h
  · exact h.elim
theorem det_cvtB (s d : TypeId) (a : AV) (H : Heap) : DetP (cvtB P s d a H) := by
  intro K h
  unfold cvtB at *
  obtain ⟨h0, h1, h⟩ := h
  split at h
  · exact ⟨_, ⟨h0, h1, rfl⟩, h⟩
  · obtain ⟨av, g1, g2⟩ := det_cvtN _ _ K h
    exact ⟨av, ⟨h0, h1, g1⟩, g2⟩
  · obtain ⟨av, g1, g2⟩ := det_cvtR _ _ _ K h.2
    exact ⟨av, ⟨h0, h1, h.1, g1⟩, g2⟩
  · exact h.elim
theorem det_cvtX (s d : TypeId) (a : AV) (H : Heap) : DetP (cvtX P s d a H) := by
  intro K h
  unfold cvtX at *
  split at h
  · exact det_cvtB _ _ _ _ K h
  · exact det_cvtB _ _ _ _ K h
  · exact det_cvtB _ _ _ _ K h
  · exact det_cvt _ _ _ K h
theorem det_fieldAddr (s : TypeId) (a : AV) (f : Nat) : DetP (fieldAddrG P s a f) := by
  intro K h
  unfold fieldAddrG at *
  split at h
  · split at h
    · split at h
      · split at h <;> first | exact ⟨_, rfl, h⟩ | exact h.elim
      · exact h.elim
    · exact h.elim
  · exact h.elim
theorem det_indexAddr (t : TypeId) (x i : AV) : DetP (indexAddrG P t x i) := by
  intro K h
  unfold indexAddrG at *
  split at h
  · split at h
    · split at h
      · split at h <;> first | exact ⟨_, ⟨h.1, h.2.1, rfl⟩, h.2.2⟩ | exact h.elim
      · exact h.elim
    · split at h
      · split at h <;> first | exact ⟨_, ⟨h.1, h.2.1, rfl⟩, h.2.2⟩ | exact h.elim
      · exact h.elim
    · exact h.elim
  · exact h.elim
theorem det_index (t : TypeId) (x i : AV) : DetP (indexG P t x i) := by
  intro K h
  unfold indexG at *
  split at h
  · split at h
    · obtain ⟨h1, h2, sz, h3, h4⟩ := h
      obtain ⟨av, g1, g2⟩ := det_part _ _ _ K h4
      exact ⟨av, ⟨h1, h2, sz, h3, g1⟩, g2⟩
    · obtain ⟨h1, b, h2, h3⟩ := h
      exact ⟨_, ⟨h1, b, h2, rfl⟩, h3⟩
    · exact h.elim
  · exact h.elim
theorem det_extract (x : AV) (i : Nat) : DetP (extractG x i) := by
  intro K h
  unfold extractG at *
  split at h
  · obtain ⟨a, h1, h2⟩ := h
    exact ⟨a, ⟨a, h1, rfl⟩, h2⟩
  · exact h.elim
theorem det_len (t : TypeId) (x : AV) : DetP (lenG P t x) := by
  intro K h
  unfold lenG at *
  split at h <;> first | exact ⟨_, rfl, h⟩ | exact h.elim
theorem det_mx (m : Bool) (a b : AV) : DetP (mxG m a b) := by
  intro K h
  unfold mxG at *
  split at h <;> first | exact ⟨_, rfl, h⟩ | exact ⟨_, ⟨h.1, rfl⟩, h.2⟩ | exact h.elim
theorem det_build (t : TypeId) (ps : List (Nat × AV)) : DetP (buildG P t ps) := by
  intro K h
  unfold buildG at *
  split at h
  · obtain ⟨out, h1, h2⟩ := h
    exact ⟨_, ⟨out, h1, rfl⟩, h2⟩
  · exact h.elim
theorem det_slice (t : TypeId) (x : AV) (lo hi : Option AV) : DetP (sliceG P t x lo hi) := by
  intro K h
  unfold sliceG at *
  split at h
  · split at h
    · split at h
      · exact ⟨_, ⟨h.1, h.2.1, h.2.2.1, rfl⟩, h.2.2.2⟩
      · exact h.elim
    · exact h.elim
  · split at h
    · split at h
      · split at h
        · rename_i l hh hl hh'
          obtain ⟨h0, h1, h2, h3, k1, k2, k3⟩ := h
          by_cases c : l = 0
          · exact ⟨_, ⟨h0, h1, h2, h3, fun _ => rfl, fun e => by omega, fun e => by omega⟩, k1 c⟩
          · by_cases c2 : l = hh
            · exact ⟨_, ⟨h0, h1, h2, h3, fun e => (c e).elim, fun _ e => by omega, fun _ _ => rfl⟩, k3 (by omega) c2⟩
            · exact ⟨_, ⟨h0, h1, h2, h3, fun e => (c e).elim, fun _ _ => rfl, fun _ e => (c2 e).elim⟩, k2 (by omega) (by omega)⟩
        · exact h.elim
      · split at h
        · exact ⟨_, ⟨h.1, h.2.1, h.2.2.1, rfl⟩, h.2.2.2⟩
        · exact h.elim
      · split at h
        · exact ⟨_, rfl, h⟩
        · exact h.elim
      · exact h.elim
    · exact h.elim
  · exact h.elim
theorem det_store (t : TypeId) (a x : AV) (H : Heap) : Det (storeG P t a x H) := by
  intro K h
  unfold storeG at *
  split at h
  · split at h
    · exact ⟨_, _, ⟨h.1, h.2.1, h.2.2.1, rfl, rfl⟩, h.2.2.2⟩
    · exact h.elim
  · exact h.elim
theorem det_alloc (e : TypeId) (H : Heap) : Det (allocG P e H) := by
  intro K h
  unfold allocG at *
  split at h
  · exact ⟨_, _, ⟨rfl, rfl⟩, h⟩
  · exact h.elim
theorem det_box (e : TypeId) (x : AV) (H : Heap) : Det (boxG e x H) := by
  intro K h
  unfold boxG at *
  split at h
  · exact ⟨_, _, ⟨rfl, rfl⟩, h⟩
  · exact h.elim
theorem det_makeSlice (t : TypeId) (l c : AV) (H : Heap) : Det (makeSliceG P t l c H) := by
  intro K h
  unfold makeSliceG at *
  split at h
  · split at h
    · obtain ⟨h1, h2, h3, h4, h5, h6, h7⟩ := h
      exact ⟨_, _, ⟨h1, h2, h3, h4, h5, h6, rfl, rfl⟩, h7⟩
    · exact h.elim
  · exact h.elim
theorem det_buildSlice (t : TypeId) (n : Nat) (ps : List (Nat × AV)) (H : Heap) : Det (buildSliceG P t n ps H) := by
  intro K h
  unfold buildSliceG at *
  split at h
  · split at h
    · obtain ⟨h1, h2, h3, out, h4, h5, h6⟩ := h
      by_cases c : n = 0
      · rw [if_pos c] at h6
        exact ⟨_, _, ⟨h1, h2, h3, out, h4, h5, by rw [if_pos c]; exact ⟨rfl, rfl⟩⟩, h6⟩
      · rw [if_neg c] at h6
        exact ⟨_, _, ⟨h1, h2, h3, out, h4, h5, by rw [if_neg c]; exact ⟨rfl, rfl⟩⟩, h6⟩
    · exact h.elim
  · exact h.elim

/-- Operations that come to one value and one memory. -/
def detOp : Op → Bool
  | .call c => match c.callee with
    | .builtin .len => true
    | .builtin .max => true
    | .builtin .min => true
    | _ => false
  | .makeMap .. => false
  | .lookup .. => false
  | .mapUpdate .. => false
  | .mapEntry .. => false
  | .entryStore .. => false
  | .buildSlice .. => false
  | _ => true

theorem det_op {o : Op} (hd : detOp o = true) (ρ : Operand → AV) (H : Heap) : Det (opG P o ρ H) := by
  intro K h
  unfold opG at *
  split at h <;> (try simp only)
  · exact ⟨_, _, ⟨rfl, rfl⟩, h⟩
  · exact ⟨_, _, ⟨rfl, rfl⟩, h⟩
  · exact (det_pick _ _ _).det H K h
  · exact det_alloc _ H K h
  · exact det_box _ _ H K h
  · exact (det_build _ _).det H K h
  · cases hd
  · exact (det_load _ _ H).det H K h
  · exact det_store _ _ _ H K h
  · exact (det_nil _).det H K h
  · exact (det_binX _ _ _ _ _).det H K h
  · exact (det_un _ _).det H K h
  · exact (det_cvtX _ _ _ H).det H K h
  · exact det_makeSlice _ _ _ H K h
  · exact (det_slice _ _ _ _).det H K h
  · exact (det_fieldAddr _ _ _).det H K h
  · exact (det_field _ _ _).det H K h
  · exact (det_indexAddr _ _ _).det H K h
  · exact (det_index _ _ _).det H K h
  · exact (det_extract _ _).det H K h
  · exact ⟨_, _, ⟨rfl, rfl⟩, h⟩
  · rename_i c
    unfold callOpG at *
    unfold detOp at hd
    cases hc : c.callee with
    | builtin b =>
      simp only [hc] at h hd ⊢
      unfold builtinG at *
      cases b <;> simp at hd <;> simp only at h ⊢
      all_goals
        split at h
        · first | exact (det_len _ _).det H K h | exact (det_mx _ _ _).det H K h
        · exact h.elim
    | value f => simp [hc] at hd
    | invoke r m => simp [hc] at hd
  · cases hd
  · cases hd
  · cases hd
  · cases hd
  · cases hd
  · exact h.elim
end Go.Awp
