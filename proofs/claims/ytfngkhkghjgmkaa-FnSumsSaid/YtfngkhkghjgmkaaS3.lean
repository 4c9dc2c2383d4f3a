/- Contracts: lists of numbers drawn.
Conditions: none. -/
import Derived.Test.YtfngkhkghjgmkaaS1
namespace Go.Proofs.Ytfngkhkghjgmkaa
set_option linter.all false
open Go Go.Awp
set_option maxRecDepth 100000
set_option maxHeartbeats 4000000
set_option pp.deepTerms true

theorem c_SumPairs (l : List Nat) (n : Nat) (hn : n = l.length) (h : l.length ≤ 256) : Fun Try.prog 26 [.view false (cFs l) n] [] (.tup [.flt .f32 (pairF 257 l), .bool true]) [] := by
  subst hn
  have h' : ¬ (256 : Int) < l.length := by omega
  refine FnSpec.walkF dr_ok Try.func26 rfl (by kernel_rfl) rfl rfl rfl (by simp) ?_
  simp [h']
  (first | refine callG_r ?_ | refine callD_r ?_); simp; (first | refine callN_flat (by with_reducible first | exact c_pairs 257 l _ rfl (by omega) h) rfl ?_ | refine callN_new (by with_reducible first | exact c_pairs 257 l _ rfl (by omega) h) ?_ | refine callM_flat (by with_reducible first | exact c_pairs 257 l _ rfl (by omega) h) rfl ?_ | refine callM_new (by with_reducible first | exact c_pairs 257 l _ rfl (by omega) h) ?_)
  simp
def DrawnR (l : List Nat) (n : Nat) (Q : Nat → Prop) (av : AV) (H : Heap) : Prop := ∃ (xs : List Nat) (k : Nat) (s : Int), xs.length = n ∧ (∀ x ∈ xs, Q x) ∧ H = [rd false l k s, .blk true false 24 (cFs xs)] ∧ av = .slc 1 0 n 1
theorem c_DrawFloats (l : List Nat) (k : Nat) (n : Nat) (seed : Int) (hl : l.length ≤ 1048576) (hb : ∀ b ∈ l, b < 256) (hk : k < 1000) (hn : n ≤ 256) :
    FnSpec Try.prog 55 [.ptr 0 0, .int .i64 n] [rd false l k seed] (DrawnR l n (CanF .f32)) := by
  refine FnSpec.walk dr_ok Try.func55 rfl (by kernel_rfl) rfl rfl rfl (by simp) ?_
  simp
  refine callG_on false [0] ?_; simp; refine callN_all (by with_reducible exact c_oneL l k 4 4 seed rfl hl hb (by omega) (by omega) (by omega)) ?_; rintro _ _ ⟨k1, s1, hk1, rfl, st, rfl⟩; refine ⟨fun e => (by cases e), ?_⟩; simp
  refine loopG_of (α := List Nat × Nat × Int) (fun s => s.1.length ≤ n ∧ (∀ x ∈ s.1, CanF .f32 x) ∧ s.2.1 ≤ 2000 + 20 * s.1.length) (fun s => n - s.1.length)
    (fun s => [(1, .int .i64 ((n : Int) - s.1.length)), (5, .slc 1 0 s.1.length 1), (6, .bool st), (0, .ptr 0 0)]) (fun s => [rd false l s.2.1 s.2.2, .blk true false 24 (cFs s.1)]) ([], k1, s1) ?_ ?_ fun s ⟨i1, i2, i3⟩ => ?_
  · exact ⟨by simp, by simp, by simp; omega⟩
  · (refine weak_gc [(none, 24)] ?_ ?_ ?_ ?_ ?_ <;> simp)
  obtain ⟨xs, kk, ss⟩ := s
  simp only at i1 i2 i3
  by_cases c : xs.length < n
  · have c' : (0 : Int) < (n : Int) - xs.length := by omega
    have hw : IntKind.i64.wrap ((n : Int) - xs.length - 1) = (n : Int) - ((xs.length + 1 : Nat) : Int) := by rw [wrap64 (by omega) (by omega)]; omega
    simp [c', c, hw]
    refine ⟨fun e => ?_, fun e => ?_⟩
    · refine callG_on false [0] ?_; simp; refine callN_all (by with_reducible exact c_DrawFloat l kk ss hl hb (by omega)) ?_; rintro _ _ ⟨k2, s2, hk2, rfl, z, hz, rfl⟩; refine ⟨fun e => (by cases e), ?_⟩; simp
      refine ⟨by omega, by omega, loopK_next (xs ++ [z], k2, s2) (by simp; omega) ⟨by simp; omega, ?_, by simp; omega⟩ ?_⟩
      · intro x hx
        rcases List.mem_append.1 hx with h | h
        · exact i2 x h
        · rw [List.mem_singleton.1 h]; exact hz
      · (refine weak_gc [(some 3, 0)] ?_ ?_ ?_ ?_ ?_ <;> simp [hw])
    · refine callG_on false [0] ?_; simp; refine callN_all (by with_reducible exact c_DrawPlain l kk ss hl hb (by omega)) ?_; rintro _ _ ⟨k2, s2, hk2, rfl, z, hz, rfl⟩; refine ⟨fun e => (by cases e), ?_⟩; simp
      refine ⟨by omega, by omega, loopK_next (xs ++ [z], k2, s2) (by simp; omega) ⟨by simp; omega, ?_, by simp; omega⟩ ?_⟩
      · intro x hx
        rcases List.mem_append.1 hx with h | h
        · exact i2 x h
        · rw [List.mem_singleton.1 h]; exact hz
      · (refine weak_gc [(some 3, 0)] ?_ ?_ ?_ ?_ ?_ <;> simp [hw])
  · have e : xs.length = n := by omega
    subst e
    simp
    refine endG_keepT (r := .slc 1 0 xs.length 1) (Hout := [rd false l kk ss, .blk true false 24 (cFs xs)]) [(some 1, 0)] ?_ ?_ ?_ ?_ ?_ ?_ ?_ ⟨xs, kk, ss, rfl, i2, rfl, rfl⟩ ?_ <;> simp
/-- A list of numbers drawn. -/
def ListR (n : Nat) (Q : Nat → Prop) (av : AV) (H : Heap) : Prop := ∃ xs : List Nat, xs.length = n ∧ (∀ x ∈ xs, Q x) ∧ H = [.blk true false 24 (cFs xs)] ∧ av = .slc 0 0 n 1
theorem c_B10Numbers (l : List Nat) (m n : Nat) (hm : m = l.length) (hl : l.length ≤ 1048576) (hb : ∀ b ∈ l, b < 256) (hn : n ≤ 256) : FnSpec Try.prog 23 [.view false (cBy l) m, .int .i64 n] [] (ListR n (CanF .f32)) := by
  subst hm
  refine FnSpec.walk dr_ok Try.func23 rfl (by kernel_rfl) rfl rfl rfl (by simp) ?_
  simp
  refine callG_v ?_; simp; refine callNV_fun (by with_reducible exact c_l00From l) ?_
  simp
  have h1 : FnSpec Try.prog 55 [.ptr 0 0, .int .i64 n] [.blk false true 95 [.view false (cBy l) l.length, .int .i64 0, .int .u64 0]] (DrawnR l n (CanF .f32)) := c_DrawFloats l 0 n 0 hl hb (by omega) hn
  refine callG_on false [0] ?_; simp; refine callN_all (by with_reducible exact h1) ?_; rintro _ _ ⟨xs, k1, s1, hx, hc, rfl, rfl⟩; refine ⟨fun e => (by cases e), ?_⟩; simp
  refine endG_keepT (r := .slc 0 0 n 1) (Hout := [.blk true false 24 (cFs xs)]) [(some 1, 0)] ?_ ?_ ?_ ?_ ?_ ?_ ?_ ⟨xs, hx, hc, rfl, rfl⟩ ?_ <;> simp
theorem c_B10Whole (l : List Nat) (m n : Nat) (hm : m = l.length) (hl : l.length ≤ 1048576) (hb : ∀ b ∈ l, b < 256) (hn : n ≤ 256) : FnSpec Try.prog 27 [.view false (cBy l) m, .int .i64 n, .int .i64 100] []
    fun av H => ∃ xs : List Int, xs.length = n ∧ (∀ x ∈ xs, -100 ≤ x ∧ x ≤ 100) ∧ H = [.blk true false 24 (cFs (xs.map (fint .f32)))] ∧ av = .slc 0 0 n 1 := by
  subst hm
  refine FnSpec.walk dr_ok Try.func27 rfl (by kernel_rfl) rfl rfl rfl (by simp) ?_
  simp
  refine callG_v ?_; simp; refine callNV_fun (by with_reducible exact c_l00From l) ?_
  simp
  refine loopG_of (α := List Int × Nat × Int) (fun s => s.1.length ≤ n ∧ (∀ x ∈ s.1, -100 ≤ x ∧ x ≤ 100) ∧ s.2.1 ≤ 20 * s.1.length) (fun s => n - s.1.length)
    (fun s => [(1, .int .i64 ((n : Int) - s.1.length)), (8, .slc 1 0 s.1.length 1), (7, .ptr 0 0), (2, .int .i64 100)]) (fun s => [rd true l s.2.1 s.2.2, .blk true false 24 (cFs (s.1.map (fint .f32)))]) ([], 0, 0) ?_ ?_ fun s ⟨i1, i2, i3⟩ => ?_
  · exact ⟨by simp, by simp, by simp⟩
  · (refine weak_gc [(some 0, 0), (none, 24)] ?_ ?_ ?_ ?_ ?_ <;> simp)
  obtain ⟨xs, kk, ss⟩ := s
  simp only at i1 i2 i3
  by_cases c : xs.length < n
  · have c' : (0 : Int) < (n : Int) - xs.length := by omega
    have hw : IntKind.i64.wrap ((n : Int) - xs.length - 1) = (n : Int) - ((xs.length + 1 : Nat) : Int) := by rw [wrap64 (by omega) (by omega)]; omega
    simp [c', c, hw]
    refine callG_on false [0] ?_; simp; refine callN_all (by with_reducible exact c_pickL l kk _ 201 ss (by decide) hl hb (by omega) (by omega) (by omega)) ?_; rintro _ _ ⟨k2, s2, hk2, rfl, z, hz, rfl⟩; refine ⟨fun e => (by cases e), ?_⟩; simp
    have hz2 : IntKind.i64.wrap ((z : Int) - 100) = (z : Int) - 100 := wrap64 (by omega) (by omega)
    simp [hz2]
    refine ⟨by omega, by omega, loopK_next (xs ++ [(z : Int) - 100], k2, s2) (by simp; omega) ⟨by simp; omega, ?_, by simp; omega⟩ ?_⟩
    · intro x hx
      rcases List.mem_append.1 hx with h | h
      · exact i2 x h
      · rw [List.mem_singleton.1 h]; omega
    · (refine weak_gc [(some 0, 0), (some 3, 0)] ?_ ?_ ?_ ?_ ?_ <;> simp [hw])
      rw [List.take_of_length_le (by simp)]
  · have e : xs.length = n := by omega
    subst e
    simp
    refine endG_keepT (r := .slc 0 0 xs.length 1) (Hout := [.blk true false 24 (cFs (xs.map (fint .f32)))]) [(some 1, 0)] ?_ ?_ ?_ ?_ ?_ ?_ ?_ ⟨xs, rfl, i2, rfl, rfl⟩ ?_ <;> simp
@[simp] theorem cBy_at {l : List Nat} {k : Nat} (h : k < (cBy l).length) : (cBy l)[k] = .int .u8 ((l[k]'(by simpa using h) : Nat) : Int) := by simp [cBy]
theorem c_b10At (l : List Nat) (m : Nat) (hm : m = l.length) (hl : l.length ≤ 1048576) (hb : ∀ b ∈ l, b < 256) : FnSpec Try.prog 22 [.view false (cBy l) m, .int .i64 0, .int .i64 20] [] fun av H => H = [] ∧ av.flats = true ∧ QI 20 av := by
  subst hm
  by_cases c : 0 < l.length
  · have hx := hb _ (List.getElem_mem c)
    have hx2 : IntKind.i64.wrap ((l[0] : Nat) : Int) = ((l[0] : Nat) : Int) := wrap64 (by omega) (by omega)
    have ht : ((l[0] : Nat) : Int).tmod 20 = ((l[0] % 20 : Nat) : Int) := rfl
    refine FnSpec.walkF dr_ok Try.func22 rfl (by kernel_rfl) rfl rfl rfl (by simp) ?_
    simp [c, hx2, ht]
    exact ⟨l[0] % 20, Nat.mod_lt _ (by decide), by simp⟩
  · have hz : l = [] := List.length_eq_zero_iff.1 (by omega)
    subst hz
    refine FnSpec.walkF dr_ok Try.func22 rfl (by kernel_rfl) rfl rfl rfl (by simp) ?_
    simp
    exact ⟨11, by decide, rfl⟩
end Go.Proofs.Ytfngkhkghjgmkaa
