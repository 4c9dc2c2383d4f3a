/- Contracts: the reader of choices.
Conditions: none. -/
import Derived.Test.YtfngkhkghjgmkaaTyp
import Derived.Test.YtfngkhkghjgmkaaEnt
import Derived.Test.YtfngkhkghjgmkaaSrc
namespace Go.Proofs.Ytfngkhkghjgmkaa
set_option linter.all false
open Go Go.Awp
set_option maxRecDepth 100000
set_option maxHeartbeats 4000000
set_option pp.deepTerms true

/-- Bytes. -/
def cBy (l : List Nat) : List AV := l.map fun b => .int .u8 (b : Nat)
@[simp] theorem cBy_length (l : List Nat) : (cBy l).length = l.length := by simp [cBy]
@[simp] theorem cBy_drop {l : List Nat} {k : Nat} (h : k < l.length) : (cBy l).drop k = .int .u8 (l[k] : Nat) :: cBy (l.drop (k + 1)) := by
  unfold cBy; rw [List.drop_eq_getElem_cons (by simpa using h), List.getElem_map, List.map_drop]
@[simp] theorem cBy_get {l : List Nat} {k : Nat} (h : k < l.length) : (cBy l)[k]? = some (.int .u8 (l[k] : Nat)) := by simp [cBy, h]
@[simp] theorem cBy_num (l : List Nat) : (cBy l).all AV.num = true := by
  induction l with
  | nil => rfl
  | cons a l ih => simp only [cBy, List.map_cons, List.all_cons] at ih ⊢; rw [ih]; rfl
@[simp] theorem cBy_flat (l : List Nat) : (cBy l).all AV.flat = true := num_flat (cBy_num l)
@[simp] theorem cBy_pures (l : List Nat) : (∀ (x : AV), x ∈ cBy l → x.isPure = true) = True := eq_true (List.all_eq_true.1 (pure_flat (cBy_flat l)))
/-- The reader. -/
abbrev rd (nw : Bool) (l : List Nat) (at_ : Nat) (seed : Int) : Root := .blk nw true 95 [.view false (cBy l) l.length, .int .i64 at_, .int .u64 seed]
attribute [simp] rd
theorem c_l00From (l : List Nat) : FunV Try.prog 42 [.view false (cBy l) l.length] [] (.ptr 0 0) [rd true l 0 0] := by
  refine FnSpecV.walk dr_ok Try.func42 rfl (by kernel_rfl) rfl rfl rfl (by simp) ?_
  simp
  (refine endGV_keepT [(some 0, 0)] ?_ ?_ ?_ ?_ ?_ ?_ ⟨rfl, rfl⟩ ?_ <;> simp)
theorem and255 (y : Int) : ∃ x : Nat, x < 256 ∧ bitsV .and .u64 y 255 = (x : Int) := by
  refine ⟨(BitVec.ofInt 64 y &&& BitVec.ofInt 64 255).toNat, ?_, ?_⟩
  · rw [BitVec.toNat_and]
    exact Nat.lt_of_le_of_lt Nat.and_le_right (by decide)
  · have hlt : (BitVec.ofInt 64 y &&& BitVec.ofInt 64 255).toNat < 256 := by
      rw [BitVec.toNat_and]
      exact Nat.lt_of_le_of_lt Nat.and_le_right (by decide)
    show IntKind.u64.wrap ((BitVec.ofInt 64 y &&& BitVec.ofInt 64 255).toNat : Int) = _
    rw [IntKind.wrap_u64]; omega
section
variable {P : Program}
theorem callN_all {f : FuncId} {own : Bool} {σ : List Nat} {args : List AV} {Hin H : Heap} {K : AV → Heap → Prop} {R : AV → Heap → Prop} (hc : FnSpec P f args Hin R)
    (hk : ∀ av H', R av H' → (own = true → (H'.take σ.length).all Root.noView = true) ∧ K (av.ren (backN σ H.length)) (mergeH σ H H')) : @callN P f own σ args Hin H ⟨K⟩ trivial := ⟨R, hc, hk⟩
end
/-- What a reader leaves that was read at most inc times, and what it gave. -/
def RdR (l : List Nat) (k inc : Nat) (Q : AV → Prop) (av : AV) (H : Heap) : Prop := ∃ (k' : Nat) (seed : Int), k' ≤ k + inc ∧ H = [rd false l k' seed] ∧ Q av
def QI (n : Nat) (av : AV) : Prop := ∃ x : Nat, x < n ∧ av = .int .i64 x
def QB (av : AV) : Prop := ∃ b : Bool, av = .bool b
def QF (av : AV) : Prop := ∃ x : Nat, CanF .f32 x ∧ av = .flt .f32 x
theorem c_next (l : List Nat) (k : Nat) (seed : Int) (hl : l.length ≤ 1048576) (hb : ∀ b ∈ l, b < 256) (hk : k < 1000000000000) :
    FnSpec Try.prog 82 [.ptr 0 0] [rd false l k seed] (RdR l k 1 (QI 256)) := by
  have hw := nat_wrap (k := k) (by omega)
  by_cases b : k < l.length
  · have hx := hb _ (List.getElem_mem b)
    have hx2 : IntKind.i64.wrap ((l[k] : Nat) : Int) = ((l[k] : Nat) : Int) := wrap64 (by omega) (by omega)
    have h1 : (k : Int) + 1 ≤ l.length := by omega
    have h2 : k + 1 ≤ l.length := by omega
    refine FnSpec.walk dr_ok Try.func82 rfl (by kernel_rfl) rfl rfl rfl (by simp) ?_
    simp [b, hw, hx2, h1, h2]
    generalize IntKind.u64.wrap (_ + 1442695040888963407) = y
    refine endG_keepT (r := .int .i64 (l[k] : Nat)) (Hout := [rd false l (k + 1) y]) [] ?_ ?_ ?_ ?_ ?_ ?_ ?_ ⟨k + 1, y, by omega, rfl, l[k], hx, rfl⟩ ?_ <;> simp
  · have h1 : ¬ (k : Int) + 1 ≤ l.length := by omega
    have h2 : ¬ k + 1 ≤ l.length := by omega
    refine FnSpec.walk dr_ok Try.func82 rfl (by kernel_rfl) rfl rfl rfl (by simp) ?_
    simp [b, hw, h1, h2]
    generalize (IntKind.u64.wrap (IntKind.u64.wrap (IntKind.u64.wrap (seed * 6364136223846793005) + IntKind.u64.wrap 0) + 1442695040888963407)) = y
    obtain ⟨x, hx, e⟩ := and255 (y.fdiv (2 ^ min 40 IntKind.u64.bits))
    have e2 : IntKind.i64.wrap ((x : Nat) : Int) = x := wrap64 (by omega) (by omega)
    simp only [e, e2]
    refine endG_keepT (r := .int .i64 x) (Hout := [rd false l (k + 1) y]) [] ?_ ?_ ?_ ?_ ?_ ?_ ?_ ⟨k + 1, y, by omega, rfl, x, hx, rfl⟩ ?_ <;> simp
theorem c_pick (l : List Nat) (k n : Nat) (seed : Int) (hl : l.length ≤ 1048576) (hb : ∀ b ∈ l, b < 256) (hk : k + 2 < 1000000000000) (h1 : 1 < n) (h2 : n ≤ 65536) :
    FnSpec Try.prog 44 [.ptr 0 0, .int .i64 n] [rd false l k seed] (RdR l k 2 (QI n)) := by
  have h1' : ¬ (n : Int) ≤ 1 := by omega
  have hr : ∀ x : Nat, (x : Int).tmod n = ((x % n : Nat) : Int) := fun x => rfl
  refine FnSpec.walk dr_ok Try.func44 rfl (by kernel_rfl) rfl rfl rfl (by simp) ?_
  simp [h1']
  refine callG_on false [0] ?_; simp; refine callN_all (by with_reducible exact c_next l k seed hl hb (by omega)) ?_; rintro _ _ ⟨k1, s1, hk1, rfl, x, hx, rfl⟩; refine ⟨fun e => (by cases e), ?_⟩; simp
  by_cases c : 200 < n
  · have c' : (200 : Int) < n := by omega
    have c'' : ¬ (n : Int) ≤ 200 := by omega
    have hm : IntKind.i64.wrap ((x : Int) * 256) = ((x * 256 : Nat) : Int) := by rw [wrap64 (by omega) (by omega)]; simp
    simp [c', c'', hm]
    refine callG_on false [0] ?_; simp; refine callN_all (by with_reducible exact c_next l k1 s1 hl hb (by omega)) ?_; rintro _ _ ⟨k2, s2, hk2, rfl, y, hy, rfl⟩; refine ⟨fun e => (by cases e), ?_⟩; simp
    have ha : IntKind.i64.wrap ((x : Int) * 256 + (y : Int)) = ((x * 256 + y : Nat) : Int) := by rw [wrap64 (by omega) (by omega)]; simp
    have e : ((x : Int) * 256 + (y : Int)).tmod n = (((x * 256 + y) % n : Nat) : Int) := by rw [show ((x : Int) * 256 + (y : Int)) = ((x * 256 + y : Nat) : Int) by simp]; rfl
    simp [hm, ha, e]
    refine ⟨by omega, endG_src ?_⟩
    simp
    exact ⟨k2, s2, by omega, rfl, _, Nat.mod_lt _ (by omega), rfl⟩
  · have c' : ¬ (200 : Int) < n := by omega
    have c'' : (n : Int) ≤ 200 := by omega
    simp [c', c'', hr]
    refine ⟨by omega, endG_src ?_⟩
    simp
    exact ⟨k1, s1, by omega, rfl, _, Nat.mod_lt _ (by omega), rfl⟩
theorem c_one (l : List Nat) (k n : Nat) (seed : Int) (hl : l.length ≤ 1048576) (hb : ∀ b ∈ l, b < 256) (hk : k + 2 < 1000000000000) (h1 : 1 < n) (h2 : n ≤ 65536) :
    FnSpec Try.prog 43 [.ptr 0 0, .int .i64 n] [rd false l k seed] (RdR l k 2 QB) := by
  refine FnSpec.walk dr_ok Try.func43 rfl (by kernel_rfl) rfl rfl rfl (by simp) ?_
  simp
  refine callG_on false [0] ?_; simp; refine callN_all (by with_reducible exact c_pick l k n seed hl hb hk h1 h2) ?_; rintro _ _ ⟨k1, s1, hk1, rfl, x, hx, rfl⟩; refine ⟨fun e => (by cases e), ?_⟩; simp
  refine endG_src ?_
  simp
  exact ⟨k1, s1, by omega, rfl, _, rfl⟩
theorem c_pickL (l : List Nat) (k : Nat) (m : Int) (n : Nat) (seed : Int) (hm : m = n) (hl : l.length ≤ 1048576) (hb : ∀ b ∈ l, b < 256) (hk : k + 2 < 1000000000000) (h1 : 1 < n) (h2 : n ≤ 65536) :
    FnSpec Try.prog 44 [.ptr 0 0, .int .i64 m] [rd false l k seed] (RdR l k 2 (QI n)) := by subst hm; exact c_pick l k n seed hl hb hk h1 h2
theorem c_oneL (l : List Nat) (k : Nat) (m : Int) (n : Nat) (seed : Int) (hm : m = n) (hl : l.length ≤ 1048576) (hb : ∀ b ∈ l, b < 256) (hk : k + 2 < 1000000000000) (h1 : 1 < n) (h2 : n ≤ 65536) :
    FnSpec Try.prog 43 [.ptr 0 0, .int .i64 m] [rd false l k seed] (RdR l k 2 QB) := by subst hm; exact c_one l k n seed hl hb hk h1 h2
end Go.Proofs.Ytfngkhkghjgmkaa
