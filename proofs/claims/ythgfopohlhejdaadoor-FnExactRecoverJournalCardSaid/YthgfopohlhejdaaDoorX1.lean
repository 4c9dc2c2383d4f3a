/- Contracts: check numbers, decimals, marks (program, reference and laws).
Conditions: none. -/
import Derived.Test.YthgfopohlhejdaaDoorX0
import Derived.Test.YthgfopohlhejdaaDoorC1
namespace Go.Proofs.YthgfopohlhejdaaDoor
set_option linter.all false
open Go Go.Awp
set_option maxRecDepth 100000
set_option maxHeartbeats 8000000
set_option pp.deepTerms true

attribute [simp] bs_size bs_append bs_extract bs_get bs_toList bs_at
theorem bs_lit (l : List UInt8) : ({ data := l.toArray } : ByteArray) = bs l := rfl
theorem lit0 : ({ data := #[] } : ByteArray) = bs [] := rfl

/-- Rows of bytes, rows of texts. -/
def cB (l : List UInt8) : List AV := l.map fun b => .int .u8 b.toNat
@[simp] theorem cB_nil : cB [] = [] := rfl
@[simp] theorem cB_length (l : List UInt8) : (cB l).length = l.length := by simp [cB]
@[simp] theorem cB_num (l : List UInt8) : (cB l).all AV.num = true := by
  induction l with
  | nil => rfl
  | cons a l ih => simp only [cB, List.map_cons, List.all_cons] at ih ⊢; rw [ih]; rfl
@[simp] theorem cB_flat (l : List UInt8) : (cB l).all AV.flat = true := num_flat (cB_num l)
@[simp] theorem cB_pures (l : List UInt8) : (∀ (x : AV), x ∈ cB l → x.isPure = true) = True := eq_true (List.all_eq_true.1 (pure_flat (cB_flat l)))
@[simp] theorem cB_take (l : List UInt8) (k : Nat) : (cB l).take k = cB (l.take k) := by simp [cB, List.map_take]
@[simp] theorem cB_append (l l' : List UInt8) : cB l ++ cB l' = cB (l ++ l') := by simp [cB]
theorem cB_one (b : UInt8) : [.int .u8 b.toNat] = cB [b] := rfl
@[simp] theorem cB_cons (b : UInt8) (l : List UInt8) : .int .u8 b.toNat :: cB l = cB (b :: l) := rfl
@[simp] theorem cB_make (n : Nat) : makeL n [.int .u8 0] = cB (List.replicate n 0) := by
  unfold makeL cB
  simp [Nat.mod_one, List.map_const']
@[simp] theorem cB_splice {l : List UInt8} {k : Nat} {x : UInt8} (h : k < l.length) : splice (cB l) k [.int .u8 x.toNat] = cB (l.set k x) := by
  unfold cB splice
  rw [List.set_eq_take_append_cons_drop]
  simp [h, List.map_take, List.map_drop]
theorem u8_wrap (n : Nat) (h : n < 256) : (UInt8.ofNat n).toNat = n := by simp; omega
theorem strOf_bytes (l : List UInt8) : strOfNums (l.map fun b => (b.toNat : Int)) = bs l := by
  unfold strOfNums bs
  simp
  rw [show ((fun n : Int => UInt8.ofNat n.toNat) ∘ fun b : UInt8 => (b.toNat : Int)) = id from funext fun b => by simp]
  simp
@[simp] theorem numsA_cB (l : List UInt8) : numsA (cB l) = some (l.map fun b => (b.toNat : Int)) := by
  induction l with
  | nil => rfl
  | cons a l ih => show (numsA (cB l)).map _ = _; rw [ih]; rfl
@[simp] theorem strOfNums_cB (l : List UInt8) : strOfNums (l.map fun b => (b.toNat : Int)) = bs l := strOf_bytes l

def cT (l : List (List UInt8)) : List AV := l.map fun t => .str (bs t)
@[simp] theorem cT_nil : cT [] = [] := rfl
@[simp] theorem cT_length (l : List (List UInt8)) : (cT l).length = l.length := by simp [cT]
@[simp] theorem cT_num (l : List (List UInt8)) : (cT l).all AV.num = true := by
  induction l with
  | nil => rfl
  | cons a l ih => simp only [cT, List.map_cons, List.all_cons] at ih ⊢; rw [ih]; rfl
@[simp] theorem cT_flat (l : List (List UInt8)) : (cT l).all AV.flat = true := num_flat (cT_num l)
@[simp] theorem cT_pures (l : List (List UInt8)) : (∀ (x : AV), x ∈ cT l → x.isPure = true) = True := eq_true (List.all_eq_true.1 (pure_flat (cT_flat l)))
@[simp] theorem cT_take (l : List (List UInt8)) (k : Nat) : (cT l).take k = cT (l.take k) := by simp [cT, List.map_take]
@[simp] theorem cT_drop {l : List (List UInt8)} {k : Nat} (h : k < l.length) : (cT l).drop k = .str (bs l[k]) :: cT (l.drop (k + 1)) := by
  unfold cT; rw [List.drop_eq_getElem_cons (by simpa using h), List.getElem_map, List.map_drop]
@[simp] theorem cT_get {l : List (List UInt8)} {k : Nat} (h : k < l.length) : (cT l)[k]? = some (.str (bs l[k])) := by simp [cT, h]
@[simp] theorem cT_append (l l' : List (List UInt8)) : cT l ++ cT l' = cT (l ++ l') := by simp [cT]
@[simp] theorem cT_push (l : List (List UInt8)) (x : List UInt8) : cT l ++ [.str (bs x)] = cT (l ++ [x]) := by simp [cT]

@[simp] theorem cT_splice {l : List (List UInt8)} {k : Nat} {x : List UInt8} (h : k < l.length) : splice (cT l) k [.str (bs x)] = cT (l.set k x) := by
  unfold cT splice
  rw [List.set_eq_take_append_cons_drop]
  simp [h, List.map_take, List.map_drop]
@[simp] theorem cT_make (n : Nat) : makeL n [.str ⟨#[]⟩] = cT (List.replicate n []) := by
  unfold makeL cT
  simp [Nat.mod_one, List.map_const', bs]

/-- The check number of a text. -/
def chk (c : Int) (b : UInt8) : Int := (701 * c + b.toNat + 47) % 65003
def chkL (c : Int) (l : List UInt8) : Int := l.foldl chk c
theorem chk_in (c : Int) (b : UInt8) : 0 ≤ chk c b ∧ chk c b < 65003 := by unfold chk; omega
theorem chkL_in : ∀ (l : List UInt8) {c : Int}, 0 ≤ c → c < 65003 → 0 ≤ chkL c l ∧ chkL c l < 65003
  | [], _, h0, h1 => ⟨h0, h1⟩
  | b :: l, c, _, _ => chkL_in l (chk_in c b).1 (chk_in c b).2
theorem chkL_succ {c : Int} {l : List UInt8} {k : Nat} (h : k < l.length) : chkL c (l.take (k + 1)) = chk (chkL c (l.take k)) l[k] := by
  unfold chkL
  rw [List.take_succ_eq_append_getElem h, List.foldl_append]
  rfl
theorem chk_step {c : Int} {b : UInt8} (h0 : 0 ≤ c) (h1 : c < 65003) : IntKind.i64.wrap (IntKind.i64.wrap (IntKind.i64.wrap (701 * c) + IntKind.i64.wrap (b.toNat : Int)) + 47) = 701 * c + b.toNat + 47 := by
  have hb := b.toNat_lt
  rw [wrap64 (n := 701 * c) (by omega) (by omega), wrap64 (n := (b.toNat : Int)) (by omega) (by omega), wrap64 (n := 701 * c + b.toNat) (by omega) (by omega), wrap64 (by omega) (by omega)]
theorem chk_mod {c : Int} {b : UInt8} (h0 : 0 ≤ c) : (701 * c + b.toNat + 47).tmod 65003 = chk c b := Int.tmod_eq_emod_of_nonneg (by omega)
@[simp] theorem chkL_nil (c : Int) : chkL c [] = c := rfl
theorem c_l01Check (c : Int) (h0 : 0 ≤ c) (h1 : c < 65003) (s : List UInt8) (hs : s.length ≤ 281474976710656) : Fun Tryd.prog 41 [.int .i64 c, .str (bs s)] [] (.int .i64 (chkL c s)) [] := by
  refine FnSpec.walkF dr_ok Tryd.func41 rfl (by kernel_rfl) rfl rfl rfl (by simp) ?_
  simp
  refine loopG_of (α := Nat) (fun k => k ≤ s.length) (fun k => s.length - k) (fun k => [(0, .int .i64 (chkL c (s.take k))), (1, .str (bs s)), (5, .int .i64 k)]) (fun k => []) 0 (by simp) (weak_UH (by simp) (by simp)) fun k hk => ?_
  have hw := nat_wrap (k := k) (by omega)
  obtain ⟨q0, q1⟩ := chkL_in (s.take k) h0 h1
  by_cases h : k < s.length
  · have e := chkL_succ (c := c) h
    simp [h, hw]
    rw [chk_step q0 q1, chk_mod q0, ← e]
    exact loopK_next (k + 1) (by omega) (by omega) (weak_UH (by simp) (by simp))
  · obtain rfl : k = s.length := by omega
    simp
theorem c_CheckOf (c : Int) (h0 : 0 ≤ c) (h1 : c < 65003) (s : List UInt8) (hs : s.length ≤ 281474976710656) : Fun Tryd.prog 35 [.int .i64 c, .str (bs s)] [] (.tup [.int .i64 (chkL c s), .bool true]) [] := by
  have hi : inB c 0 65002 = true := by simp [inB]; omega
  refine FnSpec.walkF dr_ok Tryd.func35 rfl (by kernel_rfl) rfl rfl rfl (by simp) ?_
  simp
  (first | refine callG_r ?_ | refine callD_r ?_); simp; (first | refine callN_flat (by with_reducible first | exact c_within _ _ _) rfl ?_ | refine callN_new (by with_reducible first | exact c_within _ _ _) ?_ | refine callM_flat (by with_reducible first | exact c_within _ _ _) rfl ?_ | refine callM_new (by with_reducible first | exact c_within _ _ _) ?_)
  simp [hi]
  refine loopG_of (α := Nat) (fun k => k ≤ s.length) (fun k => s.length - k) (fun k => [(0, .int .i64 (chkL c (s.take k))), (1, .str (bs s)), (12, .int .i64 k), (11, .int .i64 s.length)]) (fun k => []) 0 (by simp) (weak_UH (by simp) (by simp)) fun k hk => ?_
  have hw := nat_wrap (k := k) (by omega)
  obtain ⟨q0, q1⟩ := chkL_in (s.take k) h0 h1
  by_cases h : k < s.length
  · have e := chkL_succ (c := c) h
    simp [h, hw]
    rw [chk_step q0 q1, chk_mod q0, ← e]
    exact loopK_next (k + 1) (by omega) (by omega) (weak_UH (by simp) (by simp))
  · obtain rfl : k = s.length := by omega
    simp

/-- Digits. -/
theorem c_Decimal (n : Int) (h0 : -9223372036854775808 ≤ n) (h1 : n ≤ 9223372036854775807) : Fun Tryd.prog 37 [.int .i64 n] [] (.str (bs (Lib.itoa n))) [] := by
  refine FnSpec.walkF dr_ok Tryd.func37 rfl (by kernel_rfl) rfl rfl rfl (by simp) ?_
  simp
  (first | refine callG_r ?_ | refine callD_r ?_); simp; (first | refine callN_flat (by with_reducible first | exact c_FormatInt n h0 h1) rfl ?_ | refine callN_new (by with_reducible first | exact c_FormatInt n h0 h1) ?_ | refine callM_flat (by with_reducible first | exact c_FormatInt n h0 h1) rfl ?_ | refine callM_new (by with_reducible first | exact c_FormatInt n h0 h1) ?_)
  simp
def dD (r : Nat) : List UInt8 := if r = 0 then [] else Lib.decDigits r
def dg (r : Nat) : UInt8 := UInt8.ofNat (48 + r % 10)
@[simp] theorem dD_zero : dD 0 = [] := rfl
theorem dD_pos {r : Nat} (h : r ≠ 0) : dD r = Lib.decDigits r := if_neg h
theorem decDigits_step (r : Nat) : Lib.decDigits r = dD (r / 10) ++ [dg r] := by
  rw [Lib.decDigits]
  by_cases h : r < 10
  · rw [dif_pos h]
    have : r / 10 = 0 := by omega
    rw [this, dD_zero]
    simp [dg, Nat.mod_eq_of_lt h]
  · rw [dif_neg h, dD_pos (by omega)]
    rfl
theorem dD_step {r : Nat} (h : r ≠ 0) : dD r = dD (r / 10) ++ [dg r] := by rw [dD_pos h, decDigits_step]
theorem dg_nat (r : Nat) : (dg r).toNat = 48 + r % 10 := u8_wrap _ (by omega)
theorem dg_neg {r : Int} (h0 : -9223372036854775808 ≤ r) (h1 : r ≤ 9223372036854775807) (h : r.tmod 10 < 0) : IntKind.u8.wrap (IntKind.i64.wrap (48 + IntKind.i64.wrap (-r.tmod 10))) = (dg r.natAbs).toNat := by
  have e : (r.tmod 10).natAbs = r.natAbs % 10 := Int.natAbs_tmod r 10
  rw [dg_nat, wrap64 (n := -r.tmod 10) (by omega) (by omega), wrap64 (by omega) (by omega), IntKind.wrap_u8]
  omega
theorem dg_pos {r : Int} (h0 : -9223372036854775808 ≤ r) (h1 : r ≤ 9223372036854775807) (h : ¬ r.tmod 10 < 0) : IntKind.u8.wrap (IntKind.i64.wrap (48 + r.tmod 10)) = (dg r.natAbs).toNat := by
  have e : (r.tmod 10).natAbs = r.natAbs % 10 := Int.natAbs_tmod r 10
  rw [dg_nat, wrap64 (by omega) (by omega), IntKind.wrap_u8]
  omega
theorem quo_word {r : Int} (h0 : -9223372036854775808 ≤ r) (h1 : r ≤ 9223372036854775807) : IntKind.i64.wrap (r.tdiv 10) = r.tdiv 10 ∧ (r.tdiv 10).natAbs = r.natAbs / 10 := by
  have e : (r.tdiv 10).natAbs = r.natAbs / 10 := Int.natAbs_tdiv r 10
  exact ⟨wrap64 (by omega) (by omega), e⟩
theorem decDigits_len : ∀ (k r : Nat), r < 10 ^ (k + 1) → (Lib.decDigits r).length ≤ k + 1
  | 0, r, h => by rw [Lib.decDigits, dif_pos (by simpa using h)]; simp
  | k + 1, r, h => by
    rw [decDigits_step, List.length_append]
    have : (dD (r / 10)).length ≤ k + 1 := by
      unfold dD
      split
      · simp
      · exact decDigits_len k _ (by rw [Nat.pow_succ] at h; omega)
    simp
    omega
theorem decDigits_len20 {r : Nat} (h : r ≤ 9223372036854775808) : (Lib.decDigits r).length ≤ 20 := decDigits_len 19 r (by omega)
theorem itoa_len {n : Int} (h0 : -9223372036854775808 ≤ n) (h1 : n ≤ 9223372036854775807) : (Lib.itoa n).length ≤ 21 := by
  unfold Lib.itoa
  split
  · have := decDigits_len20 (r := n.natAbs) (by omega)
    simp; omega
  · have := decDigits_len20 (r := n.toNat) (by omega)
    omega
theorem c_l01Dec (n : Int) (h0 : -9223372036854775808 ≤ n) (h1 : n ≤ 9223372036854775807) : Fun Tryd.prog 42 [.int .i64 n] [] (.str (bs (Lib.itoa n))) [] := by
  refine FnSpec.walkF dr_ok Tryd.func42 rfl (by kernel_rfl) rfl rfl rfl (by simp) ?_
  simp
  refine loopG_of (α := Int × List UInt8) (fun p => (p.1 = n ∧ p.2 = []) ∨ (p.2 ≠ [] ∧ dD p.1.natAbs ++ p.2 = Lib.decDigits n.natAbs ∧ -9223372036854775808 ≤ p.1 ∧ p.1 ≤ 9223372036854775807))
    (fun p => p.1.natAbs + (if p.2 = [] then 1 else 0)) (fun p => [(0, .int .i64 n), (3, .slc 0 0 p.2.length 1), (4, .int .i64 p.1)]) (fun p => [.blk true false 5 (cB p.2)]) (n, []) (by simp) ?_ fun p hp => ?_
  · (refine weak_gc [(none, 5)] ?_ ?_ ?_ ?_ ?_ <;> simp)
  · obtain ⟨r, out⟩ := p
    have hr : -9223372036854775808 ≤ r ∧ r ≤ 9223372036854775807 ∧ out.length ≤ 20 := by
      rcases hp with ⟨e, e2⟩ | ⟨_, e2, e⟩
      · simp only at e e2; subst e; subst e2; simp; omega
      · refine ⟨e.1, e.2, ?_⟩
        have h := congrArg List.length e2
        have := decDigits_len20 (r := n.natAbs) (by omega)
        simp at h
        omega
    obtain ⟨q1, q2⟩ := quo_word hr.1 hr.2.1
    by_cases h : out = [] ∨ r ≠ 0
    · have hnext : dD (r.tdiv 10).natAbs ++ (dg r.natAbs :: out) = Lib.decDigits n.natAbs := by
        rw [q2]
        rcases hp with ⟨e, e2⟩ | ⟨e1, e2, _⟩
        · simp only at e e2; subst e; subst e2
          exact (decDigits_step _).symm
        · simp only at e1 e2
          have : r ≠ 0 := h.resolve_left e1
          rw [← e2, dD_step (r := r.natAbs) (by omega)]
          simp
      have hms : (r.tdiv 10).natAbs + (if (dg r.natAbs :: out) = [] then 1 else 0) < r.natAbs + (if out = [] then 1 else 0) := by
        rw [if_neg (by simp), q2]
        split
        · omega
        · have : r ≠ 0 := h.resolve_left ‹_›
          omega
      by_cases h2 : out = []
      · subst h2
        by_cases h3 : r.tmod 10 < 0
        · have e := dg_neg hr.1 hr.2.1 h3
          simp [h3, e, q1]
          refine loopK_next (r.tdiv 10, [dg r.natAbs]) hms (.inr ⟨by simp, hnext, by omega, by omega⟩) ?_
          (refine weak_gc [(some 2, 0)] ?_ ?_ ?_ ?_ ?_ <;> simp)
        · have e := dg_pos hr.1 hr.2.1 h3
          simp [h3, e, q1]
          refine loopK_next (r.tdiv 10, [dg r.natAbs]) hms (.inr ⟨by simp, hnext, by omega, by omega⟩) ?_
          (refine weak_gc [(some 2, 0)] ?_ ?_ ?_ ?_ ?_ <;> simp)
      · have h4 : r ≠ 0 := h.resolve_left h2
        have hb : 1 + out.length ≤ 140737488355328 := by omega
        have hb2 : 1 + out.length ≤ 9223372036854775807 := by omega
        by_cases h3 : r.tmod 10 < 0
        · have e := dg_neg hr.1 hr.2.1 h3
          simp [h2, h3, h4, e, q1, hb, hb2]
          refine loopK_next (r.tdiv 10, dg r.natAbs :: out) hms (.inr ⟨by simp, hnext, by omega, by omega⟩) ?_
          (refine weak_gc [(some 2, 0)] ?_ ?_ ?_ ?_ ?_ <;> simp [Nat.add_comm])
        · have e := dg_pos hr.1 hr.2.1 h3
          simp [h2, h3, h4, e, q1, hb, hb2]
          refine loopK_next (r.tdiv 10, dg r.natAbs :: out) hms (.inr ⟨by simp, hnext, by omega, by omega⟩) ?_
          (refine weak_gc [(some 2, 0)] ?_ ?_ ?_ ?_ ?_ <;> simp [Nat.add_comm])
    · obtain ⟨h2, h4⟩ : out ≠ [] ∧ r = 0 := ⟨fun e => h (.inl e), Classical.not_not.1 fun e => h (.inr e)⟩
      subst h4
      rcases hp with ⟨_, e⟩ | ⟨_, e, _⟩
      · exact absurd e h2
      · replace e : out = Lib.decDigits n.natAbs := e
        simp [h2]
        by_cases c : n < 0
        · have e2 : Lib.itoa n = 45 :: out := by rw [Lib.itoa, if_pos c, e]
          have hb : 1 + out.length ≤ 140737488355328 := by omega
          have hb2 : 1 + out.length ≤ 9223372036854775807 := by omega
          rw [e2]
          have e45 : splice (cB [0]) 0 [.int .u8 45] = cB [45] := rfl
          simp [c, isByt, e45, hb, hb2]
          refine ⟨⟨by omega, ?_⟩, fun h => by omega⟩
          rw [List.take_of_length_le (by simp; omega)]
          exact strOf_bytes (45 :: out)
        · have e2 : Lib.itoa n = out := by rw [Lib.itoa, if_neg c, e, show n.toNat = n.natAbs by omega]
          rw [e2]
          simp [c, isByt]

/-- What the laws put into a text's place. -/
def mkT (k : Int) : List UInt8 := if k ≤ 0 then [109, 48] else 109 :: Lib.decDigits k.toNat
theorem c_markText (k : Int) (h1 : k ≤ 4611686018427387904) : Fun Tryd.prog 44 [.int .i64 k] [] (.str (bs (mkT k))) [] := by
  refine FnSpec.walkF dr_ok Tryd.func44 rfl (by kernel_rfl) rfl rfl rfl (by simp) ?_
  simp
  by_cases h : k ≤ 0
  · have e : mkT k = [109, 48] := by simp [mkT, h]
    rw [e]
    have h' : ¬ 0 < k := by omega
    simp [h, h']
    rfl
  · have h' : 0 < k := by omega
    have e : mkT k = 109 :: Lib.decDigits k.toNat := by simp [mkT, h]
    rw [e]
    simp [h, h']
    refine loopG_of (α := Nat × List UInt8) (fun p => dD p.1 ++ p.2 = Lib.decDigits k.toNat ∧ p.1 ≤ 4611686018427387904) (fun p => p.1) (fun p => [(0, .int .i64 p.1), (3, .str (bs p.2))]) (fun p => []) (k.toNat, []) ?_ ?_ fun p hp => ?_
    · exact ⟨by simp; exact dD_pos (by omega), by simp; omega⟩
    · refine weak_UH (by simp) ?_
      have e3 : k = max k 0 := by omega
      simp [bs]
      exact e3
    · obtain ⟨r, out⟩ := p
      obtain ⟨hp1, hp2⟩ := hp
      simp only at hp1 hp2
      have hlen : out.length ≤ 20 := by
        have h2 := congrArg List.length hp1
        have := decDigits_len20 (r := k.toNat) (by omega)
        simp at h2
        omega
      have hb : 1 + out.length ≤ 9223372036854775807 := by omega
      by_cases c : r = 0
      · subst c
        simp at hp1
        have e4 : ({ data := #[109] } : ByteArray) = bs [109] := rfl
        simp [e4, ← hp1, hb]
      · have c' : 0 < (r : Int) := by omega
        have q1 := quo_word (r := (r : Int)) (by omega) (by omega)
        have q2 := dg_pos (r := (r : Int)) (by omega) (by omega) (by
          have := Int.tmod_nonneg (a := (r : Int)) 10 (by omega)
          omega)
        have q3 : IntKind.i64.wrap ((r : Int) / 10) = ((r / 10 : Nat) : Int) := by rw [wrap64 (by omega) (by omega)]; simp
        have q4 : strOfNums [((dg r).toNat : Int)] = bs [dg r] := strOf_bytes [dg r]
        have c2 : 0 < r := by omega
        simp [c', isByt, q2, q3, q4, hb, c, c2]
        refine loopK_next (r / 10, dg r :: out) (by simp only; omega) ⟨?_, by simp only; omega⟩ ?_
        · rw [← hp1, dD_step c]
          simp
        · (refine weak_gc [] ?_ ?_ ?_ ?_ ?_ <;> simp)
/-- Both hand back the same text or not. -/
theorem c_eqStringS (a b : List (List UInt8)) (ha : a.length ≤ 1000000000000) (hb : b.length ≤ 1000000000000) : Fun Tryd.prog 12 [.view false (cT a) a.length, .view false (cT b) b.length] [] (.bool (a == b)) [] := by
  refine FnSpec.walkF dr_ok Tryd.func12 rfl (by kernel_rfl) rfl rfl rfl (by simp) ?_
  simp
  by_cases e : a.length = b.length
  · simp [e]
    refine loopG_of (α := Nat) (fun k => k ≤ b.length ∧ a.take k = b.take k) (fun k => b.length - k) (fun k => [(0, .view false (cT a) b.length), (1, .view false (cT b) b.length), (5, .int .i64 k)]) (fun k => []) 0 (by simp) (weak_UH (by simp) (by simp)) fun k hk => ?_
    obtain ⟨hk, ht⟩ := hk
    have hw := nat_wrap (k := k) (by omega)
    by_cases h : k < b.length
    · have h' : k < a.length := by omega
      by_cases g : a[k] = b[k]
      · simp [h, h', hw, g, e]
        refine loopK_next (k + 1) (by omega) ⟨by omega, ?_⟩ (weak_UH (by simp) (by simp))
        rw [List.take_succ_eq_append_getElem h', List.take_succ_eq_append_getElem h, ht, g]
      · have g2 : (a == b) = false := beq_eq_false_iff_ne.2 fun e => g (by subst e; rfl)
        simp [h, h', hw, g, e, g2]
    · obtain rfl : k = b.length := by omega
      have g2 : a = b := by rw [List.take_of_length_le (by omega), List.take_of_length_le (by omega)] at ht; exact ht
      simp [g2]
  · have g2 : (a == b) = false := beq_eq_false_iff_ne.2 fun g => e (by rw [g])
    have e2 : ¬ (a.length : Int) = b.length := by omega
    simp [e, e2]
    exact fun g => e (by rw [g])
end Go.Proofs.YthgfopohlhejdaaDoor
