/- Journals that are recovered: plain law, program and reference.
Conditions: none. -/
import Derived.Test.YthgfopohlhejdaaDoorX2
namespace Go.Proofs.YthgfopohlhejdaaDoor
set_option linter.all false
open Go Go.Awp
set_option maxRecDepth 100000
set_option maxHeartbeats 8000000
set_option pp.deepTerms true

/-- All pieces of a text between bytes of one kind. -/
def pc (m : UInt8) : List UInt8 → List (List UInt8)
  | [] => [[]]
  | b :: l => if b = m then [] :: pc m l else match pc m l with
    | p :: ps => (b :: p) :: ps
    | [] => [[b]]
theorem pc_ne (m : UInt8) : ∀ l, pc m l ≠ []
  | [] => by simp [pc]
  | b :: l => by
    unfold pc
    split
    · simp
    · split <;> simp
theorem pc_none {m : UInt8} : ∀ {l : List UInt8}, m ∉ l → pc m l = [l]
  | [], _ => rfl
  | b :: l, h => by
    rw [pc, if_neg (fun e => h (by simp [e])), pc_none (l := l) fun e => h (List.mem_cons_of_mem _ e)]
theorem pc_split {m : UInt8} : ∀ {n : Nat} {l : List UInt8}, m ∉ l.take n → l[n]? = some m → pc m l = l.take n :: pc m (l.drop (n + 1))
  | 0, [], _, h => by simp at h
  | 0, b :: l, _, h => by
    have : b = m := by simpa using h
    rw [pc, if_pos this]; rfl
  | n + 1, [], _, h => by simp at h
  | n + 1, b :: l, h1, h2 => by
    have hb : b ≠ m := fun e => h1 (by simp [e])
    rw [pc, if_neg hb, pc_split (n := n) (l := l) (fun e => h1 (by simp [e])) (by simpa using h2)]
    rfl
theorem cutS_inv {m : UInt8} {s : List UInt8} : ∀ {k : Nat}, k ≤ s.length → m ∉ (s.drop (cutS m s k).2).take (k - (cutS m s k).2) ∧ (cutS m s k).1 ++ pc m (s.drop (cutS m s k).2) = pc m s
  | 0, _ => by simp
  | k + 1, h => by
    obtain ⟨h1, h2⟩ := cutS_inv (m := m) (s := s) (k := k) (by omega)
    obtain ⟨q1, q2⟩ := cutS_le m s k
    have hg : (s.drop (cutS m s k).2)[k - (cutS m s k).2]? = s[k]? := by rw [List.getElem?_drop]; congr 1; omega
    by_cases c : s[k]? = some m
    · rw [cutS_shut (.inr c)]
      refine ⟨by simp, ?_⟩
      rw [← h2, pc_split h1 (by rw [hg, c])]
      simp only [List.append_assoc, List.singleton_append, List.drop_drop]
      congr 4
      omega
    · rw [cutS_open (by
      rintro (e | e)
      · omega
      · exact c e)]
      refine ⟨?_, h2⟩
      have hl : k - (cutS m s k).2 < (s.drop (cutS m s k).2).length := by simp; omega
      rw [show k + 1 - (cutS m s k).2 = (k - (cutS m s k).2) + 1 by omega, List.take_succ_eq_append_getElem hl]
      intro e
      rcases List.mem_append.1 e with e | e
      · exact h1 e
      · refine c ?_
        rw [← hg, List.getElem?_eq_getElem hl]
        exact congrArg some (List.mem_singleton.1 e).symm
theorem cutA_eq (m : UInt8) (s : List UInt8) : cutA m s = pc m s := by
  obtain ⟨h1, h2⟩ := cutS_inv (m := m) (s := s) (Nat.le_refl _)
  obtain ⟨q1, q2⟩ := cutS_le m s s.length
  have hl : (s.drop (cutS m s s.length).2).take (s.length - (cutS m s s.length).2) = s.drop (cutS m s s.length).2 := List.take_of_length_le (by simp)
  rw [hl] at h1
  rw [cutA, cutS_shut (.inl rfl), ← h2, pc_none h1, hl]
/-- The lines of a text that end, and what is behind them. -/
def lns (s : List UInt8) : List (List UInt8) := (pc 10 s).dropLast
def opn (s : List UInt8) : List UInt8 := (pc 10 s).getLast (pc_ne _ _)
theorem lns_eq (s : List UInt8) : cutA 10 s = lns s ++ [opn s] := by rw [cutA_eq]; exact (List.dropLast_concat_getLast (pc_ne 10 s)).symm
theorem lns_none {s : List UInt8} (h : (10 : UInt8) ∉ s) : lns s = [] := by rw [lns, pc_none h]; rfl
theorem lns_split {s : List UInt8} {n : Nat} (h1 : (10 : UInt8) ∉ s.take n) (h2 : s[n]? = some 10) : lns s = s.take n :: lns (s.drop (n + 1)) := by
  rw [lns, pc_split h1 h2, List.dropLast_cons_of_ne_nil (pc_ne _ _)]; rfl
theorem lns_len (s : List UInt8) : (lns s).length ≤ s.length := by
  have h1 := congrArg List.length (lns_eq s)
  have h2 := cutS_le 10 s (s.length + 1)
  simp [cutA] at h1
  omega
/-- The first place of a byte, or the length. -/
def plc (c : UInt8) (l : List UInt8) : Nat := (l.takeWhile (· ≠ c)).length
/-- What is recovered of lines: the lines' own parts, and how many bytes they are. -/
def recov (c : Int) : List (List UInt8) → List (List UInt8) × Nat
  | [] => ([], 0)
  | l :: ls => if plc 32 l = l.length then ([], 0) else
    if l.take (plc 32 l) = Lib.itoa (chkL c (l.drop (plc 32 l + 1))) then
      (l.drop (plc 32 l + 1) :: (recov (chkL c (l.drop (plc 32 l + 1))) ls).1, l.length + 1 + (recov (chkL c (l.drop (plc 32 l + 1))) ls).2)
    else ([], 0)
theorem plc_spec (c : UInt8) : ∀ (l : List UInt8), (c ∉ l ∧ plc c l = l.length ∧ Lib.indexByte l c = -1) ∨ (plc c l < l.length ∧ l[plc c l]? = some c ∧ c ∉ l.take (plc c l) ∧ Lib.indexByte l c = plc c l)
  | [] => .inl ⟨by simp, rfl, rfl⟩
  | b :: l => by
    by_cases h : b = c
    · subst h
      right
      have e : plc b (b :: l) = 0 := by simp [plc]
      rw [e]
      exact ⟨by simp, by simp, by simp, by simp [Lib.indexByte]⟩
    · have e : plc c (b :: l) = plc c l + 1 := by simp [plc, h]
      rw [e]
      rcases plc_spec c l with ⟨h1, h2, h3⟩ | ⟨h1, h2, h3, h4⟩
      · left
        refine ⟨?_, by simp [h2], ?_⟩
        · intro e
          rcases List.mem_cons.1 e with e | e
          · exact h e.symm
          · exact h1 e
        · simp [Lib.indexByte, h, h3]
      · right
        refine ⟨by simp; exact h1, by simpa using h2, ?_, ?_⟩
        · intro e
          rw [List.take_succ_cons] at e
          rcases List.mem_cons.1 e with e | e
          · exact h e.symm
          · exact h3 e
        · have : ¬ Lib.indexByte l c = -1 := by omega
          simp [Lib.indexByte, h, h4]
theorem plc_le (c : UInt8) (l : List UInt8) : plc c l ≤ l.length := by rcases plc_spec c l with h | h <;> omega
theorem plc_at {c : UInt8} {l : List UInt8} {k : Nat} (h : k < plc c l) (hk : k < l.length) : l[k] ≠ c := by
  intro e
  have h3 : c ∉ l.take (plc c l) := by
    rcases plc_spec c l with h | h
    · exact fun g => h.1 (List.mem_of_mem_take g)
    · exact h.2.2.1
  refine h3 (List.mem_take_iff_getElem.2 ⟨k, by omega, e⟩)
theorem cut_eq (l : List UInt8) : Lib.cut l [32] = if plc 32 l = l.length then (l, [], false) else (l.take (plc 32 l), l.drop (plc 32 l + 1), true) := by
  unfold Lib.cut
  rw [Lib.index_one]
  rcases plc_spec 32 l with ⟨h1, h2, h3⟩ | ⟨h1, h2, h3, h4⟩
  · rw [h3, h2, if_neg (by omega), if_pos rfl]
  · rw [h4, if_pos (by omega), if_neg (by omega)]
    rfl

theorem c_CutSpace (s : List UInt8) (hs : s.length < 4294967281) : Fun Tryd.prog 86 [.str (bs s), .str { data := #[32] }] [] (.tup [.str (bs (Lib.cut s [32]).1), .str (bs (Lib.cut s [32]).2.1), .bool (Lib.cut s [32]).2.2]) [] := c_Cut s [32] hs
theorem c_IndexLine (s : List UInt8) : Fun Tryd.prog 85 [.str (bs s), .int .u8 10] [] (.int .i64 (Lib.indexByte s 10)) [] := c_IndexByte s 10
theorem c_l01CutLine (s : List UInt8) (hs : s.length ≤ 1048576) : Fun Tryd.prog 84 [.str (bs s), .int .u8 10] [] (.slc 0 0 (lns s ++ [opn s]).length 1) [.blk true false 9 (cT (lns s ++ [opn s]))] := by
  rw [← lns_eq]; exact c_l01Cut s 10 hs
theorem c_l11Lines (s : List UInt8) (hs : s.length ≤ 1048576) : Fun Tryd.prog 40 [.str (bs s)] [] (.tup [.slc 0 0 (lns s).length 1, .str (bs (opn s))]) [.blk true false 9 (cT (lns s ++ [opn s]))] := by
  have hl := lns_len s
  refine FnSpec.walk dr_ok Tryd.func40 rfl (by kernel_rfl) rfl rfl rfl (by simp) ?_
  simp
  (first | refine callG_r ?_ | refine callD_r ?_); simp; (first | refine callN_flat (by with_reducible first | exact c_l01CutLine s hs) rfl ?_ | refine callN_new (by with_reducible first | exact c_l01CutLine s hs) ?_ | refine callM_flat (by with_reducible first | exact c_l01CutLine s hs) rfl ?_ | refine callM_new (by with_reducible first | exact c_l01CutLine s hs) ?_)
  have hw : IntKind.i64.wrap ((lns s).length : Int) = (lns s).length := wrap64 (by omega) (by omega)
  have hg : (cT (lns s ++ [opn s]))[(lns s).length]? = some (.str (bs (opn s))) := by simp [cT]
  have h1 : ((lns s).length : Int) ≤ (lns s).length + 1 := by omega
  have h2 : ((lns s).length : Int) < (lns s).length + 1 := by omega
  simp [hw, ↓hg, h1, h2]
  (refine endG_keepT [(some 0, 0)] ?_ ?_ ?_ ?_ ?_ ?_ ?_ ⟨rfl, rfl⟩ ?_ <;> simp)
theorem c_recovered (t : List UInt8) (ht : t.length ≤ 1048576) : Fun Tryd.prog 43 [.str (bs t)] [] (.tup [.slc 0 0 (recov 0 (lns t)).1.length 1, .int .i64 (recov 0 (lns t)).2]) [.blk true false 9 (cT (recov 0 (lns t)).1)] := by
  refine FnSpec.walk dr_ok Tryd.func43 rfl (by kernel_rfl) rfl rfl rfl (by simp) ?_
  simp
  refine loopG_of (α := List (List UInt8) × Int × Nat) (fun p => p.2.2 ≤ t.length ∧ 0 ≤ p.2.1 ∧ p.2.1 < 65003 ∧ p.1 ++ (recov p.2.1 (lns (t.drop p.2.2))).1 = (recov 0 (lns t)).1 ∧ p.2.2 + (recov p.2.1 (lns (t.drop p.2.2))).2 = (recov 0 (lns t)).2 ∧ p.1.length ≤ p.2.2)
    (fun p => t.length - p.2.2) (fun p => [(0, .str (bs t)), (4, .slc 0 0 p.1.length 1), (5, .int .i64 p.2.1), (6, .int .i64 p.2.2)]) (fun p => [.blk true false 9 (cT p.1)]) ([], 0, 0) ?_ ?_ fun p hp => ?_
  · simp
  · (refine weak_gc [(none, 9)] ?_ ?_ ?_ ?_ ?_ <;> simp)
  · obtain ⟨out, c, k⟩ := p
    obtain ⟨hk, h0, h1, hr1, hr2, hlo⟩ := hp
    simp only at hk h0 h1 hr1 hr2 hlo
    have e1 : (t.drop k).take (t.length - k) = t.drop k := List.take_of_length_le (by simp)
    simp [hk, e1]
    (first | refine callG_r ?_ | refine callD_r ?_); simp; (first | refine callN_flat (by with_reducible first | exact c_IndexLine (t.drop k)) rfl ?_ | refine callN_new (by with_reducible first | exact c_IndexLine (t.drop k)) ?_ | refine callM_flat (by with_reducible first | exact c_IndexLine (t.drop k)) rfl ?_ | refine callM_new (by with_reducible first | exact c_IndexLine (t.drop k)) ?_)
    simp
    rcases plc_spec 10 (t.drop k) with ⟨g1, g2, g3⟩ | ⟨g1, g2, g3, g4⟩
    · rw [lns_none g1] at hr1 hr2
      simp [recov] at hr1 hr2
      rw [g3]
      simp [← hr1, ← hr2]
      (refine endG_keepT [(some 0, 0)] ?_ ?_ ?_ ?_ ?_ ?_ ?_ ⟨rfl, rfl⟩ ?_ <;> simp)
    · rw [lns_split g3 g2] at hr1 hr2
      rw [g4]
      obtain ⟨n, hn⟩ : ∃ n, n = plc 10 (t.drop k) := ⟨_, rfl⟩
      rw [← hn] at g1 g2 g3 hr1 hr2 ⊢
      have g1' : k + n < t.length := by rw [List.length_drop] at g1; omega
      have w1 : IntKind.i64.wrap ((k : Int) + n) = (k + n : Nat) := by rw [wrap64 (by omega) (by omega)]; omega
      have e2 : (t.drop k).take (k + n - k) = (t.drop k).take n := by rw [Nat.add_sub_cancel_left]
      have n1 : ¬ (n : Int) < 0 := by omega
      have n2 : (k : Int) ≤ k + n := by omega
      have n3 : (k : Int) + n ≤ t.length := by omega
      have n4 : ((k : Int) + n).toNat = k + n := by omega
      simp [n1, w1, e2, hk, n2, n3, n4]
      obtain ⟨l, hl⟩ : ∃ l, l = (t.drop k).take n := ⟨_, rfl⟩
      rw [← hl] at hr1 hr2 ⊢
      have hll : l.length = n := by rw [hl, List.length_take]; omega
      (first | refine callG_r ?_ | refine callD_r ?_); simp; (first | refine callN_flat (by with_reducible first | exact c_CutSpace l (by omega)) rfl ?_ | refine callN_new (by with_reducible first | exact c_CutSpace l (by omega)) ?_ | refine callM_flat (by with_reducible first | exact c_CutSpace l (by omega)) rfl ?_ | refine callM_new (by with_reducible first | exact c_CutSpace l (by omega)) ?_)
      rw [cut_eq]
      by_cases hs : plc 32 l = l.length
      · simp [hs]
        (first | refine callG_r ?_ | refine callD_r ?_); simp; (first | refine callN_flat (by with_reducible first | exact c_CheckOf c h0 h1 [] (by simp)) rfl ?_ | refine callN_new (by with_reducible first | exact c_CheckOf c h0 h1 [] (by simp)) ?_ | refine callM_flat (by with_reducible first | exact c_CheckOf c h0 h1 [] (by simp)) rfl ?_ | refine callM_new (by with_reducible first | exact c_CheckOf c h0 h1 [] (by simp)) ?_)
        simp [recov, hs] at hr1 hr2
        simp [← hr1, ← hr2]
        (refine endG_keepT [(some 0, 0)] ?_ ?_ ?_ ?_ ?_ ?_ ?_ ⟨rfl, rfl⟩ ?_ <;> simp)
      · have hpl := plc_le 32 l
        obtain ⟨x, hx⟩ : ∃ x, x = l.drop (plc 32 l + 1) := ⟨_, rfl⟩
        have hxl : x.length ≤ l.length := by rw [hx, List.length_drop]; omega
        obtain ⟨q0, q1⟩ := chkL_in x h0 h1
        simp [recov, hs, ← hx] at hr1 hr2
        simp [hs, ← hx]
        (first | refine callG_r ?_ | refine callD_r ?_); simp; (first | refine callN_flat (by with_reducible first | exact c_CheckOf c h0 h1 x (by omega)) rfl ?_ | refine callN_new (by with_reducible first | exact c_CheckOf c h0 h1 x (by omega)) ?_ | refine callM_flat (by with_reducible first | exact c_CheckOf c h0 h1 x (by omega)) rfl ?_ | refine callM_new (by with_reducible first | exact c_CheckOf c h0 h1 x (by omega)) ?_)
        simp
        (first | refine callG_r ?_ | refine callD_r ?_); simp; (first | refine callN_flat (by with_reducible first | exact c_Decimal _ (by omega) (by omega)) rfl ?_ | refine callN_new (by with_reducible first | exact c_Decimal _ (by omega) (by omega)) ?_ | refine callM_flat (by with_reducible first | exact c_Decimal _ (by omega) (by omega)) rfl ?_ | refine callM_new (by with_reducible first | exact c_Decimal _ (by omega) (by omega)) ?_)
        simp
        by_cases hd : l.take (plc 32 l) = Lib.itoa (chkL c x)
        · rw [if_pos hd] at hr1 hr2
          simp only at hr1 hr2
          have w2 : IntKind.i64.wrap ((n : Int) + 1) = (n : Int) + 1 := wrap64 (by omega) (by omega)
          have w3 : IntKind.i64.wrap ((k : Int) + (n + 1)) = (k : Int) + (n + 1) := wrap64 (by omega) (by omega)
          have z1 : out.length ≤ 9223372036854775806 := by omega
          have z2 : (out.length + 1) * 16 ≤ 140737488355328 := by omega
          simp [hd, w2, w3, z1, z2]
          refine loopK_next (out ++ [x], chkL c x, k + (n + 1)) (by simp only; omega) ⟨by simp only; omega, q0, q1, ?_, ?_, by simp; omega⟩ ?_
          · simp only
            rw [← hr1, List.append_assoc]
            rfl
          · simp only
            omega
          · (refine weak_gc [(some 2, 0)] ?_ ?_ ?_ ?_ ?_ <;> simp)
        · rw [if_neg hd] at hr1 hr2
          simp [hd, ← hr1, ← hr2]
          (refine endG_keepT [(some 0, 0)] ?_ ?_ ?_ ?_ ?_ ?_ ?_ ⟨rfl, rfl⟩ ?_ <;> simp)
theorem recov_len : ∀ (ls : List (List UInt8)) (c : Int), (recov c ls).1.length ≤ ls.length
  | [], _ => Nat.le_refl _
  | l :: ls, c => by
    unfold recov
    split
    · simp
    · split
      · have := recov_len ls (chkL c (l.drop (plc 32 l + 1)))
        simp
        omega
      · simp
def tot (l : List (List UInt8)) : Nat := (l.map fun x => x.length + 1).sum
theorem tot_pc (m : UInt8) : ∀ s, tot (pc m s) = s.length + 1
  | [] => rfl
  | b :: l => by
    have ih := tot_pc m l
    unfold pc
    split
    · simp [tot] at ih ⊢; omega
    · cases h : pc m l with
      | nil => exact absurd h (pc_ne m l)
      | cons p ps => rw [h] at ih; simp [tot] at ih ⊢; omega
theorem tot_lns (s : List UInt8) : tot (lns s) ≤ s.length := by
  have h := tot_pc 10 s
  rw [← cutA_eq, lns_eq] at h
  simp [tot] at h ⊢
  omega
theorem tot_at : ∀ {l : List (List UInt8)} {i : Nat} (h : i < l.length), l[i].length + 1 ≤ tot l
  | x :: l, 0, _ => by simp [tot]
  | x :: l, i + 1, h => by
    have := tot_at (l := l) (i := i) (by simpa using h)
    simp [tot] at this ⊢
    omega
theorem recov_tot : ∀ (ls : List (List UInt8)) (c : Int), (recov c ls).2 ≤ tot ls
  | [], _ => Nat.le_refl _
  | l :: ls, c => by
    have := recov_tot ls (chkL c (l.drop (plc 32 l + 1)))
    unfold recov
    split
    · simp
    · split
      · simp [tot] at this ⊢; omega
      · simp
theorem c_RecoverJournal (t : List UInt8) (ht : t.length ≤ 12000) : Fun Tryd.prog 14 [.str (bs t)] [] (.tup [.slc 0 0 (recov 0 (lns t)).1.length 1, .int .i64 (recov 0 (lns t)).2, .bool true]) [.blk true false 9 (cT (recov 0 (lns t)).1)] := by
  refine FnSpec.walk dr_ok Tryd.func14 rfl (by kernel_rfl) rfl rfl rfl (by simp) ?_
  have hn : ¬ (12000 : Int) < t.length := by omega
  have hn2 : ¬ 12000 < t.length := by omega
  simp [hn, hn2]
  (first | refine callG_r ?_ | refine callD_r ?_); simp; (first | refine callN_flat (by with_reducible first | exact c_recovered t (by omega)) rfl ?_ | refine callN_new (by with_reducible first | exact c_recovered t (by omega)) ?_ | refine callM_flat (by with_reducible first | exact c_recovered t (by omega)) rfl ?_ | refine callM_new (by with_reducible first | exact c_recovered t (by omega)) ?_)
  simp
  (refine endG_keepT [(some 0, 0)] ?_ ?_ ?_ ?_ ?_ ?_ ?_ ⟨rfl, rfl⟩ ?_ <;> simp)
theorem c_RecoverJournal0 (t : List UInt8) (ht : ¬ t.length ≤ 12000) : Fun Tryd.prog 14 [.str (bs t)] [] (.tup [.nils, .int .i64 0, .bool false]) [] := by
  refine FnSpec.walkF dr_ok Tryd.func14 rfl (by kernel_rfl) rfl rfl rfl (by simp) ?_
  have hn : (12000 : Int) < t.length := by omega
  have hn2 : 12000 < t.length := by omega
  have hn3 : ¬ t.length ≤ 12000 := by omega
  simp [hn, hn2, hn3]
theorem c_specRecoverJournal0 (t : List UInt8) (ht : ¬ t.length ≤ 12000) : Fun Tryd.prog 13 [.str (bs t)] [] (.tup [.nils, .int .i64 0, .bool false]) [] := by
  refine FnSpec.walkF dr_ok Tryd.func13 rfl (by kernel_rfl) rfl rfl rfl (by simp) ?_
  have hn : (12000 : Int) < t.length := by omega
  have hn2 : 12000 < t.length := by omega
  have hn3 : ¬ t.length ≤ 12000 := by omega
  simp [hn, hn2, hn3]
theorem c_specRecoverJournal (t : List UInt8) (ht : t.length ≤ 12000) : Fun Tryd.prog 13 [.str (bs t)] [] (.tup [.slc 0 0 (recov 0 (lns t)).1.length 1, .int .i64 (recov 0 (lns t)).2, .bool true]) [.blk true false 9 (cT (recov 0 (lns t)).1)] := by
  refine FnSpec.walk dr_ok Tryd.func13 rfl (by kernel_rfl) rfl rfl rfl (by simp) ?_
  have hn : ¬ (12000 : Int) < t.length := by omega
  have hn2 : ¬ 12000 < t.length := by omega
  simp [hn, hn2]
  (first | refine callG_r ?_ | refine callD_r ?_); simp; (first | refine callN_flat (by with_reducible first | exact c_l11Lines t (by omega)) rfl ?_ | refine callN_new (by with_reducible first | exact c_l11Lines t (by omega)) ?_ | refine callM_flat (by with_reducible first | exact c_l11Lines t (by omega)) rfl ?_ | refine callM_new (by with_reducible first | exact c_l11Lines t (by omega)) ?_)
  have hL := lns_len t
  have hT := tot_lns t
  obtain ⟨L, eL⟩ : ∃ L, L = lns t := ⟨_, rfl⟩
  obtain ⟨o, eo⟩ : ∃ o, o = opn t := ⟨_, rfl⟩
  rw [← eL] at hL hT ⊢
  rw [← eo]
  simp
  refine loopG_of (α := List (List UInt8) × Int × Nat × Nat) (fun p => p.2.2.2 ≤ L.length ∧ 0 ≤ p.2.1 ∧ p.2.1 < 65003 ∧ p.1 ++ (recov p.2.1 (L.drop p.2.2.2)).1 = (recov 0 L).1 ∧ p.2.2.1 + (recov p.2.1 (L.drop p.2.2.2)).2 = (recov 0 L).2 ∧ p.1.length ≤ p.2.2.2)
    (fun p => L.length - p.2.2.2) (fun p => [(5, .slc 0 0 L.length 1), (7, .slc 1 0 p.1.length 1), (8, .int .i64 p.2.1), (9, .int .i64 p.2.2.1), (10, .int .i64 p.2.2.2)]) (fun p => [.blk true false 9 (cT (L ++ [o])), .blk true false 9 (cT p.1)]) ([], 0, 0, 0) ?_ ?_ fun p hp => ?_
  · simp
  · (refine weak_gc [(some 0, 0), (none, 9)] ?_ ?_ ?_ ?_ ?_ <;> simp)
  · obtain ⟨out, c, n, i⟩ := p
    obtain ⟨hi, h0, h1, hr1, hr2, hlo⟩ := hp
    simp only at hi h0 h1 hr1 hr2 hlo
    by_cases h : i < L.length
    · simp [h]
      obtain ⟨l, hl⟩ : ∃ l, l = L[i] := ⟨_, rfl⟩
      have hg : (cT (L ++ [o]))[i]? = some (.str (bs l)) := by
        have h' : i < (L.map fun t => AV.str (bs t)).length := by simpa using h
        rw [hl, cT, List.map_append, List.getElem?_append_left h']
        simp [h]
      have hll : l.length + 1 ≤ t.length := by rw [hl]; exact Nat.le_trans (tot_at h) hT
      have hpl := plc_le 32 l
      rw [List.drop_eq_getElem_cons h, ← hl] at hr1 hr2
      refine loopG_of (α := Nat) (fun j => j ≤ plc 32 l) (fun j => l.length - j) (fun j => [(5, .slc 0 0 L.length 1), (7, .slc 1 0 out.length 1), (8, .int .i64 c), (9, .int .i64 n), (10, .int .i64 i), (11, .int .i64 j)]) (fun j => [.blk true false 9 (cT (L ++ [o])), .blk true false 9 (cT out)]) 0 (by simp) (weak_UH (by simp) (by simp)) fun j hj => ?_
      have hwj := nat_wrap (k := j) (by omega)
      by_cases g : j < plc 32 l
      · have g2 : j < l.length := by omega
        have g3 : ¬ l[j] = 32 := plc_at g g2
        have g4 : ¬ (l[j].toNat : Int) = 32 := fun e => g3 (UInt8.toNat.inj (by simp; omega))
        simp [h, ↓hg, g2, g4, hwj]
        exact loopK_next (j + 1) (by omega) (by omega) (weak_UH (by simp) (by simp))
      · obtain rfl : j = plc 32 l := by omega
        by_cases hs : plc 32 l = l.length
        · have hs1 : ¬ plc 32 l < l.length := by omega
          have hs2 : l.length ≤ plc 32 l := by omega
          have hs3 : ((plc 32 l : Nat) : Int) = l.length := by omega
          simp [recov, hs] at hr1 hr2
          simp [h, ↓hg, hs1, hs2, hs3, ← hr1, ← hr2]
          (refine endG_keepT [(some 1, 0)] ?_ ?_ ?_ ?_ ?_ ?_ ?_ ⟨rfl, rfl⟩ ?_ <;> simp)
        · have hs1 : plc 32 l < l.length := by omega
          have hs2 : ¬ l.length ≤ plc 32 l := by omega
          have hs3 : ¬ ((plc 32 l : Nat) : Int) = l.length := by omega
          have hs4 : l[plc 32 l] = 32 := by
            rcases plc_spec 32 l with ⟨_, e, _⟩ | ⟨_, e, _⟩
            · exact absurd e hs
            · rw [List.getElem?_eq_getElem hs1] at e; exact Option.some.inj e
          have w1 : IntKind.i64.wrap ((plc 32 l : Int) + 1) = (plc 32 l + 1 : Nat) := by rw [wrap64 (by omega) (by omega)]; omega
          have w2 : (0 : Int) ≤ (plc 32 l : Int) + 1 := by omega
          have w3 : ((plc 32 l : Int) + 1 : Int) ≤ l.length := by omega
          have w4 : ((plc 32 l : Int) + 1).toNat = plc 32 l + 1 := by omega
          have w5 : (l.drop (plc 32 l + 1)).take (l.length - (plc 32 l + 1)) = l.drop (plc 32 l + 1) := List.take_of_length_le (by simp)
          obtain ⟨x, hx⟩ : ∃ x, x = l.drop (plc 32 l + 1) := ⟨_, rfl⟩
          have hxl : x.length ≤ l.length := by rw [hx, List.length_drop]; omega
          obtain ⟨q0, q1⟩ := chkL_in x h0 h1
          rw [← hx] at w5
          simp [recov, hs, ← hx] at hr1 hr2
          simp [h, ↓hg, hs1, hs2, hs3, hs4, w1, w2, w3, w4, ← hx, w5]
          (first | refine callG_r ?_ | refine callD_r ?_); simp; (first | refine callN_flat (by with_reducible first | exact c_l01Check c h0 h1 x (by omega)) rfl ?_ | refine callN_new (by with_reducible first | exact c_l01Check c h0 h1 x (by omega)) ?_ | refine callM_flat (by with_reducible first | exact c_l01Check c h0 h1 x (by omega)) rfl ?_ | refine callM_new (by with_reducible first | exact c_l01Check c h0 h1 x (by omega)) ?_)
          simp [h, ↓hg, hpl]
          (first | refine callG_r ?_ | refine callD_r ?_); simp; (first | refine callN_flat (by with_reducible first | exact c_l01Dec _ (by omega) (by omega)) rfl ?_ | refine callN_new (by with_reducible first | exact c_l01Dec _ (by omega) (by omega)) ?_ | refine callM_flat (by with_reducible first | exact c_l01Dec _ (by omega) (by omega)) rfl ?_ | refine callM_new (by with_reducible first | exact c_l01Dec _ (by omega) (by omega)) ?_)
          simp
          have hrt := recov_tot L 0
          by_cases hd : l.take (plc 32 l) = Lib.itoa (chkL c x)
          · rw [if_pos hd] at hr1 hr2
            simp only at hr1 hr2
            have z0 : n ≤ 12000 := by omega
            have v1 : IntKind.i64.wrap (l.length : Int) = l.length := wrap64 (by omega) (by omega)
            have v2 : IntKind.i64.wrap ((l.length : Int) + 1) = (l.length : Int) + 1 := wrap64 (by omega) (by omega)
            have v3 : IntKind.i64.wrap ((n : Int) + (l.length + 1)) = (n : Int) + (l.length + 1) := wrap64 (by omega) (by omega)
            have v4 : IntKind.i64.wrap ((i : Int) + 1) = (i : Int) + 1 := wrap64 (by omega) (by omega)
            have z1 : out.length ≤ 9223372036854775806 := by omega
            have z2 : (out.length + 1) * 16 ≤ 140737488355328 := by omega
            simp [h, ↓hg, hd, v1, v2, v3, v4, z1, z2]
            refine loopK_next (out ++ [x], chkL c x, n + (l.length + 1), i + 1) (by simp only; omega) ⟨by simp only; omega, q0, q1, ?_, ?_, by simp; omega⟩ ?_
            · simp only
              rw [← hr1, List.append_assoc]
              rfl
            · simp only
              omega
            · (refine weak_gc [(some 0, 0), (some 3, 0)] ?_ ?_ ?_ ?_ ?_ <;> simp)
          · rw [if_neg hd] at hr1 hr2
            simp only [List.append_nil, Nat.add_zero] at hr1 hr2
            simp [hd, ← hr1, ← hr2]
            (refine endG_keepT [(some 1, 0)] ?_ ?_ ?_ ?_ ?_ ?_ ?_ ⟨rfl, rfl⟩ ?_ <;> simp)
    · obtain rfl : i = L.length := by omega
      simp [recov] at hr1 hr2
      simp [← hr1, ← hr2]
      (refine endG_keepT [(some 1, 0)] ?_ ?_ ?_ ?_ ?_ ?_ ?_ ⟨rfl, rfl⟩ ?_ <;> simp)
end Go.Proofs.YthgfopohlhejdaaDoor
