/- Contracts: held places that are drawn; what the laws of descent ask of their own helpers. Plain law: held places stay but for signs of zeros; energies fall. Contracts: motions, their ticks. Contracts: smooth bodies drawn. Plain law: a bare body with small places has no forces; what stands still goes nowhere.
Conditions: none. -/
import Derived.Test.YtnjpigkijdnpkaaGreatG5
import Derived.Test.YtnjpigkijdnpkaaGreatG7
import Derived.Test.YtnjpigkijdnpkaaGreatG9
import Derived.Test.YtnjpigkijdnpkaaGreatG8
import Derived.Test.YtnjpigkijdnpkaaGreatG3
import Derived.Test.YtnjpigkijdnpkaaGreatMag
namespace Go.Proofs.YtnjpigkijdnpkaaGreat
set_option linter.all false
open Go Go.Awp
set_option maxRecDepth 100000
set_option maxHeartbeats 8000000
set_option pp.deepTerms true

/-- A number put into an ascending list. -/
def insL (n : Int) : List Int → List Int
  | [] => [n]
  | x :: l => if n ≤ x then (if n < x then n :: x :: l else x :: l) else x :: insL n l
theorem insL_len (n : Int) : ∀ l : List Int, (insL n l).length ≤ l.length + 1
  | [] => by simp [insL]
  | x :: l => by
    have := insL_len n l
    unfold insL
    split
    · split <;> simp
    · simp; omega
theorem pins_weak {n : Int} : ∀ {l : List Int} {a c : Int}, c ≤ a → pinsF n a l = true → pinsF n c l = true
  | [], _, _, _, _ => rfl
  | x :: l, a, c, hc, h => by
    simp only [pinsF, inB, Bool.and_eq_true, decide_eq_true_eq] at h ⊢
    exact ⟨by omega, h.2⟩
theorem insL_pins {N n : Int} : ∀ {l : List Int} {a : Int}, a < n → n < N → pinsF N a l = true → pinsF N a (insL n l) = true
  | [], a, h1, h2, _ => by simp [insL, pinsF, inB]; omega
  | x :: l, a, h1, h2, h => by
    simp only [pinsF, inB, Bool.and_eq_true, decide_eq_true_eq] at h
    unfold insL
    split
    · split
      · simp only [pinsF, inB, Bool.and_eq_true, decide_eq_true_eq]
        exact ⟨by omega, by omega, h.2⟩
      · simp only [pinsF, inB, Bool.and_eq_true, decide_eq_true_eq]
        exact ⟨by omega, h.2⟩
    · simp only [pinsF, inB, Bool.and_eq_true, decide_eq_true_eq]
      exact ⟨by omega, insL_pins (by omega) h2 h.2⟩
theorem c_l00Put (L : List Int) (n : Int) (m : Nat) (hm : m = L.length) (h : L.length ≤ 1000) : Fun Tryz.prog 39 [.view false (cIs L) m, .int .i64 n] [] (.slc 0 0 (insL n L).length 1) [.blk true false 2 (cIs (insL n L))] := by
  subst hm
  refine FnSpec.walk dr_ok Tryz.func39 rfl (by kernel_rfl) rfl rfl rfl (by simp) ?_
  simp
  refine loopG_of (α := Nat × List Int × Bool) (fun x => x.1 ≤ L.length ∧ x.2.1.length ≤ x.1 + x.2.2.toNat ∧ x.2.1 ++ (if x.2.2 = true then L.drop x.1 else insL n (L.drop x.1)) = insL n L) (fun x => L.length - x.1)
    (fun x => [(7, .int .i64 x.1), (6, .bool x.2.2), (5, .slc 0 0 x.2.1.length 1), (1, .int .i64 n), (0, .view false (cIs L) L.length)]) (fun x => [.blk true false 2 (cIs x.2.1)]) (0, [], false) ⟨Nat.zero_le _, by simp, by simp⟩ ?_ fun x hx => ?_
  · (refine weak_gc [(none, 2)] ?_ ?_ ?_ ?_ ?_ <;> simp)
  obtain ⟨k, O, d⟩ := x
  obtain ⟨hk, hO, hi⟩ := hx
  simp only at hk hO hi
  have hw := nat_wrap (k := k) (by omega)
  have htk : O.take O.length = O := List.take_length ..
  have hd1 : d.toNat ≤ 1 := by cases d <;> decide
  by_cases c : k < L.length
  · have hdr : L.drop k = L[k] :: L.drop (k + 1) := List.drop_eq_getElem_cons c
    rw [hdr] at hi
    simp [c]
    cases d with
    | true =>
      simp [c, hw]
      refine ⟨by omega, by omega, loopK_next (k + 1, O ++ [L[k]], true) (by simp only; omega) ⟨by simp only; omega, by simp at hO ⊢; omega, by simpa using hi⟩ ?_⟩
      (refine weak_gc [(some 2, 0)] ?_ ?_ ?_ ?_ ?_ <;> simp [hw])
    | false =>
      simp [c, hw]
      simp only [Bool.false_eq_true, if_false, insL] at hi
      refine ⟨fun g => ⟨fun g2 => ?_, fun g2 => ?_⟩, fun g => ?_⟩
      · rw [if_pos g, if_pos g2] at hi
        have hi2 : (O ++ [n, L[k]]) ++ (if true = true then L.drop (k + 1) else insL n (L.drop (k + 1))) = insL n L := by simpa using hi
        have htk2 : (O ++ [n]).take (O.length + 1) = O ++ [n] := List.take_of_length_le (by simp)
        have hO9 : O.length ≤ 1001 := by omega
        clear hi hdr htk
        refine ⟨Nat.le_trans hO9 (by decide), by omega, Nat.le_trans hO9 (by decide), by omega, ?_⟩
        refine loopK_next (k + 1, O ++ [n, L[k]], true) (by simp only; omega) ⟨by simp only; omega, by simp at hO ⊢; omega, hi2⟩ ?_
        (refine weak_gc [(some 4, 0)] ?_ ?_ ?_ ?_ ?_ <;> simp [hw, htk2])
      · rw [if_pos g, if_neg (by omega)] at hi
        refine ⟨by omega, by omega, loopK_next (k + 1, O ++ [L[k]], true) (by simp only; omega) ⟨by simp only; omega, by simp at hO ⊢; omega, by simpa using hi⟩ ?_⟩
        (refine weak_gc [(some 2, 0)] ?_ ?_ ?_ ?_ ?_ <;> simp [hw])
      · rw [if_neg (by omega)] at hi
        refine ⟨by omega, by omega, loopK_next (k + 1, O ++ [L[k]], false) (by simp only; omega) ⟨by simp only; omega, by simp at hO ⊢; omega, by simpa using hi⟩ ?_⟩
        (refine weak_gc [(some 2, 0)] ?_ ?_ ?_ ?_ ?_ <;> simp [hw])
  · have hk2 : k = L.length := by omega
    subst hk2
    rw [List.drop_length] at hi
    simp
    cases d with
    | true =>
      have e : insL n L = O := by simpa using hi.symm
      rw [e]
      simp
      (refine endG_keepT [(some 0, 0)] ?_ ?_ ?_ ?_ ?_ ?_ ?_ ⟨rfl, rfl⟩ ?_ <;> simp)
    | false =>
      have e : insL n L = O ++ [n] := by simpa [insL] using hi.symm
      rw [e]
      simp
      refine ⟨by omega, by omega, ?_⟩
      (refine endG_keepT [(some 2, 0)] ?_ ?_ ?_ ?_ ?_ ?_ ?_ ⟨rfl, rfl⟩ ?_ <;> simp)
/-- Held places drawn of bytes. -/
theorem c_B10Held (l : List Nat) (n : Nat) (hn : n = l.length) (b : Bod) (hl : l.length ≤ 1048576) (hb : ∀ b ∈ l, b < 256) (h2 : 1 < b.me.pl.length) (h3 : b.me.pl.length ≤ 64) :
    FnSpec Tryz.prog 8 [.view false (cBy l) n, b.av] [] fun av H => ∃ L : List Int, pinsF b.me.pl.length (-1) L = true ∧ L.length ≤ 3 ∧ H = [.blk true false 2 (cIs L)] ∧ av = .slc 0 0 L.length 1 := by
  subst hn
  refine FnSpec.walk dr_ok Tryz.func8 rfl (by kernel_rfl) rfl rfl rfl (by simp) ?_
  simp
  refine callG_v ?_; simp; refine callNV_fun (by with_reducible exact c_l00From l) ?_
  simp
  obtain ⟨_, k2, s2, hc2, hk2, x, hx, rfl⟩ := d_pick l 0 4 4 0 rfl hl hb (by omega) (by omega) (by omega)
  have hc2' : Fun Tryz.prog 38 [.ptr 0 0, .int .i64 4] [.blk false true 109 [.view false (cBy l) l.length, .int .i64 0, .int .u64 0]] (.int .i64 x) [rd false l k2 s2] := hc2
  (first | refine callG_on false [1] ?_ | refine callD_on false [1] ?_); simp; (first | refine callN_fun (by with_reducible exact hc2') (by simp) ?_ | refine callMD_fun (by with_reducible exact hc2') (by simp) ?_)
  simp
  refine loopG_of (α := List Int × Nat × Nat × Int) (fun y => y.1.length + y.2.1 ≤ 3 ∧ y.2.2.1 + 2 * y.2.1 ≤ 8 ∧ pinsF b.me.pl.length (-1) y.1 = true) (fun y => y.2.1)
    (fun y => [(8, .int .i64 y.2.1), (7, .int .i64 b.me.pl.length), (6, .slc 2 0 y.1.length 1), (5, .ptr 1 0)])
    (fun y => [.blk true true 34 b.cells, rd true l y.2.2.1 y.2.2.2, .blk true false 2 (cIs y.1)]) ([], x, k2, s2) ⟨by simp; omega, by simp; omega, rfl⟩ ?_ fun y hy => ?_
  · (refine weak_gc [(some 0, 0), (some 1, 0), (none, 2)] ?_ ?_ ?_ ?_ ?_ <;> simp)
  obtain ⟨L, q, kk, ss⟩ := y
  obtain ⟨hL, hq, hp⟩ := hy
  simp only at hL hq hp
  by_cases c : 0 < q
  · have c' : (0 : Int) < q := by omega
    have c3 : (0 : Int) < b.me.pl.length := by omega
    have c4 : 0 < b.me.pl.length := by omega
    simp [c, c', c3, c4]
    obtain ⟨_, k3, s3, hc3, hk3, z, hz, rfl⟩ := d_pick l kk b.me.pl.length b.me.pl.length ss rfl hl hb (by omega) (by omega) (by omega)
    (first | refine callG_on false [1] ?_ | refine callD_on false [1] ?_); simp; (first | refine callN_fun (by with_reducible exact hc3) (by simp) ?_ | refine callMD_fun (by with_reducible exact hc3) (by simp) ?_)
    simp
    (first | refine callG_r ?_ | refine callD_r ?_); simp; (first | refine callN_flat (by with_reducible first | exact c_l00Put L z _ rfl (by omega)) rfl ?_ | refine callN_new (by with_reducible first | exact c_l00Put L z _ rfl (by omega)) ?_ | refine callM_flat (by with_reducible first | exact c_l00Put L z _ rfl (by omega)) rfl ?_ | refine callM_new (by with_reducible first | exact c_l00Put L z _ rfl (by omega)) ?_)
    have hw : IntKind.i64.wrap ((q : Int) - 1) = ((q - 1 : Nat) : Int) := by rw [wrap64 (by omega) (by omega)]; omega
    have hil := insL_len z L
    simp [hw]
    refine loopK_next (insL z L, q - 1, k3, s3) (by simp only; omega) ⟨by simp only; omega, by simp only; omega, insL_pins (by omega) (by omega) hp⟩ ?_
    (refine weak_gc [(some 0, 0), (some 1, 0), (some 3, 0)] ?_ ?_ ?_ ?_ ?_ <;> simp [hw])
  · obtain rfl : q = 0 := by omega
    simp
    refine endG_keepT (r := .slc 0 0 L.length 1) (Hout := [.blk true false 2 (cIs L)]) [(some 2, 0)] ?_ ?_ ?_ ?_ ?_ ?_ ?_ ⟨L, hp, by omega, rfl, rfl⟩ ?_ <;> simp
/-- What b10At reads. -/
theorem c_b10AtK (l : List Nat) (k n : Nat) (hb : ∀ b ∈ l, b < 256) (hl : l.length ≤ 1048576) (hk : k ≤ 1048576) (hn : 1 < n) (hn2 : n ≤ 256) : ∃ x : Nat, x < n ∧ Fun Tryz.prog 9 [.view false (cBy l) l.length, .int .i64 k, .int .i64 n] [] (.int .i64 x) [] := by
  have c : ¬ n ≤ 1 := by omega
  have cI : ¬ (n : Int) ≤ 1 := by omega
  have hn0 : ¬ n = 0 := by omega
  by_cases d : k < l.length
  · have hx := hb _ (List.getElem_mem d)
    refine ⟨l[k] % n, Nat.mod_lt _ (by omega), ?_⟩
    have hw : IntKind.i64.wrap ((l[k] : Nat) : Int) = (l[k] : Nat) := wrap64 (by omega) (by omega)
    have hr : ((l[k] : Nat) : Int).tmod n = ((l[k] % n : Nat) : Int) := rfl
    refine FnSpec.walkF dr_ok Tryz.func9 rfl (by kernel_rfl) rfl rfl rfl (by simp) ?_
    simp [c, cI, d, hw, hr, hn0]
  · refine ⟨(k * 37 + 11) % n, Nat.mod_lt _ (by omega), ?_⟩
    have dI : ¬ (k : Int) < l.length := by omega
    have hw : IntKind.i64.wrap ((k : Int) * 37) = (k : Int) * 37 := wrap64 (by omega) (by omega)
    have hw2 : IntKind.i64.wrap ((k : Int) * 37 + 11) = (k : Int) * 37 + 11 := wrap64 (by omega) (by omega)
    have hr : ((k : Int) * 37 + 11).tmod n = ((k : Int) * 37 + 11) % n := Int.tmod_eq_emod_of_nonneg (by omega)
    refine FnSpec.walkF dr_ok Tryz.func9 rfl (by kernel_rfl) rfl rfl rfl (by simp) ?_
    simp [c, cI, d, dI, hw, hw2, hn0, hr]
theorem c_EnergyOf (b : Bod) (hs : b.Small) (hv : vldB b = true) : Fun Tryz.prog 15 [b.av] [] (.tup [.flt .f32 (enB b), .bool true]) [] := by
  refine FnSpec.walkF dr_ok Tryz.func15 rfl (by kernel_rfl) rfl rfl rfl (by simp) ?_
  simp
  (first | refine callG_r ?_ | refine callD_r ?_); simp; (first | refine callN_flat (by with_reducible first | exact c_ValidBody b hs) rfl ?_ | refine callN_new (by with_reducible first | exact c_ValidBody b hs) ?_ | refine callM_flat (by with_reducible first | exact c_ValidBody b hs) rfl ?_ | refine callM_new (by with_reducible first | exact c_ValidBody b hs) ?_)
  simp [hv]
  (first | refine callG_r ?_ | refine callD_r ?_); simp; (first | refine callN_flat (by with_reducible first | exact c_energyOf b hs hv) rfl ?_ | refine callN_new (by with_reducible first | exact c_energyOf b hs hv) ?_ | refine callM_flat (by with_reducible first | exact c_energyOf b hs hv) rfl ?_ | refine callM_new (by with_reducible first | exact c_energyOf b hs hv) ?_)
  simp
theorem c_specSameE (x : Nat) : Fun Tryz.prog 16 [.flt .f32 x, .flt .f32 x] [] (.bool true) [] := fn_can fun hc => by
  have h : CanF .f32 x := hc (.flt .f32 x) (by simp)
  refine FnSpec.walkF dr_ok Tryz.func16 rfl (by kernel_rfl) rfl rfl rfl (by simp) ?_
  simp
  (first | refine callG_r ?_ | refine callD_r ?_); simp; (first | refine callN_flat (by with_reducible first | exact c_l01Same h h) rfl ?_ | refine callN_new (by with_reducible first | exact c_l01Same h h) ?_ | refine callM_flat (by with_reducible first | exact c_l01Same h h) rfl ?_ | refine callM_new (by with_reducible first | exact c_l01Same h h) ?_)
  simp
/-- The same but for the sign of a zero. -/
def Alk (x y : Nat) : Prop := x = y ∨ ford .f32 x y = some .eq
theorem c_b10Alike {x y : Nat} (h : Alk x y) : Fun Tryz.prog 64 [.flt .f32 x, .flt .f32 y] [] (.bool true) [] := by
  rcases h with rfl | h
  · refine FnSpec.walkF dr_ok Tryz.func64 rfl (by kernel_rfl) rfl rfl rfl (by simp) ?_
    simp
    intro _
    (first | refine callG_r ?_ | refine callD_r ?_); simp; (first | refine callN_flat (by with_reducible first | exact c_specSameE x) rfl ?_ | refine callN_new (by with_reducible first | exact c_specSameE x) ?_ | refine callM_flat (by with_reducible first | exact c_specSameE x) rfl ?_ | refine callM_new (by with_reducible first | exact c_specSameE x) ?_)
    simp
  · refine FnSpec.walkF dr_ok Tryz.func64 rfl (by kernel_rfl) rfl rfl rfl (by simp) ?_
    simp [h]
def VAlk (v w : V) : Prop := Alk v.1 w.1 ∧ Alk v.2.1 w.2.1 ∧ Alk v.2.2 w.2.2
theorem c_b10VAlike {v w : V} (h : VAlk v w) : Fun Tryz.prog 27 [aV v, aV w] [] (.bool true) [] := by
  obtain ⟨h1, h2, h3⟩ := h
  refine FnSpec.walkF dr_ok Tryz.func27 rfl (by kernel_rfl) rfl rfl rfl (by simp) ?_
  simp
  (first | refine callG_r ?_ | refine callD_r ?_); simp; (first | refine callN_flat (by with_reducible first | exact c_b10Alike h1) rfl ?_ | refine callN_new (by with_reducible first | exact c_b10Alike h1) ?_ | refine callM_flat (by with_reducible first | exact c_b10Alike h1) rfl ?_ | refine callM_new (by with_reducible first | exact c_b10Alike h1) ?_)
  simp
  (first | refine callG_r ?_ | refine callD_r ?_); simp; (first | refine callN_flat (by with_reducible first | exact c_b10Alike h2) rfl ?_ | refine callN_new (by with_reducible first | exact c_b10Alike h2) ?_ | refine callM_flat (by with_reducible first | exact c_b10Alike h2) rfl ?_ | refine callM_new (by with_reducible first | exact c_b10Alike h2) ?_)
  simp
  (first | refine callG_r ?_ | refine callD_r ?_); simp; (first | refine callN_flat (by with_reducible first | exact c_b10Alike h3) rfl ?_ | refine callN_new (by with_reducible first | exact c_b10Alike h3) ?_ | refine callM_flat (by with_reducible first | exact c_b10Alike h3) rfl ?_ | refine callM_new (by with_reducible first | exact c_b10Alike h3) ?_)
  simp
theorem c_b10Kept (a b : Bod) (held : List Int) (hl : a.me.pl.length = b.me.pl.length) (h64 : b.me.pl.length ≤ 64) (hh : held.length ≤ 1048576) (hp : ∀ p ∈ held, 0 ≤ p ∧ p < b.me.pl.length)
    (h : ∀ p ∈ held, VAlk (a.me.pl.getD p.toNat (0, 0, 0)) (b.me.pl.getD p.toNat (0, 0, 0))) : Fun Tryz.prog 14 [a.av, b.av, .view false (cIs held) held.length] [] (.bool true) [] := by
  refine FnSpec.walkF dr_ok Tryz.func14 rfl (by kernel_rfl) rfl rfl rfl (by simp) ?_
  simp [hl]
  refine loopG_of (α := Nat) (fun k => k ≤ held.length) (fun k => held.length - k) (fun k => [(19, .int .i64 k), (18, .int .i64 held.length), (4, .ptr 1 0), (3, .ptr 0 0), (2, .view false (cIs held) held.length)])
    (fun k => [.blk true true 34 a.cells, .blk true true 34 b.cells]) 0 (by simp) ?_ fun k hk => ?_
  · (refine weak_gc [(some 0, 0), (some 1, 0)] ?_ ?_ ?_ ?_ ?_ <;> simp [hl])
  have hw := nat_wrap (k := k) (by omega)
  by_cases c : k < held.length
  · have hpk := hp _ (List.getElem_mem c)
    have hak := h _ (List.getElem_mem c)
    obtain ⟨p, he⟩ : ∃ p : Nat, held[k] = (p : Int) := ⟨held[k].toNat, by omega⟩
    rw [he] at hpk hak
    have hpb : p < b.me.pl.length := by omega
    have hpa : p < a.me.pl.length := by omega
    rw [Int.toNat_natCast, List.getD_eq_getElem?_getD, List.getD_eq_getElem?_getD, List.getElem?_eq_getElem hpa, List.getElem?_eq_getElem hpb] at hak
    have hak : VAlk a.me.pl[p] b.me.pl[p] := hak
    simp [c, he, hw, hpa, hpb, hl]
    (first | refine callG_r ?_ | refine callD_r ?_); simp; (first | refine callN_flat (by with_reducible first | exact c_b10VAlike hak) rfl ?_ | refine callN_new (by with_reducible first | exact c_b10VAlike hak) ?_ | refine callM_flat (by with_reducible first | exact c_b10VAlike hak) rfl ?_ | refine callM_new (by with_reducible first | exact c_b10VAlike hak) ?_)
    simp [hw]
    refine loopK_next (k + 1) (by omega) (by omega) ?_
    (refine weak_gc [(some 0, 0), (some 1, 0)] ?_ ?_ ?_ ?_ ?_ <;> simp [hw, hl])
  · obtain rfl : k = held.length := by omega
    simp
end Go.Proofs.YtnjpigkijdnpkaaGreat
namespace Go.Proofs.YtnjpigkijdnpkaaGreat
set_option linter.all false
open Go Go.Awp Ieee
set_option maxRecDepth 100000
set_option maxHeartbeats 4000000

theorem nan_zs (x : Nat) : nanB .f32 (zs x) = nanB .f32 x := by
  unfold zs
  split
  · rename_i h; subst h; decide +kernel
  · rfl
theorem nan_of_zs {x y : Nat} (h : zs x = zs y) : nanB .f32 x = nanB .f32 y := by rw [← nan_zs x, ← nan_zs y, h]
theorem fop_can32 (op : BinOp) (a b : Nat) : CanF .f32 (fop op .f32 a b) := by
  unfold fop
  cases h : floatBits op .f32 a b with
  | some r =>
    have hl := floatBits_wf h
    have hl : r < 4294967296 := by simpa [Lit.wf] using hl
    exact ⟨cn_num (floatBits_num h), hl⟩
  | none => exact ⟨cn_nan (nanB_qnan .f32), qnan_lt .f32⟩
/-- A zero that is added. -/
theorem add_zero32 {x : Nat} (hx : CanF .f32 x) (n : nanB .f32 x = false) : zs (fop .add .f32 x 0) = zs x := by
  have hl : x < 4294967296 := hx.2
  have hn := num_le hl n
  show zs ((((F32.read x).sum (F32.read 0)).map F32.write).getD (qnan .f32)) = zs x
  rw [rd_pz]
  by_cases c : x % 2147483648 < 2139095040
  · obtain ⟨m, e, h1, h2, h3⟩ := read_rmag F (w := x) (by rw [fS, fI]; exact c)
    rw [fS] at h1 h3
    have h1 : F32.read x = .number (x / 2147483648 % 2 == 1) m e := h1
    rw [h1]
    by_cases hm : m = 0
    · subst hm
      have hx0 : x % 2147483648 = 0 := by
        have h4 : rmag F (x % 2147483648) = 0 := by rw [← h3, Nat.zero_mul]
        unfold rmag at h4
        split at h4
        · exact h4
        · exfalso
          have : 0 < F.binade := by rw [fB]; decide
          rcases Nat.mul_eq_zero.1 h4 with g | g
          · omega
          · exact absurd g (Nat.ne_of_gt (Nat.two_pow_pos _))
      have hz : x = 0 ∨ x = 2147483648 := by omega
      have hsum : ∀ t : Bool, zs ((((Datum.number t 0 e).sum (.number false 0 F32.leastPlace)).map F32.write).getD (qnan .f32)) = 0 := by
        intro t
        simp only [Datum.sum, signed_zero, Int.add_zero, if_true, Int.natAbs_zero, Option.map_some, Option.getD_some, Format.write]
        rw [near_zero]
        cases t <;> decide +kernel
      rw [hsum]
      rcases hz with rfl | rfl <;> rfl
    · have hmin : min e F32.leastPlace = F32.leastPlace := by
        have : F.leastPlace ≤ e := h2
        exact Int.min_eq_right this
      have hpos : 0 < m * 2 ^ (e - F32.leastPlace).toNat := Nat.mul_pos (Nat.pos_of_ne_zero hm) (Nat.two_pow_pos _)
      have key : ∀ s : Bool, zs (((((Datum.number s m e).sum (.number false 0 F32.leastPlace)).map F32.write)).getD (qnan .f32)) = zs (F32.nearest s m e) := by
        intro s
        simp only [Datum.sum, hmin, signed_zero, Int.add_zero]
        have hv : signed s m (e - F32.leastPlace).toNat = if s = true then -((m * 2 ^ (e - F32.leastPlace).toNat : Nat) : Int) else ((m * 2 ^ (e - F32.leastPlace).toNat : Nat) : Int) := by
          unfold signed
          rw [Nat.shiftLeft_eq]
        rw [hv]
        generalize hM : m * 2 ^ (e - F32.leastPlace).toNat = M at hpos
        have hnz : (if s = true then -(M : Int) else (M : Int)) ≠ 0 := by cases s <;> simp <;> omega
        rw [if_neg hnz]
        have hneg : decide ((if s = true then -(M : Int) else (M : Int)) < 0) = s := by cases s <;> simp <;> omega
        have habs : (if s = true then -(M : Int) else (M : Int)).natAbs = M := by cases s <;> simp
        rw [hneg, habs]
        show zs (F32.nearest s M F32.leastPlace) = _
        rw [near_at (f := F32) (s := s) (m := m) (e := e) (p := F32.leastPlace) h2 hM]
      rw [key]
      have : F32.nearest (x / 2147483648 % 2 == 1) m e = x := by
        rw [near_at (f := F32) h2 h3, near_rmag F32 _ (by show _ ≤ F.infRung; rw [fI]; omega)]
        unfold Format.word
        rw [show F32.signWeight = 2147483648 from fS]
        by_cases c : x < 2147483648
        · rw [show x / 2147483648 = 0 by omega]; simp; omega
        · rw [show x / 2147483648 = 1 by omega]; simp; omega
      rw [this]
  · have hi : x = 2139095040 ∨ x = 4286578688 := by omega
    rcases hi with rfl | rfl <;> decide +kernel
/-- What a zero leaves. -/
theorem add_zn {x m : Nat} (hx : CanF .f32 x) (hm : zs m = 0) (hn : nanB .f32 (fop .add .f32 x m) = false) : zs (fop .add .f32 x m) = zs x := by
  have n : nanB .f32 x = false := by
    cases h : nanB .f32 x with
    | false => rfl
    | true => rw [fop_nan_l .add m h] at hn; cases hn
  rw [add_z (x := x) (x' := x) (y := m) (y' := 0) rfl (by rw [hm]; rfl), add_zero32 hx n]
/-- A zero, or no number. -/
def ZN (x : Nat) : Prop := zs x = 0 ∨ nanB .f32 x = true
def VZN (v : V) : Prop := ZN v.1 ∧ ZN v.2.1 ∧ ZN v.2.2
def VNum (v : V) : Prop := nanB .f32 v.1 = false ∧ nanB .f32 v.2.1 = false ∧ nanB .f32 v.2.2 = false
theorem zn_mul {w h : Nat} (hw : ZN w) : ZN (fop .mul .f32 w h) := by
  rcases hw with hw | hw
  · have e : zs (fop .mul .f32 w h) = zs (fop .mul .f32 0 h) := mul_z (by rw [hw]; rfl) rfl
    cases hf : finB h with
    | true => left; rw [e]; exact mul_zero_fin hf
    | false => right; rw [nan_of_zs e]; exact mul_zero_inf hf
  · right; exact fop_nan_l .mul h hw
theorem zn_add0 {m : Nat} (h : ZN m) : ZN (fop .add .f32 0 m) := by
  rcases h with h | h
  · left
    have e : zs (fop .add .f32 0 m) = zs (fop .add .f32 0 0) := add_z rfl (by rw [h]; rfl)
    rw [e]; decide +kernel
  · right; exact fop_nan_r .add 0 h
theorem step_zn {x w s : Nat} (hx : CanF .f32 x) (hw : ZN w) (hs : finB s = true) (hn : nanB .f32 (fop .add .f32 x (fop .mul .f32 w s)) = false) : zs (fop .add .f32 x (fop .mul .f32 w s)) = zs x := by
  rcases hw with hw | hw
  · refine add_zn hx ?_ hn
    have e : zs (fop .mul .f32 w s) = zs (fop .mul .f32 0 s) := mul_z (by rw [hw]; rfl) rfl
    rw [e]; exact mul_zero_fin hs
  · rw [fop_nan_r .add x (fop_nan_l .mul s hw)] at hn; cases hn
theorem vadd_can (a b : V) : CanV (vadd a b) := ⟨fop_can32 .., fop_can32 .., fop_can32 ..⟩
-- the energy tells of no numbers
theorem inner_nan {f p : V} (h : ¬ VNum p) : nanB .f32 (vinner f p) = true := by
  unfold vinner
  have key : ∀ {a : Nat}, nanB .f32 a = true → ∀ b, nanB .f32 (fop .mul .f32 b a) = true := fun h b => fop_nan_r .mul b h
  unfold VNum at h
  cases h1 : nanB .f32 p.1 with
  | true => exact fop_nan_l .add _ (fop_nan_l .add _ (key h1 _))
  | false =>
    cases h2 : nanB .f32 p.2.1 with
    | true => exact fop_nan_l .add _ (fop_nan_r .add _ (key h2 _))
    | false =>
      cases h3 : nanB .f32 p.2.2 with
      | true => exact fop_nan_r .add _ (key h3 _)
      | false => exact absurd ⟨h1, h2, h3⟩ h
theorem neg_nan {x : Nat} (hx : x < 4294967296) (h : nanB .f32 x = true) : nanB .f32 (fneg .f32 x) = true := by
  unfold fneg
  rw [nanB_cn, nanB_neg .f32 x hx]; exact h
theorem enW_nan {b : Bod} {x i : Nat} (h : ¬ VNum (b.me.pl.getD i (0, 0, 0))) : nanB .f32 (enW b x i) = true := by
  unfold enW
  exact fop_nan_r .add _ (neg_nan (fop_can32 ..).2 (fop_nan_r .mul _ (inner_nan h)))
theorem eP3_nan {b : Bod} {p : Nat} (h : ¬ VNum (b.me.pl.getD p (0, 0, 0))) : ∀ k, p < k → nanB .f32 (eP3 b k) = true
  | 0, hk => by omega
  | k + 1, hk => by
    have e : eP3 b (k + 1) = enW b (eP3 b k) k := by unfold eP3; rw [List.range_succ, List.foldl_append]; rfl
    rw [e]
    by_cases c : p = k
    · subst c; exact enW_nan h
    · unfold enW; exact fop_nan_l .add _ (eP3_nan h k (by omega))
theorem enB_num {b : Bod} {p : Nat} (hp : p < b.me.pl.length) (h : nanB .f32 (enB b) = false) : VNum (b.me.pl.getD p (0, 0, 0)) := by
  refine Classical.byContradiction fun hn => ?_
  have := eP3_nan hn b.me.pl.length hp
  unfold enB at h
  rw [fop_nan_r .add _ this] at h; cases h
theorem lt_num {x y : Nat} (h : ford .f32 x y = some .lt) : nanB .f32 x = false ∧ nanB .f32 y = false := by
  constructor
  · cases n : nanB .f32 x with
    | false => rfl
    | true => rw [ford_nan_l n] at h; cases h
  · cases n : nanB .f32 y with
    | false => rfl
    | true => rw [ford_nan_r n] at h; cases h
theorem lt_key {x y : Nat} (h : ford .f32 x y = some .lt) : keyW .f32 x < keyW .f32 y := by
  obtain ⟨hx, hy⟩ := lt_num h
  rw [ford_key hx hy] at h
  have h := Option.some.inj h
  rcases Int.lt_trichotomy (keyW .f32 x) (keyW .f32 y) with c | c | c
  · exact c
  · rw [c] at h; simp [compare, compareOfLessAndEq] at h
  · have h1 : ¬ keyW .f32 x < keyW .f32 y := by omega
    have h2 : ¬ keyW .f32 x = keyW .f32 y := by omega
    simp [compare, compareOfLessAndEq, h1, h2] at h
theorem lt_trans {x y z : Nat} (h1 : ford .f32 x y = some .lt) (h2 : ford .f32 y z = some .lt) : ford .f32 x z = some .lt := by
  have k1 := lt_key h1
  have k2 := lt_key h2
  rw [ford_key (lt_num h1).1 (lt_num h2).2]
  simp [compare, compareOfLessAndEq, show keyW .f32 x < keyW .f32 z by omega]
theorem lt_irr (x : Nat) : ford .f32 x x ≠ some .lt := fun h => by have := lt_key h; omega
-- one step
def finH : Nat → Nat → Bool
  | 0, s => finB s
  | n + 1, s => finB s && finH n (fop .quo .f32 s 1073741824)
theorem finH_ok : ∀ a ∈ List.range 8, finH 21 (fop .quo .f32 (fint .f32 (1 + (a : Int))) 1090519040) = true ∧ overB (fop .quo .f32 (fint .f32 (1 + (a : Int))) 1090519040) = true := by decide +kernel
/-- Held places of two bodies, but for signs of zeros. -/
structure Kp (held : List Int) (a b : Bod) : Prop where
  len : b.me.pl.length = a.me.pl.length
  can : ∀ v ∈ b.me.pl, CanV v
  pl : ∀ p ∈ held, vz (b.me.pl.getD p.toNat (0, 0, 0)) = vz (a.me.pl.getD p.toNat (0, 0, 0))
theorem Kp.trans {held : List Int} {a b c : Bod} (h1 : Kp held a b) (h2 : Kp held b c) : Kp held a c := ⟨h2.len.trans h1.len, h2.can, fun p hp => (h2.pl p hp).trans (h1.pl p hp)⟩
theorem Kp.refl {held : List Int} {a : Bod} (h : ∀ v ∈ a.me.pl, CanV v) : Kp held a a := ⟨rfl, h, fun _ _ => rfl⟩
theorem mov_kp {b : Bod} {way : List V} {s : Nat} {held : List Int} (hl : way.length = b.me.pl.length) (hc : ∀ v ∈ b.me.pl, CanV v) (hs : finB s = true) (hp : ∀ p ∈ held, 0 ≤ p ∧ p < b.me.pl.length)
    (hw : ∀ p ∈ held, VZN (way.getD p.toNat (0, 0, 0))) (hn : nanB .f32 (enB (movB b way s)) = false) : Kp held b (movB b way s) := by
  have hml : (movB b way s).me.pl.length = b.me.pl.length := movB_pl hl
  refine ⟨hml, fun v hv => ?_, fun p hpp => ?_⟩
  · obtain ⟨i, hi, rfl⟩ := List.getElem_of_mem hv
    have hib : i < b.me.pl.length := by rw [← hml]; exact hi
    have e := movP_at (s := s) hib (by omega : i < way.length)
    have e : (movB b way s).me.pl[i] = vadd b.me.pl[i] (vscale way[i] s) := e
    rw [e]; exact vadd_can _ _
  · obtain ⟨q, hq⟩ : ∃ q : Nat, p = (q : Int) := ⟨p.toNat, by have := hp p hpp; omega⟩
    subst hq
    have hqb : q < b.me.pl.length := by have := hp _ hpp; omega
    have hqm : q < (movB b way s).me.pl.length := by rw [hml]; exact hqb
    have hnum := enB_num hqm hn
    have hz := hw _ hpp
    rw [Int.toNat_natCast] at hz ⊢
    rw [List.getD_eq_getElem?_getD, List.getElem?_eq_getElem hqm] at hnum ⊢
    rw [List.getD_eq_getElem?_getD, List.getElem?_eq_getElem hqb]
    rw [List.getD_eq_getElem?_getD, List.getElem?_eq_getElem (by omega : q < way.length)] at hz
    have e : (movB b way s).me.pl[q] = vadd b.me.pl[q] (vscale way[q] s) := movP_at (s := s) hqb (by omega : q < way.length)
    simp only [Option.getD_some] at hnum hz ⊢
    rw [e] at hnum ⊢
    obtain ⟨c1, c2, c3⟩ := hc _ (List.getElem_mem hqb)
    exact vz_mk (step_zn c1 hz.1 hs hnum.1) (step_zn c2 hz.2.1 hs hnum.2.1) (step_zn c3 hz.2.2 hs hnum.2.2)
structure StepOk (held : List Int) (b : Bod) (r : Bod × Nat × Bool) : Prop where
  kp : Kp held b r.1
  few : r.2.1 ≤ 20
  fell : r.2.2 = true → ford .f32 (enB r.1) (enB b) = some .lt
  stay : r.2.2 = false → r.1 = b
theorem stepA_ok {b : Bod} {way : List V} {held : List Int} (hl : way.length = b.me.pl.length) (hc : ∀ v ∈ b.me.pl, CanV v) (hp : ∀ p ∈ held, 0 ≤ p ∧ p < b.me.pl.length) (hw : ∀ p ∈ held, VZN (way.getD p.toNat (0, 0, 0))) :
    ∀ (n k s : Nat), k + n = 21 → finH n s = true → StepOk held b (stepA b way n k s)
  | 0, k, s, _, _ => ⟨Kp.refl hc, Nat.le_refl _, fun h => (by cases h), fun _ => rfl⟩
  | n + 1, k, s, hk, hf => by
    simp only [finH, Bool.and_eq_true] at hf
    unfold stepA
    by_cases c : fellB b way s = true
    · rw [if_pos c]
      have c' : ford .f32 (enB (movB b way s)) (enB b) = some .lt := by unfold fellB at c; simpa using c
      exact ⟨mov_kp hl hc hf.1 hp hw (lt_num c').1, by show k ≤ 20; omega, fun _ => c', fun h => by cases h⟩
    · rw [if_neg c]
      exact stepA_ok hl hc hp hw n (k + 1) _ (by omega) hf.2
theorem zn_free {held : List Int} {v : List V} : ∀ p ∈ held, VZN ((freeL v held).getD p.toNat (0, 0, 0)) := fun p hp => by
  rw [free_get v hp]; exact ⟨.inl rfl, .inl rfl, .inl rfl⟩
theorem downR_ok {b : Bod} {held : List Int} {s : Nat} (hc : ∀ v ∈ b.me.pl, CanV v) (hp : ∀ p ∈ held, 0 ≤ p ∧ p < b.me.pl.length) (hf : finH 21 s = true) : StepOk held b (downR b held s) :=
  stepA_ok (by rw [freeL_len, frcB_len]) hc hp zn_free 21 0 s rfl hf
/-- Energies that fall. -/
def Desc : List Nat → Prop
  | [] => True
  | [_] => True
  | x :: y :: l => ford .f32 y x = some .lt ∧ Desc (y :: l)
theorem desc_push : ∀ {E : List Nat} {x y : Nat}, Desc (E ++ [x]) → ford .f32 y x = some .lt → Desc (E ++ [x] ++ [y])
  | [], x, y, _, h => ⟨h, trivial⟩
  | [a], x, y, hd, h => ⟨hd.1, h, trivial⟩
  | a :: b :: E, x, y, hd, h => ⟨hd.1, desc_push (E := b :: E) hd.2 h⟩
theorem desc_at : ∀ {E : List Nat}, Desc E → ∀ i (h : i + 1 < E.length), ford .f32 E[i + 1] (E[i]'(by omega)) = some .lt
  | [], _, i, h => by simp at h
  | [_], _, i, h => by simp at h
  | x :: y :: l, hd, 0, h => hd.1
  | x :: y :: l, hd, i + 1, h => desc_at (E := y :: l) hd.2 i (by simpa using h)
structure RunOk (held : List Int) (b : Bod) (n : Nat) (E0 : List Nat) (r : Bod × List Nat) : Prop where
  kp : Kp held b r.1
  ex : ∃ E, r.2 = E0 ++ E ∧ E.length ≤ n
  last : ∃ E, r.2 = E ++ [enB r.1]
  desc : Desc r.2
theorem runD_ok {held : List Int} {s : Nat} (hf : finH 21 s = true) : ∀ (n : Nat) {b : Bod} {E0 : List Nat}, (∀ v ∈ b.me.pl, CanV v) → (∀ p ∈ held, 0 ≤ p ∧ p < b.me.pl.length) → Desc (E0 ++ [enB b]) → RunOk held b n (E0 ++ [enB b]) (runD held s n b (E0 ++ [enB b]))
  | 0, b, E0, hc, hp, hd => ⟨Kp.refl hc, ⟨[], by simp [runD], by simp⟩, ⟨E0, rfl⟩, hd⟩
  | n + 1, b, E0, hc, hp, hd => by
    have hs := downR_ok hc hp hf
    rw [runD_succ]
    by_cases c : (downR b held s).2.2 = true
    · rw [if_pos c]
      have hlt := hs.fell c
      have h1 := runD_ok hf n (b := (downR b held s).1) (E0 := E0 ++ [enB b]) hs.kp.can (by rw [hs.kp.len]; exact hp) (desc_push hd hlt)
      obtain ⟨E, e1, e2⟩ := h1.ex
      exact ⟨hs.kp.trans h1.kp, ⟨[enB (downR b held s).1] ++ E, by rw [e1]; simp, by simp; omega⟩, h1.last, h1.desc⟩
    · rw [if_neg c]
      exact ⟨Kp.refl hc, ⟨[], by simp, by simp⟩, ⟨E0, rfl⟩, hd⟩
theorem runD_some {held : List Int} {s n : Nat} {b : Bod} (hf : finH 21 s = true) (hc : ∀ v ∈ b.me.pl, CanV v) (hp : ∀ p ∈ held, 0 ≤ p ∧ p < b.me.pl.length) (hn : 0 < n) : (decide (1 < (runD held s n b [enB b]).2.length)) = (downR b held s).2.2 := by
  obtain ⟨m, rfl⟩ : ∃ m, n = m + 1 := ⟨n - 1, by omega⟩
  rw [runD_succ]
  have hs := downR_ok hc hp hf
  cases c : (downR b held s).2.2 with
  | true =>
    rw [if_pos rfl]
    have h1 := runD_ok hf m (b := (downR b held s).1) (E0 := [enB b]) hs.kp.can (by rw [hs.kp.len]; exact hp) ⟨hs.fell c, trivial⟩
    obtain ⟨E, e1, _⟩ := h1.ex
    rw [e1]; simp
  | false => rw [if_neg (by simp)]; simp
structure TurnOk (held : List Int) (b : Bod) (n c : Nat) (r : Bod × Nat) : Prop where
  kp : Kp held b r.1
  few : c ≤ r.2 ∧ r.2 ≤ c + n
  fell : c < r.2 → ford .f32 (enB r.1) (enB b) = some .lt
  stay : r.2 = c → r.1 = b
theorem nextW_zn {held : List Int} {b0 B : List V} {way : List V} {v : List V} (hB : B = freeL v held) (hl : way.length = B.length) (hp : ∀ p ∈ held, 0 ≤ p ∧ p < B.length) (hw : ∀ p ∈ held, VZN (way.getD p.toNat (0, 0, 0))) :
    ∀ p ∈ held, VZN ((nextW b0 B way).getD p.toNat (0, 0, 0)) := by
  intro p hpp
  have hpl := hp p hpp
  have e : (nextW b0 B way).getD p.toNat (0, 0, 0) = vadd (B.getD p.toNat (0, 0, 0)) (vscale (way.getD p.toNat (0, 0, 0)) (nextH b0 B)) := by
    unfold nextW nxtN
    rw [List.getD_eq_getElem?_getD, List.getElem?_map, List.getElem?_range (by omega)]; rfl
  rw [e, hB, free_get v hpp]
  obtain ⟨w1, w2, w3⟩ := hw p hpp
  exact ⟨zn_add0 (zn_mul w1), zn_add0 (zn_mul w2), zn_add0 (zn_mul w3)⟩
theorem turnD_ok {held : List Int} {s : Nat} (hf : finH 21 s = true) : ∀ (n : Nat) {b : Bod} {way : List V} {c : Nat}, way.length = b.me.pl.length → (∀ v ∈ b.me.pl, CanV v) → (∀ p ∈ held, 0 ≤ p ∧ p < b.me.pl.length) →
    (∀ p ∈ held, VZN (way.getD p.toNat (0, 0, 0))) → TurnOk held b n c (turnD held s n b way c)
  | 0, b, way, c, hl, hc, hp, hw => ⟨Kp.refl hc, ⟨Nat.le_refl _, Nat.le_refl _⟩, fun h => absurd h (Nat.lt_irrefl _), fun _ => rfl⟩
  | n + 1, b, way, c, hl, hc, hp, hw => by
    have h1 : StepOk held b (stepR b way s) := stepA_ok hl hc hp hw 21 0 s rfl hf
    have h2 : StepOk held b (stepR b (freeL (frcB b) held) s) := stepA_ok (by rw [freeL_len, frcB_len]) hc hp zn_free 21 0 s rfl hf
    have hFl : (freeL (frcB b) held).length = b.me.pl.length := by rw [freeL_len, frcB_len]
    have go : ∀ (r : Bod × Nat × Bool) (w2 : List V), StepOk held b r → r.2.2 = true → w2.length = b.me.pl.length → (∀ p ∈ held, VZN (w2.getD p.toNat (0, 0, 0))) →
        TurnOk held b (n + 1) c (turnD held s n r.1 (nextW (freeL (frcB b) held) (freeL (frcB r.1) held) w2) (c + 1)) := by
      intro r w2 hr hfell hwl hwz
      have hBl : (freeL (frcB r.1) held).length = r.1.me.pl.length := by rw [freeL_len, frcB_len]
      have hrl := hr.kp.len
      have h3 := turnD_ok hf n (b := r.1) (way := nextW (freeL (frcB b) held) (freeL (frcB r.1) held) w2) (c := c + 1) (by rw [nextW_len, hBl]) hr.kp.can (by rw [hrl]; exact hp)
        (nextW_zn rfl (by rw [hBl, hrl, hwl]) (by rw [hBl, hrl]; exact hp) hwz)
      refine ⟨hr.kp.trans h3.kp, ⟨by have := h3.few; omega, by have := h3.few; omega⟩, fun _ => ?_, fun e => by have := h3.few; omega⟩
      by_cases ce : c + 1 < (turnD held s n r.1 (nextW (freeL (frcB b) held) (freeL (frcB r.1) held) w2) (c + 1)).2
      · exact lt_trans (h3.fell ce) (hr.fell hfell)
      · rw [h3.stay (by have := h3.few; omega)]
        exact hr.fell hfell
    rw [turnD_succ]
    by_cases c1 : (stepR b way s).2.2 = true
    · rw [if_pos c1]
      exact go _ _ h1 c1 hl hw
    · rw [if_neg c1]
      by_cases c2 : (stepR b (freeL (frcB b) held) s).2.2 = true
      · rw [if_pos c2]
        exact go _ _ h2 c2 hFl zn_free
      · rw [if_neg c2]
        exact ⟨Kp.refl hc, ⟨Nat.le_refl _, by omega⟩, fun h => absurd h (Nat.lt_irrefl _), fun _ => rfl⟩
theorem alk_of_zs {x y : Nat} (h : zs x = zs y) : Alk x y := by
  unfold zs at h
  split at h
  · split at h
    · rename_i h1 h2; left; rw [h1, h2]
    · rename_i h1 h2; right; rw [h1, ← h]; decide +kernel
  · split at h
    · rename_i h1 h2; right; rw [h2, h]; decide +kernel
    · left; exact h
theorem Kp.alk {held : List Int} {a b : Bod} (h : Kp held a b) : ∀ p ∈ held, VAlk (a.me.pl.getD p.toNat (0, 0, 0)) (b.me.pl.getD p.toNat (0, 0, 0)) := fun p hp => by
  obtain ⟨h1, h2, h3⟩ := vz_eq (h.pl p hp).symm
  exact ⟨alk_of_zs h1, alk_of_zs h2, alk_of_zs h3⟩
end Go.Proofs.YtnjpigkijdnpkaaGreat
namespace Go.Proofs.YtnjpigkijdnpkaaGreat
set_option linter.all false
open Go Go.Awp
set_option maxRecDepth 100000
set_option maxHeartbeats 16000000
set_option pp.deepTerms true

structure Mot where
  bo : Bod
  sp : List V
abbrev Mot.cells (m : Mot) : List AV := [.view false (cVs m.bo.me.pl) m.bo.me.pl.length, .view false (cRs false m.bo.me.tr) m.bo.me.tr.length, .view false (cSs m.bo.sp) m.bo.sp.length, .flt .f32 m.bo.film, .flt .f32 m.bo.bend, .view false (cFs m.bo.w) m.bo.w.length, .flt .f32 m.bo.fall.1, .flt .f32 m.bo.fall.2.1, .flt .f32 m.bo.fall.2.2, .view false (cVs m.sp) m.sp.length]
abbrev Mot.av (m : Mot) : AV := .agg m.cells
abbrev Mot.zer : List AV := [.nils, .nils, .nils, .flt .f32 0, .flt .f32 0, .nils, .flt .f32 0, .flt .f32 0, .flt .f32 0, .nils]
abbrev Mot.cpc (m : Mot) (r : Nat) : List AV := [.slc r 0 m.bo.me.pl.length 3, .slc (r + 1) 0 m.bo.me.tr.length 1, .slc (r + 2) 0 m.bo.sp.length 4, .flt .f32 m.bo.film, .flt .f32 m.bo.bend, .slc (r + 3) 0 m.bo.w.length 1, .flt .f32 m.bo.fall.1, .flt .f32 m.bo.fall.2.1, .flt .f32 m.bo.fall.2.2, .slc (r + 4) 0 m.sp.length 3]
abbrev Mot.cp (m : Mot) (r : Nat) : AV := .agg (m.cpc r)
abbrev Mot.cpm (m : Mot) : Heap := [.blk true false 32 (cVs m.bo.me.pl), .blk true false 36 (cRs true m.bo.me.tr), .blk true false 88 (cSs m.bo.sp), .blk true false 29 (cFs m.bo.w), .blk true false 32 (cVs m.sp)]
attribute [simp] Mot.cells Mot.av Mot.zer Mot.cpc Mot.cp Mot.cpm
def vldMo (m : Mot) : Bool := vldB m.bo && decide (m.sp.length = m.bo.me.pl.length)
theorem c_ValidMotion (m : Mot) (hs : m.bo.Small) (h2 : m.sp.length ≤ 1048576) : Fun Tryz.prog 20 [m.av] [] (.bool (vldMo m)) [] := by
  have hl := hs.me.pl
  unfold vldMo
  refine FnSpec.walkF dr_ok Tryz.func20 rfl (by kernel_rfl) rfl rfl rfl (by simp) ?_
  simp
  (first | refine callG_r ?_ | refine callD_r ?_); simp; (first | refine callN_flat (by with_reducible first | exact c_ValidBody m.bo hs) rfl ?_ | refine callN_new (by with_reducible first | exact c_ValidBody m.bo hs) ?_ | refine callM_flat (by with_reducible first | exact c_ValidBody m.bo hs) rfl ?_ | refine callM_new (by with_reducible first | exact c_ValidBody m.bo hs) ?_)
  cases hv : vldB m.bo with
  | false => simp [hv]
  | true =>
    simp [hv]
    rw [Bool.eq_iff_iff]
    simp
    omega
def spdN (sp F : List V) (q damp : Nat) (k : Nat) : List V := (List.range k).map fun i => vscale (vadd (sp.getD i (0, 0, 0)) (vscale (F.getD i (0, 0, 0)) q)) damp
@[simp] theorem spdN_len (sp F : List V) (q damp k : Nat) : (spdN sp F q damp k).length = k := by simp [spdN]
theorem spdN_succ {sp F : List V} {q damp k : Nat} (h1 : k < sp.length) (h2 : k < F.length) : spdN sp F q damp (k + 1) = spdN sp F q damp k ++ [vscale (vadd sp[k] (vscale F[k] q)) damp] := by
  unfold spdN
  rw [List.range_succ, List.map_append]
  simp [List.getD_eq_getElem?_getD, List.getElem?_eq_getElem h1, List.getElem?_eq_getElem h2]
def spdM (m : Mot) (held : List Int) (mass damp tick : Nat) : List V := freeL (spdN m.sp (freeL (frcB m.bo) held) (fop .quo .f32 tick mass) damp m.bo.me.pl.length) held
def stpM (m : Mot) (held : List Int) (mass damp tick : Nat) : Mot := ⟨movB m.bo (spdM m held mass damp tick) tick, spdM m held mass damp tick⟩
theorem spdM_len (m : Mot) (held : List Int) (mass damp tick : Nat) : (spdM m held mass damp tick).length = m.bo.me.pl.length := by unfold spdM; rw [freeL_len, spdN_len]
theorem c_stepMotion (m : Mot) (held : List Int) (mass damp tick : Nat) (hs : m.bo.Small) (hv : vldB m.bo = true) (h2 : m.sp.length = m.bo.me.pl.length) (hh : held.length ≤ 1048576) (hp : ∀ p ∈ held, 0 ≤ p ∧ p < m.bo.me.pl.length) :
    Fun Tryz.prog 55 [m.av, .view false (cIs held) held.length, .flt .f32 mass, .flt .f32 damp, .flt .f32 tick] [] ((stpM m held mass damp tick).cp 0) (stpM m held mass damp tick).cpm := by
  obtain ⟨hm, hpl, htr, hsp, hww⟩ := vldB_of hv
  have hl : (freeL (frcB m.bo) held).length = m.bo.me.pl.length := by rw [freeL_len, frcB_len]
  have eS : stpM m held mass damp tick = ⟨movB m.bo (freeL (spdN m.sp (freeL (frcB m.bo) held) (fop .quo .f32 tick mass) damp m.bo.me.pl.length) held) tick, freeL (spdN m.sp (freeL (frcB m.bo) held) (fop .quo .f32 tick mass) damp m.bo.me.pl.length) held⟩ := rfl
  rw [eS]
  have hff := c_freeForces m.bo held hs hv hh hp
  generalize freeL (frcB m.bo) held = F at *
  obtain ⟨b, sp⟩ := m
  simp only at hs hv h2 hp hm hpl htr hsp hww hl hff ⊢
  refine FnSpec.walk dr_ok Tryz.func55 rfl (by kernel_rfl) rfl rfl rfl (by simp) ?_
  simp
  (first | refine callG_r ?_ | refine callD_r ?_); simp; (first | refine callN_flat (by with_reducible first | exact hff) rfl ?_ | refine callN_new (by with_reducible first | exact hff) ?_ | refine callM_flat (by with_reducible first | exact hff) rfl ?_ | refine callM_new (by with_reducible first | exact hff) ?_)
  simp
  refine loopG_of (α := Nat) (fun k => k ≤ b.me.pl.length) (fun k => b.me.pl.length - k) (fun k => [(22, .int .i64 k), (21, .int .i64 b.me.pl.length), (20, .slc 2 0 b.me.pl.length 3), (11, .slc 3 0 k 3), (10, .ptr 1 0), (5, .ptr 0 0), (4, .flt .f32 tick), (3, .flt .f32 damp), (2, .flt .f32 mass), (1, .view false (cIs held) held.length)])
    (fun k => [.blk true true 52 (Mot.mk b sp).cells, .blk true true 52 Mot.zer, .blk true false 32 (cVs F), .blk true false 32 (cVs (spdN sp F (fop .quo .f32 tick mass) damp k))]) 0 (by simp) ?_ fun k hk => ?_
  · (refine weak_gc [(some 0, 0), (some 1, 0), (some 2, 0), (none, 32)] ?_ ?_ ?_ ?_ ?_ <;> simp [spdN])
  have hw := nat_wrap (k := k) (by omega)
  by_cases c : k < b.me.pl.length
  · have c1 : k < sp.length := by omega
    have c2 : k < F.length := by omega
    have hsu := spdN_succ (q := fop .quo .f32 tick mass) (damp := damp) c1 c2
    have hll := spdN_len sp F (fop .quo .f32 tick mass) damp k
    generalize spdN sp F (fop .quo .f32 tick mass) damp k = O at *
    simp [c, c1, c2, hw, hll]
    (first | refine callG_r ?_ | refine callD_r ?_); simp; (first | refine callN_flat (by with_reducible first | exact c_scale _ _ _ _) rfl ?_ | refine callN_new (by with_reducible first | exact c_scale _ _ _ _) ?_ | refine callM_flat (by with_reducible first | exact c_scale _ _ _ _) rfl ?_ | refine callM_new (by with_reducible first | exact c_scale _ _ _ _) ?_)
    simp [c, c1, c2, hw, hll]
    (first | refine callG_r ?_ | refine callD_r ?_); simp; (first | refine callN_flat (by with_reducible first | exact c_add _ _ _ _ _ _) rfl ?_ | refine callN_new (by with_reducible first | exact c_add _ _ _ _ _ _) ?_ | refine callM_flat (by with_reducible first | exact c_add _ _ _ _ _ _) rfl ?_ | refine callM_new (by with_reducible first | exact c_add _ _ _ _ _ _) ?_)
    simp [c, c1, c2, hw, hll]
    (first | refine callG_r ?_ | refine callD_r ?_); simp; (first | refine callN_flat (by with_reducible first | exact c_scale _ _ _ _) rfl ?_ | refine callN_new (by with_reducible first | exact c_scale _ _ _ _) ?_ | refine callM_flat (by with_reducible first | exact c_scale _ _ _ _) rfl ?_ | refine callM_new (by with_reducible first | exact c_scale _ _ _ _) ?_)
    have htk : O.take k = O := List.take_of_length_le (by omega)
    simp [c, c1, c2, hw, hll, htk]
    refine ⟨by omega, by omega, ?_⟩
    refine loopK_next (k + 1) (by omega) (by omega) ?_
    rw [hsu]
    (refine weak_gc [(some 0, 0), (some 1, 0), (some 2, 0), (some 6, 0)] ?_ ?_ ?_ ?_ ?_ <;> simp [hw])
  obtain rfl : k = b.me.pl.length := by omega
  have hsl := spdN_len sp F (fop .quo .f32 tick mass) damp b.me.pl.length
  generalize spdN sp F (fop .quo .f32 tick mass) damp b.me.pl.length = v at *
  simp
  refine loopG_of (α := Nat) (fun k => k ≤ held.length) (fun k => held.length - k) (fun k => [(46, .int .i64 k), (45, .int .i64 held.length), (44, .view false (cIs held) held.length), (11, .slc 2 0 b.me.pl.length 3), (10, .ptr 1 0), (5, .ptr 0 0), (4, .flt .f32 tick)])
    (fun k => [.blk true true 52 (Mot.mk b sp).cells, .blk true true 52 Mot.zer, .blk true false 32 (cVs (freeN v held k))]) 0 (by simp) ?_ fun k hk => ?_
  · (refine weak_gc [(some 0, 0), (some 1, 0), (some 3, 0)] ?_ ?_ ?_ ?_ ?_ <;> simp [freeN_zero])
  have hw := nat_wrap (k := k) (by omega)
  by_cases c : k < held.length
  · have hpk := hp _ (List.getElem_mem c)
    obtain ⟨p, he⟩ : ∃ p : Nat, held[k] = (p : Int) := ⟨held[k].toNat, by omega⟩
    rw [he] at hpk
    have hpv : p < v.length := by omega
    have hpb : p < b.me.pl.length := by omega
    have hsu := freeN_succ (v := v) c he
    have hll := freeN_len v held k
    generalize freeN v held k = O at *
    simp [c, he, hw, hpv, hpb, hll]
    refine ⟨by omega, loopK_next (k + 1) (by omega) (by omega) ?_⟩
    rw [hsu]
    (refine weak_gc [(some 0, 0), (some 1, 0), (some 2, 0)] ?_ ?_ ?_ ?_ ?_ <;> simp [hw])
  obtain rfl : k = held.length := by omega
  have hfl : (freeN v held held.length).length = b.me.pl.length := by rw [freeN_len, hsl]
  have efl : freeL v held = freeN v held held.length := rfl
  rw [efl]
  generalize freeN v held held.length = W at *
  have hc := c_moved b W tick hs hpl htr hfl
  rw [hfl] at hc
  have hml := movP_len (s := tick) hfl
  have htk : W.take b.me.pl.length = W := List.take_of_length_le (by omega)
  simp
  (first | refine callG_r ?_ | refine callD_r ?_)
  simp [htk]
  (first | refine callN_new hc ?_ | refine callM_new hc ?_)
  simp
  (refine endG_keepT [(some 3, 0), (some 4, 0), (some 5, 0), (some 6, 0), (some 2, 0)] ?_ ?_ ?_ ?_ ?_ ?_ ?_ ⟨rfl, rfl⟩ ?_ <;> simp [hfl])
theorem c_StillMotion (b : Bod) (hs : b.Small) (hv : vldB b = true) :
    Fun Tryz.prog 18 [b.av] [] (.tup [(Mot.mk b (List.replicate b.me.pl.length (0, 0, 0))).cp 0, .bool true]) (Mot.mk b (List.replicate b.me.pl.length (0, 0, 0))).cpm := by
  obtain ⟨hm, hpl, htr, hsp, hww⟩ := vldB_of hv
  refine FnSpec.walk dr_ok Tryz.func18 rfl (by kernel_rfl) rfl rfl rfl (by simp) ?_
  simp
  (first | refine callG_r ?_ | refine callD_r ?_); simp; (first | refine callN_flat (by with_reducible first | exact c_ValidBody b hs) rfl ?_ | refine callN_new (by with_reducible first | exact c_ValidBody b hs) ?_ | refine callM_flat (by with_reducible first | exact c_ValidBody b hs) rfl ?_ | refine callM_new (by with_reducible first | exact c_ValidBody b hs) ?_)
  simp [hv]
  (first | refine callG_r ?_ | refine callD_r ?_); simp; (first | refine callN_flat (by with_reducible first | exact c_copyBody b hs htr) rfl ?_ | refine callN_new (by with_reducible first | exact c_copyBody b hs htr) ?_ | refine callM_flat (by with_reducible first | exact c_copyBody b hs htr) rfl ?_ | refine callM_new (by with_reducible first | exact c_copyBody b hs htr) ?_)
  simp
  refine ⟨by omega, by omega, ?_⟩
  (refine endG_keepT [(some 2, 0), (some 3, 0), (some 4, 0), (some 5, 0), (some 6, 0)] ?_ ?_ ?_ ?_ ?_ ?_ ?_ ⟨rfl, rfl⟩ ?_ <;> simp)
theorem c_StepMotion (m : Mot) (held : List Int) (mass damp tick : Nat) (hs : m.bo.Small) (hv : vldH m.bo held = true) (h2 : m.sp.length = m.bo.me.pl.length) (hh : held.length ≤ 1048576) (hm : overB mass = true) (ht : overB tick = true) :
    Fun Tryz.prog 21 [m.av, .view false (cIs held) held.length, .flt .f32 mass, .flt .f32 damp, .flt .f32 tick] [] (.tup [(stpM m held mass damp tick).cp 0, .bool true]) (stpM m held mass damp tick).cpm := by
  obtain ⟨hvb, hp⟩ := pins_of hv
  obtain ⟨hmm, hpl, htr, hsp, hww⟩ := vldB_of hvb
  have hvm : vldMo m = true := by unfold vldMo; rw [hvb, decide_eq_true h2]; rfl
  refine FnSpec.walk dr_ok Tryz.func21 rfl (by kernel_rfl) rfl rfl rfl (by simp) ?_
  simp
  (first | refine callG_r ?_ | refine callD_r ?_); simp; (first | refine callN_flat (by with_reducible first | exact c_ValidMotion m hs (by omega)) rfl ?_ | refine callN_new (by with_reducible first | exact c_ValidMotion m hs (by omega)) ?_ | refine callM_flat (by with_reducible first | exact c_ValidMotion m hs (by omega)) rfl ?_ | refine callM_new (by with_reducible first | exact c_ValidMotion m hs (by omega)) ?_)
  simp [hvm]
  (first | refine callG_r ?_ | refine callD_r ?_); simp; (first | refine callN_flat (by with_reducible first | exact c_IsHeld m.bo held hs hh) rfl ?_ | refine callN_new (by with_reducible first | exact c_IsHeld m.bo held hs hh) ?_ | refine callM_flat (by with_reducible first | exact c_IsHeld m.bo held hs hh) rfl ?_ | refine callM_new (by with_reducible first | exact c_IsHeld m.bo held hs hh) ?_)
  simp [hv]
  (first | refine callG_r ?_ | refine callD_r ?_); simp; (first | refine callN_flat (by with_reducible first | exact c_isOver _) rfl ?_ | refine callN_new (by with_reducible first | exact c_isOver _) ?_ | refine callM_flat (by with_reducible first | exact c_isOver _) rfl ?_ | refine callM_new (by with_reducible first | exact c_isOver _) ?_)
  simp [hm]
  (first | refine callG_r ?_ | refine callD_r ?_); simp; (first | refine callN_flat (by with_reducible first | exact c_isOver _) rfl ?_ | refine callN_new (by with_reducible first | exact c_isOver _) ?_ | refine callM_flat (by with_reducible first | exact c_isOver _) rfl ?_ | refine callM_new (by with_reducible first | exact c_isOver _) ?_)
  simp [ht]
  (first | refine callG_r ?_ | refine callD_r ?_); simp; (first | refine callN_flat (by with_reducible first | exact c_stepMotion m held mass damp tick hs hvb h2 hh hp) rfl ?_ | refine callN_new (by with_reducible first | exact c_stepMotion m held mass damp tick hs hvb h2 hh hp) ?_ | refine callM_flat (by with_reducible first | exact c_stepMotion m held mass damp tick hs hvb h2 hh hp) rfl ?_ | refine callM_new (by with_reducible first | exact c_stepMotion m held mass damp tick hs hvb h2 hh hp) ?_)
  generalize stpM m held mass damp tick = R at *
  simp
  (refine endG_keepT [(some 2, 0), (some 3, 0), (some 4, 0), (some 5, 0), (some 6, 0)] ?_ ?_ ?_ ?_ ?_ ?_ ?_ ⟨rfl, rfl⟩ ?_ <;> simp)
theorem c_SpeedEnergy (m : Mot) (mass : Nat) (hs : m.bo.Small) (hv : vldB m.bo = true) (h2 : m.sp.length = m.bo.me.pl.length) (hm : overB mass = true) :
    Fun Tryz.prog 26 [m.av, .flt .f32 mass] [] (.tup [.flt .f32 (fop .mul .f32 (fop .mul .f32 1056964608 mass) (innL m.sp m.sp)), .bool true]) [] := by
  obtain ⟨hmm, hpl, htr, hsp, hww⟩ := vldB_of hv
  have hvm : vldMo m = true := by unfold vldMo; rw [hv, decide_eq_true h2]; rfl
  refine FnSpec.walkF dr_ok Tryz.func26 rfl (by kernel_rfl) rfl rfl rfl (by simp) ?_
  simp
  (first | refine callG_r ?_ | refine callD_r ?_); simp; (first | refine callN_flat (by with_reducible first | exact c_ValidMotion m hs (by omega)) rfl ?_ | refine callN_new (by with_reducible first | exact c_ValidMotion m hs (by omega)) ?_ | refine callM_flat (by with_reducible first | exact c_ValidMotion m hs (by omega)) rfl ?_ | refine callM_new (by with_reducible first | exact c_ValidMotion m hs (by omega)) ?_)
  simp [hvm]
  (first | refine callG_r ?_ | refine callD_r ?_); simp; (first | refine callN_flat (by with_reducible first | exact c_isOver _) rfl ?_ | refine callN_new (by with_reducible first | exact c_isOver _) ?_ | refine callM_flat (by with_reducible first | exact c_isOver _) rfl ?_ | refine callM_new (by with_reducible first | exact c_isOver _) ?_)
  simp [hm]
  (first | refine callG_r ?_ | refine callD_r ?_); simp; (first | refine callN_flat (by with_reducible first | exact c_innerAll m.sp m.sp m.sp.length rfl rfl (by omega)) rfl ?_ | refine callN_new (by with_reducible first | exact c_innerAll m.sp m.sp m.sp.length rfl rfl (by omega)) ?_ | refine callM_flat (by with_reducible first | exact c_innerAll m.sp m.sp m.sp.length rfl rfl (by omega)) rfl ?_ | refine callM_new (by with_reducible first | exact c_innerAll m.sp m.sp m.sp.length rfl rfl (by omega)) ?_)
  simp
def runM (held : List Int) (mass damp tick : Nat) : Nat → Mot → List Nat → Mot × List Nat
  | 0, m, E => (m, E)
  | n + 1, m, E => runM held mass damp tick n (stpM m held mass damp tick) (E ++ [enB (stpM m held mass damp tick).bo])
theorem runM_succ (held : List Int) (mass damp tick n : Nat) (m : Mot) (E : List Nat) : runM held mass damp tick (n + 1) m E = runM held mass damp tick n (stpM m held mass damp tick) (E ++ [enB (stpM m held mass damp tick).bo]) := rfl
theorem stpM_len (m : Mot) (held : List Int) (mass damp tick : Nat) : (stpM m held mass damp tick).bo.me.pl.length = m.bo.me.pl.length := movB_pl (spdM_len ..)
theorem stpM_spl (m : Mot) (held : List Int) (mass damp tick : Nat) : (stpM m held mass damp tick).sp.length = m.bo.me.pl.length := spdM_len ..
theorem stpM_vld {m : Mot} {held : List Int} {mass damp tick : Nat} (hv : vldB m.bo = true) : vldB (stpM m held mass damp tick).bo = true := vldB_mov hv (spdM_len ..)
theorem stpM_small {m : Mot} {held : List Int} {mass damp tick : Nat} (hs : m.bo.Small) : (stpM m held mass damp tick).bo.Small := small_mov hs (spdM_len ..)
theorem c_RunMotion (m : Mot) (held : List Int) (mass damp tick n : Nat) (hs : m.bo.Small) (hv : vldH m.bo held = true) (h2 : m.sp.length = m.bo.me.pl.length) (hh : held.length ≤ 1048576) (hm : overB mass = true) (ht : overB tick = true) (hn : n ≤ 40) :
    Fun Tryz.prog 19 [m.av, .view false (cIs held) held.length, .flt .f32 mass, .flt .f32 damp, .flt .f32 tick, .int .i64 n] [] (.tup [(runM held mass damp tick n m []).1.cp 0, .slc 5 0 n 1, .bool true])
      ((runM held mass damp tick n m []).1.cpm ++ [.blk true false 29 (cFs (runM held mass damp tick n m []).2)]) := by
  obtain ⟨hvb, hp⟩ := pins_of hv
  obtain ⟨hmm, hpl, htr, hsp, hww⟩ := vldB_of hvb
  have hvm : vldMo m = true := by unfold vldMo; rw [hvb, decide_eq_true h2]; rfl
  have hi : inB n 0 40 = true := by simp [inB]; omega
  refine FnSpec.walk dr_ok Tryz.func19 rfl (by kernel_rfl) rfl rfl rfl (by simp) ?_
  simp
  (first | refine callG_r ?_ | refine callD_r ?_); simp; (first | refine callN_flat (by with_reducible first | exact c_ValidMotion m hs (by omega)) rfl ?_ | refine callN_new (by with_reducible first | exact c_ValidMotion m hs (by omega)) ?_ | refine callM_flat (by with_reducible first | exact c_ValidMotion m hs (by omega)) rfl ?_ | refine callM_new (by with_reducible first | exact c_ValidMotion m hs (by omega)) ?_)
  simp [hvm]
  (first | refine callG_r ?_ | refine callD_r ?_); simp; (first | refine callN_flat (by with_reducible first | exact c_IsHeld m.bo held hs hh) rfl ?_ | refine callN_new (by with_reducible first | exact c_IsHeld m.bo held hs hh) ?_ | refine callM_flat (by with_reducible first | exact c_IsHeld m.bo held hs hh) rfl ?_ | refine callM_new (by with_reducible first | exact c_IsHeld m.bo held hs hh) ?_)
  simp [hv]
  (first | refine callG_r ?_ | refine callD_r ?_); simp; (first | refine callN_flat (by with_reducible first | exact c_isOver _) rfl ?_ | refine callN_new (by with_reducible first | exact c_isOver _) ?_ | refine callM_flat (by with_reducible first | exact c_isOver _) rfl ?_ | refine callM_new (by with_reducible first | exact c_isOver _) ?_)
  simp [hm]
  (first | refine callG_r ?_ | refine callD_r ?_); simp; (first | refine callN_flat (by with_reducible first | exact c_isOver _) rfl ?_ | refine callN_new (by with_reducible first | exact c_isOver _) ?_ | refine callM_flat (by with_reducible first | exact c_isOver _) rfl ?_ | refine callM_new (by with_reducible first | exact c_isOver _) ?_)
  simp [ht]
  (first | refine callG_r ?_ | refine callD_r ?_); simp; (first | refine callN_flat (by with_reducible first | exact c_within _ _ _) rfl ?_ | refine callN_new (by with_reducible first | exact c_within _ _ _) ?_ | refine callM_flat (by with_reducible first | exact c_within _ _ _) rfl ?_ | refine callM_new (by with_reducible first | exact c_within _ _ _) ?_)
  simp [hi]
  (first | refine callG_r ?_ | refine callD_r ?_); simp; (first | refine callN_flat (by with_reducible first | exact c_copyBody m.bo hs htr) rfl ?_ | refine callN_new (by with_reducible first | exact c_copyBody m.bo hs htr) ?_ | refine callM_flat (by with_reducible first | exact c_copyBody m.bo hs htr) rfl ?_ | refine callM_new (by with_reducible first | exact c_copyBody m.bo hs htr) ?_)
  simp
  refine ⟨by omega, by omega, ?_⟩
  refine loopG_of (α := Mot × List Nat × Nat) (fun x => x.2.2 ≤ n ∧ runM held mass damp tick n m [] = runM held mass damp tick (n - x.2.2) x.1 x.2.1 ∧ x.1.bo.Small ∧ vldB x.1.bo = true ∧ x.1.bo.me.pl.length = m.bo.me.pl.length ∧ x.1.sp.length = m.bo.me.pl.length ∧ x.2.1.length = x.2.2) (fun x => n - x.2.2)
    (fun x => [(53, .int .i64 x.2.2), (52, .int .i64 n), (16, .slc 7 0 x.2.2 1), (15, .ptr 6 0), (12, .ptr 0 0), (1, .view false (cIs held) held.length), (2, .flt .f32 mass), (3, .flt .f32 damp), (4, .flt .f32 tick)])
    (fun x => [.blk true true 52 Mot.zer] ++ x.1.cpm ++ [.blk true true 52 (x.1.cpc 1), .blk true false 29 (cFs x.2.1)])
    (m, [], 0) ⟨Nat.zero_le _, rfl, hs, hvb, rfl, h2, rfl⟩ ?_ fun x hx => ?_
  · (refine weak_gc [(some 1, 0), (some 2, 0), (some 3, 0), (some 4, 0), (some 5, 0), (some 6, 0), (some 7, 0), (none, 29)] ?_ ?_ ?_ ?_ ?_ <;> simp)
  obtain ⟨N, E, k⟩ := x
  obtain ⟨hk, he, hsN, hvN, hlN, hlS, hEk⟩ := hx
  simp only at hk he hsN hvN hlN hlS hEk
  have hw := nat_wrap (k := k) (by omega)
  by_cases c : k < n
  · have hpN : ∀ p ∈ held, 0 ≤ p ∧ p < N.bo.me.pl.length := by rw [hlN]; exact hp
    have hc := c_stepMotion N held mass damp tick hsN hvN (by omega) hh hpN
    have d1 := stpM_len N held mass damp tick
    have d2 := stpM_spl N held mass damp tick
    have d3 := stpM_small (held := held) (mass := mass) (damp := damp) (tick := tick) hsN
    have d4 := stpM_vld (held := held) (mass := mass) (damp := damp) (tick := tick) hvN
    obtain ⟨m', hm2⟩ : ∃ m', n - k = m' + 1 := ⟨n - k - 1, by omega⟩
    have hm3 : n - (k + 1) = m' := by omega
    rw [hm2, runM_succ] at he
    generalize stpM N held mass damp tick = R at *
    have htE : E.take k = E := List.take_of_length_le (by omega)
    simp [c]
    (first | refine callG_r ?_ | refine callD_r ?_); simp; (first | refine callN_flat (by with_reducible first | exact hc) rfl ?_ | refine callN_new (by with_reducible first | exact hc) ?_ | refine callM_flat (by with_reducible first | exact hc) rfl ?_ | refine callM_new (by with_reducible first | exact hc) ?_)
    simp [c]
    (first | refine callG_r ?_ | refine callD_r ?_); simp; (first | refine callN_flat (by with_reducible first | exact c_energyOf R.bo d3 d4) rfl ?_ | refine callN_new (by with_reducible first | exact c_energyOf R.bo d3 d4) ?_ | refine callM_flat (by with_reducible first | exact c_energyOf R.bo d3 d4) rfl ?_ | refine callM_new (by with_reducible first | exact c_energyOf R.bo d3 d4) ?_)
    simp [hw, hEk, htE]
    refine ⟨by omega, by omega, ?_⟩
    refine loopK_next (R, E ++ [enB R.bo], k + 1) (by simp only; omega) ⟨by simp only; omega, by simp only; rw [hm3]; exact he, d3, d4, by simp only; omega, by simp only; omega, by simp [hEk]⟩ ?_
    (refine weak_gc [(some 0, 0), (some 8, 0), (some 9, 0), (some 10, 0), (some 11, 0), (some 12, 0), (some 6, 0), (some 14, 0)] ?_ ?_ ?_ ?_ ?_ <;> simp [hw, hEk])
  · have hk2 : k = n := by omega
    subst hk2
    have he2 : runM held mass damp tick k m [] = (N, E) := by rw [he, Nat.sub_self]; rfl
    rw [he2]
    simp [hEk]
    (refine endG_keepT [(some 1, 0), (some 2, 0), (some 3, 0), (some 4, 0), (some 5, 0), (some 7, 0)] ?_ ?_ ?_ ?_ ?_ ?_ ?_ ⟨rfl, rfl⟩ ?_ <;> simp [hEk])
end Go.Proofs.YtnjpigkijdnpkaaGreat
namespace Go.Proofs.YtnjpigkijdnpkaaGreat
set_option linter.all false
open Go Go.Awp
set_option maxRecDepth 100000
set_option maxHeartbeats 16000000
set_option pp.deepTerms true

/-- Vectors of numbers that are less than a power of two. -/
def VB (b : Nat) (v : V) : Prop := Mg b v.1 ∧ Mg b v.2.1 ∧ Mg b v.2.2
theorem VB.mono {a b : Nat} {v : V} (h : VB a v) (hab : a ≤ b) : VB b v := ⟨h.1.mono hab, h.2.1.mono hab, h.2.2.mono hab⟩
def mgB (b x : Nat) : Bool := decide (x < 4294967296) && decide (x % 2147483648 < b * 8388608)
theorem mgB_ok {b x : Nat} (h : mgB b x = true) : Mg b x := by
  unfold mgB at h
  rw [Bool.and_eq_true, decide_eq_true_eq, decide_eq_true_eq] at h
  exact h
theorem grid_mg : ∀ i ∈ List.range 4, mgB 129 (fop .mul .f32 (fint .f32 (i : Nat)) 1065353216) = true := by decide +kernel
theorem dev_mg : ∀ z ∈ List.range 5, mgB 129 (fop .quo .f32 (fint .f32 ((z : Nat) - 2 : Int)) 1098907648) = true := by decide +kernel
theorem mg_zero : Mg 129 0 := by constructor <;> decide
theorem can_zero : CanF .f32 0 := by constructor <;> decide +kernel
theorem gPl_vb {w h : Nat} (hw : w ≤ 3) (hh : h ≤ 3) : ∀ v ∈ gPl w h 1065353216, VB 129 v ∧ CanV v := by
  intro v hv
  obtain ⟨j, i, hj, hi, hm⟩ := gr_mem hv
  simp only [plF, List.mem_singleton] at hm
  subst hm
  exact ⟨⟨mgB_ok (grid_mg i (List.mem_range.2 (by omega))), mgB_ok (grid_mg j (List.mem_range.2 (by omega))), mg_zero⟩, fop_can32 .., fop_can32 .., can_zero⟩
theorem vadd_vb {v w : V} (hv : VB 129 v) (hw : VB 129 w) : VB 131 (vadd v w) := ⟨mg_add hv.1 hw.1 (by decide), mg_add hv.2.1 hw.2.1 (by decide), mg_add hv.2.2 hw.2.2 (by decide)⟩
abbrev sdV (u v z : Nat) : V := (fop .quo .f32 (fint .f32 ((u : Int) - 2)) 1098907648, fop .quo .f32 (fint .f32 ((v : Int) - 2)) 1098907648, fop .quo .f32 (fint .f32 ((z : Int) - 2)) 1098907648)
theorem sdV_vb {u v z : Nat} (hu : u < 5) (hv : v < 5) (hz : z < 5) : VB 129 (sdV u v z) := ⟨mgB_ok (dev_mg u (List.mem_range.2 hu)), mgB_ok (dev_mg v (List.mem_range.2 hv)), mgB_ok (dev_mg z (List.mem_range.2 hz))⟩
/-- A mesh with small places. -/
structure SmM (m : Msh) : Prop where
  vld : vldM m = true
  four : 4 ≤ m.pl.length
  pl : ∀ v ∈ m.pl, VB 131 v ∧ CanV v
abbrev sHeap (l : List Nat) (k : Nat) (s : Int) (P : List V) (T : List (List Int)) : Heap := [.blk true true 34 [.nils, .nils, .nils, .flt .f32 0, .flt .f32 0, .nils, .flt .f32 0, .flt .f32 0, .flt .f32 0], rd true l k s, .blk true true 27 [.slc 3 0 P.length 3, .slc 4 0 T.length 1], .blk true false 32 (cVs P), .blk true false 36 (cRs true T)]
abbrev uHeap (l : List Nat) (k : Nat) (s : Int) (m : Msh) (S : List Sp) (E : List (List Int)) : Heap := [.blk true true 34 [.nils, .nils, .nils, .flt .f32 0, .flt .f32 0, .nils, .flt .f32 0, .flt .f32 0, .flt .f32 0], rd true l k s, .blk true true 34 [.slc 3 0 m.pl.length 3, .slc 4 0 m.tr.length 1, .slc 5 0 S.length 4, .flt .f32 0, .flt .f32 0, .slc 6 0 m.pl.length 1, .flt .f32 0, .flt .f32 0, .flt .f32 0],
  .blk true false 32 (cVs m.pl), .blk true false 36 (cRs true m.tr), .blk true false 88 (cSs S), .blk true false 29 (cFs (List.replicate m.pl.length 0)), .blk true false 36 (cRs true E)]
attribute [simp] sHeap uHeap
theorem c_B10Smooth (l : List Nat) (n : Nat) (hn : n = l.length) (hl : l.length ≤ 1048576) (hb : ∀ b ∈ l, b < 256) :
    FnSpec Tryz.prog 24 [.view false (cBy l) n] [] fun av H => ∃ b : Bod, SmM b.me ∧ H = b.cpm ∧ av = b.cp 0 := by
  subst hn
  refine FnSpec.walk dr_ok Tryz.func24 rfl (by kernel_rfl) rfl rfl rfl (by simp) ?_
  simp
  refine callG_v ?_; simp; refine callNV_fun (by with_reducible exact c_l00From l) ?_
  simp
  have h1 : FnSpec Tryz.prog 38 [.ptr 0 0, .int .i64 3] [.blk false true 109 [.view false (cBy l) l.length, .int .i64 0, .int .u64 0]] (RdR l 0 2 (QI 3)) := c_pickL l 0 3 3 0 rfl hl hb (by omega) (by omega) (by omega)
  refine callG_on false [1] ?_; simp; refine callN_all (by with_reducible exact h1) ?_; rintro _ _ ⟨k2, s2, hk2, rfl, w, hw, rfl⟩; refine ⟨fun e => (by cases e), ?_⟩; simp
  refine callG_on false [1] ?_; simp; refine callN_all (by with_reducible exact c_pickL l k2 2 2 s2 rfl hl hb (by omega) (by omega) (by omega)) ?_; rintro _ _ ⟨k3, s3, hk3, rfl, h, hh, rfl⟩; refine ⟨fun e => (by cases e), ?_⟩; simp
  obtain ⟨w', hw'⟩ : ∃ w', w' = 1 + w := ⟨_, rfl⟩
  obtain ⟨h', hh'⟩ : ∃ h', h' = 1 + h := ⟨_, rfl⟩
  have e1 : IntKind.i64.wrap (1 + (w : Int)) = (w' : Int) := by rw [wrap64 (by omega) (by omega)]; omega
  have e2 : IntKind.i64.wrap (1 + (h : Int)) = (h' : Int) := by rw [wrap64 (by omega) (by omega)]; omega
  have hgo : GOk w' h' 1065353216 := ⟨by omega, by omega, by omega, by omega, Nat.le_trans (Nat.mul_le_mul (show w' + 1 ≤ 4 by omega) (show h' + 1 ≤ 3 by omega)) (by decide)⟩
  rw [e1, e2]
  (first | refine callG_r ?_ | refine callD_r ?_); simp; (first | refine callN_flat (by with_reducible first | exact c_l02Grid w' h' 1065353216 hgo) rfl ?_ | refine callN_new (by with_reducible first | exact c_l02Grid w' h' 1065353216 hgo) ?_ | refine callM_flat (by with_reducible first | exact c_l02Grid w' h' 1065353216 hgo) rfl ?_ | refine callM_new (by with_reducible first | exact c_l02Grid w' h' 1065353216 hgo) ?_)
  simp
  obtain ⟨P0, hP0⟩ : ∃ P0 : List V, P0 = gPl w' h' 1065353216 := ⟨_, rfl⟩
  obtain ⟨T0, hT0⟩ : ∃ T0 : List (List Int), T0 = gTr w' h' := ⟨_, rfl⟩
  have hv0 : vldM ⟨P0, T0⟩ = true := by subst hP0; subst hT0; exact vld_mk (gPl_le hgo) (gTr_le hgo) gTr_ok
  have hn4 : 4 ≤ P0.length := by subst hP0; rw [gPl_length]; exact Nat.le_trans (by decide) (Nat.mul_le_mul (show 2 ≤ h' + 1 by omega) (show 2 ≤ w' + 1 by omega))
  have hn64 : P0.length ≤ 64 := vld64 hv0
  have hp0 : ∀ v ∈ P0, VB 129 v ∧ CanV v := by subst hP0; exact gPl_vb (by omega) (by omega)
  refine loopG_of (α := Nat × Nat × Int × List V) (fun x => x.1 ≤ P0.length ∧ x.2.1 ≤ k3 + 10 * x.1 ∧ x.2.2.2.length = P0.length ∧ (∀ v ∈ x.2.2.2.drop x.1, VB 129 v ∧ CanV v) ∧ (∀ v ∈ x.2.2.2.take x.1, VB 131 v ∧ CanV v)) (fun x => P0.length - x.1) (fun x => [(25, .int .i64 x.1), (24, .int .i64 P0.length), (5, .ptr 2 0), (3, .ptr 1 0), (2, .ptr 0 0)])
    (fun x => sHeap l x.2.1 x.2.2.1 x.2.2.2 T0) (0, k3, s3, P0) ⟨by simp, by simp, rfl, by simpa using hp0, by simp⟩ ?_ fun x hx => ?_
  · subst hP0; subst hT0
    (refine weak_gc [(some 0, 0), (some 1, 0), (some 4, 0), (some 2, 0), (some 3, 0)] ?_ ?_ ?_ ?_ ?_ <;> simp)
  obtain ⟨i, kk, ss, P⟩ := x
  obtain ⟨hi, hkk, hPl, hP1, hP2⟩ := hx
  simp only at hi hkk hPl hP1 hP2
  have hwi := nat_wrap (k := i) (by omega)
  by_cases c : i < P.length
  · have c' : (i : Int) < P0.length := by omega
    have c2 : i < P0.length := by omega
    have c3 : i * 3 + 3 ≤ P.length * 3 := by omega
    simp [c, c', c2, hwi]
    refine callG_on false [1] ?_; simp; refine callN_all (by with_reducible exact c_pickL l kk 5 5 ss rfl hl hb (by omega) (by omega) (by omega)) ?_; rintro _ _ ⟨ka, sa, hka, rfl, u, hu, rfl⟩; refine ⟨fun e => (by cases e), ?_⟩; simp
    have hwu : IntKind.i64.wrap ((u : Int) - 2) = (u : Int) - 2 := wrap64 (by omega) (by omega)
    simp [hwu]
    refine callG_on false [1] ?_; simp; refine callN_all (by with_reducible exact c_pickL l ka 5 5 sa rfl hl hb (by omega) (by omega) (by omega)) ?_; rintro _ _ ⟨kb, sb, hkb, rfl, v, hv, rfl⟩; refine ⟨fun e => (by cases e), ?_⟩; simp
    have hwv : IntKind.i64.wrap ((v : Int) - 2) = (v : Int) - 2 := wrap64 (by omega) (by omega)
    simp [hwv]
    refine callG_on false [1] ?_; simp; refine callN_all (by with_reducible exact c_pickL l kb 5 5 sb rfl hl hb (by omega) (by omega) (by omega)) ?_; rintro _ _ ⟨kc, sc, hkc, rfl, z, hz, rfl⟩; refine ⟨fun e => (by cases e), ?_⟩; simp
    have hwz : IntKind.i64.wrap ((z : Int) - 2) = (z : Int) - 2 := wrap64 (by omega) (by omega)
    simp [c, c', c2, c3, hwi, hwz]
    (first | refine callG_r ?_ | refine callD_r ?_); simp; (first | refine callN_flat (by with_reducible first | exact c_l01Add _ _ _ _ _ _) rfl ?_ | refine callN_new (by with_reducible first | exact c_l01Add _ _ _ _ _ _) ?_ | refine callM_flat (by with_reducible first | exact c_l01Add _ _ _ _ _ _) rfl ?_ | refine callM_new (by with_reducible first | exact c_l01Add _ _ _ _ _ _) ?_)
    simp [c, c', c2, c3, hwi]
    have hPi : VB 129 P[i] ∧ CanV P[i] := hP1 _ (by rw [List.drop_eq_getElem_cons c]; exact List.mem_cons_self)
    refine loopK_next (i + 1, kc, sc, P.set i (vadd P[i] (sdV u v z))) (by simp only; omega) ⟨by simp only; omega, by simp only; omega, by simpa using hPl, ?_, ?_⟩ ?_
    · intro q hq
      simp only [List.drop_set_of_lt (Nat.lt_succ_self i)] at hq
      exact hP1 q (by rw [List.drop_eq_getElem_cons c]; exact List.mem_cons_of_mem _ hq)
    · intro q hq
      simp only [List.take_succ_eq_append_getElem (show i < (P.set i (vadd P[i] (sdV u v z))).length by simpa using c), List.getElem_set_self, List.take_set_of_le (Nat.le_refl i), List.mem_append, List.mem_singleton] at hq
      rcases hq with hq | rfl
      · exact hP2 q hq
      · exact ⟨vadd_vb hPi.1 (sdV_vb hu hv hz), vadd_can _ _⟩
    · (refine weak_gc [(some 0, 0), (some 1, 0), (some 2, 0), (some 3, 0), (some 4, 0)] ?_ ?_ ?_ ?_ ?_ <;> simp)
  have hi2 : i = P0.length := by omega
  subst hi2
  have htk : P.take P0.length = P := List.take_of_length_le (by omega)
  rw [htk] at hP2
  have hvP : vldM ⟨P, T0⟩ = true := by
    unfold vldM at hv0 ⊢
    simpa [hPl] using hv0
  obtain ⟨m, hm⟩ : ∃ m : Msh, m = ⟨P, T0⟩ := ⟨_, rfl⟩
  have hmp : P = m.pl := by rw [hm]
  have hmt : T0 = m.tr := by rw [hm]
  have hvm : vldM m = true := by rw [hm]; exact hvP
  have hsm : m.Small := vld_small hvm
  have hSm : SmM m := ⟨hvm, by rw [← hmp]; omega, by rw [← hmp]; exact hP2⟩
  rw [← hPl, hmp, hmt]
  simp
  (first | refine callG_r ?_ | refine callD_r ?_); simp; (first | refine callN_flat (by with_reducible first | exact c_l03Bare m _ hsm hvm) rfl ?_ | refine callN_new (by with_reducible first | exact c_l03Bare m _ hsm hvm) ?_ | refine callM_flat (by with_reducible first | exact c_l03Bare m _ hsm hvm) rfl ?_ | refine callM_new (by with_reducible first | exact c_l03Bare m _ hsm hvm) ?_)
  simp
  (first | refine callG_r ?_ | refine callD_r ?_); simp; (first | refine callN_flat (by with_reducible first | exact c_l02Edges m _ hsm hvm) rfl ?_ | refine callN_new (by with_reducible first | exact c_l02Edges m _ hsm hvm) ?_ | refine callM_flat (by with_reducible first | exact c_l02Edges m _ hsm hvm) rfl ?_ | refine callM_new (by with_reducible first | exact c_l02Edges m _ hsm hvm) ?_)
  simp
  have hel := edS_len hvm
  have hmn := vld64 hvm
  clear hPl hP1 hP2 htk hm hmp hmt hvP hp0
  refine loopG_of (α := Nat × List Sp × Nat × Int) (fun x => x.1 ≤ (edS m).length ∧ x.2.1.length = x.1 ∧ x.2.2.1 ≤ kk + 10 * x.1) (fun x => (edS m).length - x.1) (fun x => [(62, .int .i64 x.1), (61, .int .i64 (edS m).length), (9, .slc 7 0 (edS m).length 1), (8, .ptr 2 0), (3, .ptr 1 0), (2, .ptr 0 0)])
    (fun x => uHeap l x.2.2.1 x.2.2.2 m x.2.1 ((edS m).map ekey)) (0, [], kk, ss) ⟨by simp, by simp, by simp⟩ ?_ fun x hx => ?_
  · (refine weak_gc [(some 0, 0), (some 1, 0), (some 8, 0), (some 5, 0), (some 6, 0), (none, 88), (some 7, 0), (some 9, 0)] ?_ ?_ ?_ ?_ ?_ <;> simp)
  obtain ⟨j, S, kj, sj⟩ := x
  obtain ⟨hj, hS, hkj⟩ := hx
  simp only at hj hS hkj
  have hwj := nat_wrap (k := j) (by omega)
  by_cases c : j < (edS m).length
  · obtain ⟨p, q, he, hpq, hqn⟩ := ed_at hvm c
    have hkk2 := ekey_at2 c he
    have hkl : j < ((edS m).map ekey).length := by simpa using c
    simp [c, hwj, -List.getElem_map]
    refine callG_on false [1] ?_; simp; refine callN_all (by with_reducible exact c_pickL l kj 5 5 sj rfl hl hb (by omega) (by omega) (by omega)) ?_; rintro _ _ ⟨ka, sa, hka, rfl, u, hu, rfl⟩; refine ⟨fun e => (by cases e), ?_⟩; simp
    have hwu : IntKind.i64.wrap (2 + (u : Int)) = 2 + (u : Int) := wrap64 (by omega) (by omega)
    obtain ⟨_, kb, sb, hcb, hkb, v, hv, rfl⟩ := d_pick l ka 4 4 sa rfl hl hb (by omega) (by omega) (by omega)
    have hwv : IntKind.i64.wrap (1 + (v : Int)) = 1 + (v : Int) := wrap64 (by omega) (by omega)
    simp [c, hwj, hwu, he, hkl, hkk2, -List.getElem_map]
    (first | refine callG_on false [1] ?_ | refine callD_on false [1] ?_); simp; (first | refine callN_fun (by with_reducible exact hcb) (by simp) ?_ | refine callMD_fun (by with_reducible exact hcb) (by simp) ?_)
    have hSt : S.take j = S := List.take_of_length_le (by omega)
    simp [c, hwj, hwu, hwv, he, hS, hSt, one_spliceS, one_takeS, -List.getElem_map]
    refine ⟨by omega, by omega, loopK_next (j + 1, S ++ [((p : Int), (q : Int), fop .quo .f32 (fint .f32 (2 + (u : Int))) 1082130432, fop .quo .f32 (fint .f32 (1 + (v : Int))) 1073741824)], kb, sb) (by simp only; omega) ⟨by simp only; omega, by simp [hS], by simp only; omega⟩ ?_⟩
    (refine weak_gc [(some 0, 0), (some 1, 0), (some 2, 0), (some 3, 0), (some 4, 0), (some 9, 0), (some 6, 0), (some 7, 0)] ?_ ?_ ?_ ?_ ?_ <;> simp [hS])
  · obtain rfl : j = (edS m).length := by omega
    simp
    refine callG_on false [1] ?_; simp; refine callN_all (by with_reducible exact c_pickL l kj 5 5 sj rfl hl hb (by omega) (by omega) (by omega)) ?_; rintro _ _ ⟨ka, sa, hka, rfl, u, hu, rfl⟩; refine ⟨fun e => (by cases e), ?_⟩; simp
    refine callG_on false [1] ?_; simp; refine callN_all (by with_reducible exact c_pickL l ka 5 5 sa rfl hl hb (by omega) (by omega) (by omega)) ?_; rintro _ _ ⟨kb, sb, hkb, rfl, v, hv, rfl⟩; refine ⟨fun e => (by cases e), ?_⟩; simp
    refine endG_keepT (r := (⟨m, S, fop .quo .f32 (fint .f32 u) 1073741824, fop .quo .f32 (fint .f32 v) 1082130432, List.replicate m.pl.length 0, (0, 0, 0)⟩ : Bod).cp 0) (Hout := (⟨m, S, fop .quo .f32 (fint .f32 u) 1073741824, fop .quo .f32 (fint .f32 v) 1082130432, List.replicate m.pl.length 0, (0, 0, 0)⟩ : Bod).cpm) [(some 3, 0), (some 4, 0), (some 5, 0), (some 6, 0)] ?_ ?_ ?_ ?_ ?_ ?_ ?_ ⟨_, hSm, rfl, rfl⟩ ?_ <;> simp
end Go.Proofs.YtnjpigkijdnpkaaGreat
namespace Go.Proofs.YtnjpigkijdnpkaaGreat
set_option linter.all false
open Go Go.Awp
set_option maxRecDepth 100000
set_option maxHeartbeats 4000000

/-- Nothing, with whichever sign. -/
def Zr (x : Nat) : Prop := x = 0 ∨ x = 2147483648
def VZr (v : V) : Prop := Zr v.1 ∧ Zr v.2.1 ∧ Zr v.2.2
theorem zr_add {x y : Nat} (hx : Zr x) (hy : Zr y) : Zr (fop .add .f32 x y) := by
  rcases hx with rfl | rfl <;> rcases hy with rfl | rfl
  · left; decide +kernel
  · left; decide +kernel
  · left; decide +kernel
  · right; decide +kernel
theorem zr_mg {x : Nat} (h : Zr x) : Mg 129 x := by
  rcases h with rfl | rfl
  · exact mg_zero
  · constructor <;> decide
theorem zr_mul {b x z : Nat} (hx : Mg b x) (hb : b ≤ 255) (hz : Zr z) : Zr (fop .mul .f32 x z) := mul_none hx hb hz
theorem zr_mul2 {x y : Nat} (hx : Zr x) (hy : Zr y) : Zr (fop .mul .f32 x y) := mul_none (zr_mg hx) (by decide) hy
theorem zr_one {x : Nat} (hx : Zr x) : Zr (fop .mul .f32 x 1065353216) := by
  rcases hx with rfl | rfl
  · left; decide +kernel
  · right; decide +kernel
theorem vzr_add {v w : V} (hv : VZr v) (hw : VZr w) : VZr (vadd v w) := ⟨zr_add hv.1 hw.1, zr_add hv.2.1 hw.2.1, zr_add hv.2.2 hw.2.2⟩
theorem vzr_scale {b g : Nat} {v : V} (hv : VB b v) (hb : b ≤ 255) (hg : Zr g) : VZr (vscale v g) := ⟨zr_mul hv.1 hb hg, zr_mul hv.2.1 hb hg, zr_mul hv.2.2 hb hg⟩
theorem vzr_one {v : V} (hv : VZr v) : VZr (vscale v 1065353216) := ⟨zr_one hv.1, zr_one hv.2.1, zr_one hv.2.2⟩
theorem vzr_zero : VZr (0, 0, 0) := ⟨.inl rfl, .inl rfl, .inl rfl⟩
/-- A list of nothing. -/
def AZr (O : List V) : Prop := ∀ i, VZr (O.getD i (0, 0, 0))
theorem azr_push {b g i : Nat} {O : List V} {d : V} (h : AZr O) (hd : VB b d) (hb : b ≤ 255) (hg : Zr g) : AZr (push O i d g) := by
  intro j
  unfold push
  by_cases c : i = j
  · subst c
    by_cases c2 : i < O.length
    · rw [List.getD_eq_getElem?_getD, List.getElem?_set_self c2]
      exact vzr_add (h i) (vzr_scale hd hb hg)
    · rw [List.set_eq_of_length_le (by omega)]; exact h i
  · rw [List.getD_eq_getElem?_getD, List.getElem?_set_ne c, ← List.getD_eq_getElem?_getD]
    exact h j
theorem azr_fold {α : Type} {f : List V → α → List V} (hf : ∀ O x, AZr O → AZr (f O x)) : ∀ (l : List α) (O : List V), AZr O → AZr (l.foldl f O)
  | [], _, h => h
  | x :: l, O, h => azr_fold hf l _ (hf O x h)
theorem vb_zero {b : Nat} (h : 129 ≤ b) : VB b (0, 0, 0) := ⟨mg_zero.mono h, mg_zero.mono h, mg_zero.mono h⟩
theorem pl_vb {m : Msh} (hm : SmM m) (i : Int) : VB 131 (plA m i) := by
  unfold plA
  rw [List.getD_eq_getElem?_getD]
  cases h : m.pl[i.toNat]? with
  | none => exact vb_zero (by decide)
  | some v => exact (hm.pl v (List.mem_of_getElem? h)).1
theorem vsub_vb {b : Nat} {v w : V} (hv : VB b v) (hw : VB b w) (hb : b ≤ 253) : VB (b + 2) (vsub v w) := ⟨mg_sub hv.1 hw.1 hb, mg_sub hv.2.1 hw.2.1 hb, mg_sub hv.2.2 hw.2.2 hb⟩
theorem vadd_vb2 {b : Nat} {v w : V} (hv : VB b v) (hw : VB b w) (hb : b ≤ 253) : VB (b + 2) (vadd v w) := ⟨mg_add hv.1 hw.1 hb, mg_add hv.2.1 hw.2.1 hb, mg_add hv.2.2 hw.2.2 hb⟩
theorem vcross_vb {a b : Nat} {v w : V} (hv : VB a v) (hw : VB b w) (ha : a ≤ 160) (hb : b ≤ 160) (h1 : 129 ≤ a + b) : VB (a + b - 126 + 2) (vcross v w) := by
  have k : ∀ {x y : Nat}, Mg a x → Mg b y → Mg (a + b - 126) (fop .mul .f32 x y) := fun hx hy => mg_mul hx hy (by omega) (by omega) h1 (by omega)
  have h2 : a + b - 126 ≤ 253 := by omega
  exact ⟨mg_sub (k hv.2.1 hw.2.2) (k hv.2.2 hw.2.1) h2, mg_sub (k hv.2.2 hw.1) (k hv.1 hw.2.2) h2, mg_sub (k hv.1 hw.2.1) (k hv.2.1 hw.1) h2⟩
theorem zr_gain (long : Nat) : Zr (gainF 2147483648 long) := by
  unfold gainF
  split
  · rename_i h
    have h0 : FloatKind.f32.format.read 2147483648 = .number true 0 (-149) := by decide +kernel
    have hq : fop .quo .f32 2147483648 long = ((Ieee.Datum.quotient 25 (.number true 0 (-149)) (FloatKind.f32.format.read long)).map FloatKind.f32.format.write).getD (qnan .f32) := by
      rw [← h0]; rfl
    rw [hq]
    have hz : ∀ (s : Bool) (e : Int), Zr (FloatKind.f32.format.nearest s 0 e) := by
      intro s e
      unfold Ieee.Format.nearest
      rw [if_pos rfl]
      cases s
      · left; decide +kernel
      · right; decide +kernel
    cases hd : FloatKind.f32.format.read long with
    | nan s t =>
      have : ford .f32 long 0 = none := by unfold ford Ieee.Format.order; rw [hd, order_nan_l]
      rw [this] at h; cases h
    | infinity t => exact hz _ 0
    | number t n j =>
      by_cases hn : n = 0
      · subst hn
        have : ford .f32 long 0 = some .eq := by
          unfold ford Ieee.Format.order
          rw [hd, show FloatKind.f32.format.read 0 = .number false 0 (-149) by decide +kernel]
          unfold Ieee.Datum.order
          have hs : ∀ (s : Bool) (u : Nat), Ieee.signed s 0 u = 0 := by
            intro s u; unfold Ieee.signed; rw [Nat.zero_shiftLeft]; cases s <;> rfl
          dsimp only
          rw [hs, hs]; rfl
        rw [this] at h; cases h
      · unfold Ieee.Datum.quotient
        dsimp only
        rw [if_neg hn, Nat.zero_shiftLeft, Nat.zero_div, Nat.zero_mod]
        exact hz _ 0
  · exact .inl rfl
theorem fil_zr (m : Msh) (n : V) : Zr (filF (bareB m) n) := by
  unfold filF
  rw [show fneg .f32 (fop .mul .f32 1056964608 (bareB m).film) = 2147483648 by show fneg .f32 (fop .mul .f32 1056964608 0) = _; decide +kernel]
  exact zr_gain _
theorem bare_forces {m : Msh} (hm : SmM m) : AZr (frcB (bareB m)) := by
  have h0 : AZr (List.replicate (bareB m).me.pl.length (0, 0, 0)) := by
    intro i
    rw [List.getD_eq_getElem?_getD, List.getElem?_replicate]
    split <;> exact vzr_zero
  have hp := pl_vb hm
  have hn : ∀ t, VB 142 (nrmA m t) := fun t => by
    unfold nrmA vnrm
    exact (vcross_vb (a := 133) (b := 133) ((vsub_vb (hp _) (hp _) (by decide)).mono (by decide)) ((vsub_vb (hp _) (hp _) (by decide)).mono (by decide)) (by decide) (by decide) (by decide)).mono (by decide)
  have hb : ∀ h, VB 135 (bendA m h) := fun h => by
    unfold bendA vbend
    exact (vsub_vb (b := 133) ((vadd_vb2 (hp _) (hp _) (by decide)).mono (by decide)) ((vadd_vb2 (hp _) (hp _) (by decide)).mono (by decide)) (by decide)).mono (by decide)
  have h1 : ∀ k, AZr (fP1 (bareB m) (List.replicate (bareB m).me.pl.length (0, 0, 0)) k) := fun k => by
    unfold fP1
    refine azr_fold (fun O t h => ?_) _ _ h0
    unfold foT foT3
    refine azr_fold (fun O i h => ?_) _ _ h
    unfold foT1
    exact azr_push h (vcross_vb (a := 142) (b := 133) (hn t) ((vsub_vb (hp _) (hp _) (by decide)).mono (by decide)) (by decide) (by decide) (by decide)) (by decide) (fil_zr m _)
  have h2 : ∀ k j, AZr (fP2 (bareB m) (fP1 (bareB m) (List.replicate (bareB m).me.pl.length (0, 0, 0)) k) j) := fun k j => by
    unfold fP2
    refine azr_fold (fun O x h => ?_) _ _ (h1 k)
    have b0 : Zr (bareB m).bend := .inl rfl
    have b1 : Zr (fneg .f32 (bareB m).bend) := .inr (by show fneg .f32 0 = _; decide +kernel)
    unfold foH
    exact azr_push (azr_push (azr_push (azr_push h (hb x) (by decide) b0) (hb x) (by decide) b0) (hb x) (by decide) b1) (hb x) (by decide) b1
  unfold frcB fP3
  refine azr_fold (fun O i h => ?_) _ _ (h2 _ _)
  unfold foW
  refine azr_push h (b := 129) (vb_zero (by decide)) (by decide) ?_
  show Zr ((List.replicate m.pl.length 0).getD i 0)
  rw [List.getD_eq_getElem?_getD, List.getElem?_replicate]
  split <;> exact .inl rfl
/-- A bare body at rest. -/
abbrev stillM (m : Msh) : Mot := ⟨bareB m, List.replicate m.pl.length (0, 0, 0)⟩
theorem spd_zr {m : Msh} (hm : SmM m) : AZr (spdM (stillM m) [] 1065353216 1065353216 1065353216) := by
  have hq : fop .quo .f32 1065353216 1065353216 = 1065353216 := by decide +kernel
  intro i
  unfold spdM
  show VZr ((spdN (List.replicate m.pl.length (0, 0, 0)) (frcB (bareB m)) (fop .quo .f32 1065353216 1065353216) 1065353216 m.pl.length).getD i (0, 0, 0))
  rw [hq, List.getD_eq_getElem?_getD]
  unfold spdN
  rw [List.getElem?_map]
  cases h : (List.range m.pl.length)[i]? with
  | none => exact vzr_zero
  | some j =>
    have hr : VZr ((List.replicate m.pl.length ((0, 0, 0) : V)).getD j (0, 0, 0)) := by
      rw [List.getD_eq_getElem?_getD, List.getElem?_replicate]
      split <;> exact vzr_zero
    exact vzr_one (vzr_add hr (vzr_one (bare_forces hm j)))
theorem innL_zr {s : List V} (h : AZr s) : Zr (innL s s) := by
  unfold innL
  have key : ∀ k, Zr (innN s s k) := by
    intro k
    induction k with
    | zero => exact .inl rfl
    | succ k ih =>
      unfold innN at ih ⊢
      rw [List.range_succ, List.foldl_append]
      refine zr_add ih ?_
      have hv := h k
      generalize s.getD k (0, 0, 0) = v at hv
      exact zr_add (zr_add (zr_mul2 hv.1 hv.1) (zr_mul2 hv.2.1 hv.2.1)) (zr_mul2 hv.2.2 hv.2.2)
  exact key _
theorem still_energy {m : Msh} (hm : SmM m) : ford .f32 (fop .mul .f32 (fop .mul .f32 1056964608 1077936128) (innL (stpM (stillM m) [] 1065353216 1065353216 1065353216).sp (stpM (stillM m) [] 1065353216 1065353216 1065353216).sp)) 0 = some .eq := by
  have h : Zr (innL (stpM (stillM m) [] 1065353216 1065353216 1065353216).sp (stpM (stillM m) [] 1065353216 1065353216 1065353216).sp) := innL_zr (spd_zr hm)
  rcases h with h | h <;> rw [h] <;> decide +kernel
theorem add_zr {x z : Nat} (hc : CanF .f32 x) (hx : Mg 131 x) (hz : Zr z) : Alk (fop .add .f32 x z) x := by
  have hn : nanB .f32 (fop .add .f32 x z) = false := by
    obtain ⟨s, m, e, r, _, _⟩ := (mg_add hx ((zr_mg hz).mono (by decide)) (by decide)).read (by decide)
    unfold nanB FloatKind.decode; rw [r]; rfl
  exact alk_of_zs (add_zn hc (by rcases hz with rfl | rfl <;> rfl) hn)
theorem still_stays {m : Msh} (hm : SmM m) {i : Nat} (hi : i < m.pl.length) (hi2 : i < (stpM (stillM m) [] 1065353216 1065353216 1065353216).bo.me.pl.length) : VAlk ((stpM (stillM m) [] 1065353216 1065353216 1065353216).bo.me.pl[i]) (m.pl[i]) := by
  have hs := spd_zr hm i
  have hl : i < (spdM (stillM m) [] 1065353216 1065353216 1065353216).length := by rw [spdM_len]; exact hi
  rw [List.getD_eq_getElem?_getD, List.getElem?_eq_getElem hl, Option.getD_some] at hs
  have e : (stpM (stillM m) [] 1065353216 1065353216 1065353216).bo.me.pl[i] = vadd m.pl[i] (vscale (spdM (stillM m) [] 1065353216 1065353216 1065353216)[i] 1065353216) := movP_at (s := 1065353216) hi hl
  rw [e]
  obtain ⟨⟨b1, b2, b3⟩, c1, c2, c3⟩ := hm.pl _ (List.getElem_mem hi)
  have hv := vzr_one hs
  exact ⟨add_zr c1 b1 hv.1, add_zr c2 b2 hv.2.1, add_zr c3 b3 hv.2.2⟩

/-! Held places. -/
theorem add_nothing {x : Nat} (hc : CanF .f32 x) : zs (fop .add .f32 x 0) = zs x := by
  cases nx : nanB .f32 x with
  | false => exact add_zero32 hc nx
  | true =>
    have hx : x = qnan .f32 := by rw [← hc.1, cn_nan nx]
    subst hx
    decide +kernel
theorem stpM_kp {m : Mot} {held : List Int} {mass damp : Nat} (hc : ∀ v ∈ m.bo.me.pl, CanV v) (hp : ∀ p ∈ held, 0 ≤ p ∧ p < m.bo.me.pl.length) : Kp held m.bo (stpM m held mass damp 1040187392).bo := by
  have hl := spdM_len m held mass damp 1040187392
  have hml := stpM_len m held mass damp 1040187392
  refine ⟨hml, fun v hv => ?_, fun p hpp => ?_⟩
  · obtain ⟨i, hi, rfl⟩ := List.getElem_of_mem hv
    have hib : i < m.bo.me.pl.length := by rw [← hml]; exact hi
    have e : (stpM m held mass damp 1040187392).bo.me.pl[i] = vadd m.bo.me.pl[i] (vscale (spdM m held mass damp 1040187392)[i] 1040187392) := movP_at (s := 1040187392) hib (by omega)
    rw [e]; exact vadd_can _ _
  · obtain ⟨q, hq⟩ : ∃ q : Nat, p = (q : Int) := ⟨p.toNat, by have := hp p hpp; omega⟩
    subst hq
    have hqb : q < m.bo.me.pl.length := by have := hp _ hpp; omega
    have hqm : q < (stpM m held mass damp 1040187392).bo.me.pl.length := by rw [hml]; exact hqb
    have hz : (spdM m held mass damp 1040187392).getD (q : Int).toNat (0, 0, 0) = (0, 0, 0) := free_get _ hpp
    rw [Int.toNat_natCast] at hz ⊢
    rw [List.getD_eq_getElem?_getD, List.getElem?_eq_getElem hqm, List.getD_eq_getElem?_getD, List.getElem?_eq_getElem hqb]
    rw [List.getD_eq_getElem?_getD, List.getElem?_eq_getElem (by omega : q < (spdM m held mass damp 1040187392).length)] at hz
    have e : (stpM m held mass damp 1040187392).bo.me.pl[q] = vadd m.bo.me.pl[q] (vscale (spdM m held mass damp 1040187392)[q] 1040187392) := movP_at (s := 1040187392) hqb (by omega)
    simp only [Option.getD_some] at hz ⊢
    rw [e, hz]
    obtain ⟨c1, c2, c3⟩ := hc _ (List.getElem_mem hqb)
    have h0 : fop .mul .f32 0 1040187392 = 0 := by decide +kernel
    have hv : vscale (0, 0, 0) 1040187392 = (0, 0, 0) := by
      show (fop .mul .f32 0 1040187392, fop .mul .f32 0 1040187392, fop .mul .f32 0 1040187392) = _
      rw [h0]
    rw [hv]
    exact vz_mk (add_nothing c1) (add_nothing c2) (add_nothing c3)
theorem stpM_speed {m : Mot} {held : List Int} {mass damp tick : Nat} {p : Int} (hp : p ∈ held) : (stpM m held mass damp tick).sp.getD p.toNat (0, 0, 0) = (0, 0, 0) := free_get _ hp
/-- What a run leaves. -/
structure RunOkM (held : List Int) (m : Mot) (n : Nat) (E : List Nat) (r : Mot × List Nat) : Prop where
  kp : Kp held m.bo r.1.bo
  len : r.2.length = E.length + n
  spl : r.1.sp.length = m.bo.me.pl.length
  sp : 0 < n → ∀ p ∈ held, r.1.sp.getD p.toNat (0, 0, 0) = (0, 0, 0)
  sml : r.1.bo.Small
  vld : vldB r.1.bo = true
theorem runM_ok {held : List Int} {mass damp : Nat} : ∀ (n : Nat) {m : Mot} {E : List Nat}, m.bo.Small → vldB m.bo = true → m.sp.length = m.bo.me.pl.length → (∀ v ∈ m.bo.me.pl, CanV v) → (∀ p ∈ held, 0 ≤ p ∧ p < m.bo.me.pl.length) → RunOkM held m n E (runM held mass damp 1040187392 n m E)
  | 0, m, E, hs, hv, hl, hc, hp => ⟨Kp.refl hc, rfl, hl, fun h => absurd h (Nat.lt_irrefl _), hs, hv⟩
  | n + 1, m, E, hs, hv, hl, hc, hp => by
    have k := stpM_kp (mass := mass) (damp := damp) hc hp
    have hml := stpM_len m held mass damp 1040187392
    have r := runM_ok (held := held) (mass := mass) (damp := damp) n (E := E ++ [enB (stpM m held mass damp 1040187392).bo]) (stpM_small (held := held) (mass := mass) (damp := damp) (tick := 1040187392) hs) (stpM_vld (held := held) (mass := mass) (damp := damp) (tick := 1040187392) hv) (by rw [stpM_spl, hml]) k.can (by rw [hml]; exact hp)
    rw [runM_succ]
    refine ⟨k.trans r.kp, by rw [r.len, List.length_append]; simp; omega, by rw [r.spl, hml], fun _ p hpp => ?_, r.sml, r.vld⟩
    cases n with
    | zero => exact stpM_speed hpp
    | succ n => exact r.sp (by omega) p hpp
end Go.Proofs.YtnjpigkijdnpkaaGreat
