/- Angles of points, sines of turns: how they are reckoned.
Conditions: none. -/
import Derived.Test.YtfngkhkghjgmkaaFst
namespace Go.Proofs.Ytfngkhkghjgmkaa
set_option linter.all false
open Go Go.Awp
set_option maxRecDepth 100000
set_option maxHeartbeats 4000000

def fone : Nat := 4607182418800017408
def ks15 : List Nat := [4624633867356078080, 4623507967449235456, 4622382067542392832, 4621256167635550208, 4619567317775286272, 4617315517961601024, 4613937818241073152, 4607182418800017408]
def ks8 : List Nat := [4620693217682128896, 4619567317775286272, 4618441417868443648, 4617315517961601024, 4616189618054758400, 4613937818241073152, 4611686018427387904, 4607182418800017408]
/-- A round of the angle's halving. -/
def angR (t : Nat) : Nat := fop .quo .f64 t (fop .add .f64 4607182418800017408 (fsqrt (fop .add .f64 4607182418800017408 (fop .mul .f64 t t))))
def angP (u : Nat) (l : List Nat) (p : Nat) : Nat := l.foldl (fun p k => fop .sub .f64 (fop .quo .f64 4607182418800017408 k) (fop .mul .f64 u p)) p
def angC3 (t : Nat) : Nat := fop .quo .f64 (fop .mul .f64 4620693217682128896 (fop .mul .f64 t (angP (fop .mul .f64 t t) ks15 0))) 4618760256179416344
def angC (t : Nat) : Nat := angC3 (angR (angR (angR t)))
def ab64 (x : Nat) : Nat := x % 9223372036854775808
def angT (a b : Nat) : Nat := if ford .f64 a b = some .gt then fop .quo .f64 b a else fop .quo .f64 a b
def angA (a b : Nat) : Nat := if ford .f64 a b = some .gt then fop .sub .f64 4598175219545276416 (angC (angT a b)) else angC (angT a b)
def angX (x m : Nat) : Nat := if ford .f32 x 0 = some .lt then fop .sub .f64 4602678819172646912 m else m
def angY (y m : Nat) : Nat := if ford .f32 y 0 = some .lt then fneg .f64 m else m
def ang64 (y x : Nat) : Nat := angY y (angX x (angA (ab64 (wid y)) (ab64 (wid x))))
def ang (y x : Nat) : Nat := (fcvt .f64 .f32 (ang64 y x)).getD 0
/-- The sine. -/
def sinQ (u : Nat) (l : List Nat) (p : Nat) : Nat := l.foldl (fun p k => fop .sub .f64 4607182418800017408 (fop .quo .f64 (fop .mul .f64 u p) (fop .mul .f64 (fop .mul .f64 4611686018427387904 k) (fop .add .f64 (fop .mul .f64 4611686018427387904 k) 4607182418800017408)))) p
def isGe (x y : Nat) : Bool := ford .f64 x y == some .gt || ford .f64 x y == some .eq
def siA (f : Nat) : Nat := if isGe f 4602678819172646912 then fop .sub .f64 f 4602678819172646912 else f
def siB (f : Nat) : Nat := if ford .f64 f 4598175219545276416 = some .gt then fop .sub .f64 4602678819172646912 f else f
def siZ (z : Nat) : Nat := fop .mul .f64 z (sinQ (fop .mul .f64 z z) ks8 4607182418800017408)
def siG (f : Nat) : Nat := if isGe f 4602678819172646912 then fneg .f64 (siZ (fop .mul .f64 (siB (siA f)) 4618760256179416344)) else siZ (fop .mul .f64 (siB (siA f)) 4618760256179416344)
def siF (x : Nat) : Nat := if ford .f64 (fop .sub .f64 x 0) 0 = some .lt then fop .add .f64 (fop .sub .f64 x 0) 4607182418800017408 else fop .sub .f64 x 0
def sin32 (x : Nat) : Nat := (fcvt .f64 .f32 (siG (siF (wid x)))).getD 0


/-- The same, quickly. -/
def aR (t : Nat) : Nat := quoG t (addG (nat_lit 4607182418800017408) (sqrtG (addG (nat_lit 4607182418800017408) (mulG t t))))
def aP (u : Nat) : List Nat → Nat → Nat
  | [], p => p
  | c :: l, p => aP u l (subG c (mulG u p))
def aD (t u : Nat) : Nat := quoG (mulG (nat_lit 4620693217682128896) (mulG t (aP u [nat_lit 4590207312512236308, nat_lit 4591215111030249286, nat_lit 4592670820000712476, nat_lit 4594314991293244562, nat_lit 4596373779694328218, nat_lit 4599676419421066581, nat_lit 4607182418800017408] (nat_lit 4589468260265693457)))) (nat_lit 4618760256179416344)
def aC3 (t : Nat) : Nat := aD t (mulG t t)
def aC (t : Nat) : Nat := aC3 (aR (aR (aR t)))
def sQ (u : Nat) : List Nat → Nat → Nat
  | [], p => p
  | c :: l, p => sQ u l (subG (nat_lit 4607182418800017408) (quoG (mulG u p) c))
def sZ (z : Nat) : Nat := mulG z (sQ (mulG z z) [nat_lit 4643492690795692032, nat_lit 4641592734702895104, nat_lit 4639692778610098176, nat_lit 4637440978796412928, nat_lit 4634766966517661696, nat_lit 4631107791820423168, nat_lit 4626322717216342016, nat_lit 4618441417868443648] (nat_lit 4607182418800017408))

theorem ks15_inv : ks15.map (fop .quo .f64 4607182418800017408) = [4589468260265693457, 4590207312512236308, 4591215111030249286, 4592670820000712476, 4594314991293244562, 4596373779694328218, 4599676419421066581, 4607182418800017408] := by decide +kernel
theorem ks8_den : ks8.map (fun k => fop .mul .f64 (fop .mul .f64 4611686018427387904 k) (fop .add .f64 (fop .mul .f64 4611686018427387904 k) 4607182418800017408)) = [4643492690795692032, 4641592734702895104, 4639692778610098176, 4637440978796412928, 4634766966517661696, 4631107791820423168, 4626322717216342016, 4618441417868443648] := by decide +kernel

theorem angR_G (t : Nat) : angR t = aR t := by unfold angR aR; rw [quoG_eq, addG_eq, sqrtG_eq, addG_eq, mulG_eq]
theorem foldl_map' {α β γ : Type} (f : γ → β → γ) (g : α → β) (l : List α) (p : γ) : l.foldl (fun p k => f p (g k)) p = (l.map g).foldl f p := by rw [List.foldl_map]
theorem aP_eq (u : Nat) : ∀ (l : List Nat) (p : Nat), l.foldl (fun p c => fop .sub .f64 c (fop .mul .f64 u p)) p = aP u l p
  | [], _ => rfl
  | c :: l, p => by
    show l.foldl _ (fop .sub .f64 c (fop .mul .f64 u p)) = aP u l (subG c (mulG u p))
    rw [subG_eq, mulG_eq]; exact aP_eq u l _
theorem sQ_eq (u : Nat) : ∀ (l : List Nat) (p : Nat), l.foldl (fun p c => fop .sub .f64 4607182418800017408 (fop .quo .f64 (fop .mul .f64 u p) c)) p = sQ u l p
  | [], _ => rfl
  | c :: l, p => by
    show l.foldl _ (fop .sub .f64 4607182418800017408 (fop .quo .f64 (fop .mul .f64 u p) c)) = sQ u l (subG 4607182418800017408 (quoG (mulG u p) c))
    rw [subG_eq, quoG_eq, mulG_eq]; exact sQ_eq u l _
theorem angP_G (u : Nat) (h : fop .sub .f64 4589468260265693457 (fop .mul .f64 u 0) = 4589468260265693457) : angP u ks15 0 = aP u [4590207312512236308, 4591215111030249286, 4592670820000712476, 4594314991293244562, 4596373779694328218, 4599676419421066581, 4607182418800017408] 4589468260265693457 := by
  unfold angP
  rw [foldl_map' (fun p c => fop .sub .f64 c (fop .mul .f64 u p)) (fop .quo .f64 4607182418800017408), ks15_inv, aP_eq]
  show aP u _ (subG 4589468260265693457 (mulG u 0)) = _
  rw [← subG_eq, ← mulG_eq, h]
theorem sinQ_G (u : Nat) : sinQ u ks8 4607182418800017408 = sQ u [4643492690795692032, 4641592734702895104, 4639692778610098176, 4637440978796412928, 4634766966517661696, 4631107791820423168, 4626322717216342016, 4618441417868443648] 4607182418800017408 := by
  unfold sinQ
  rw [foldl_map' (fun p c => fop .sub .f64 4607182418800017408 (fop .quo .f64 (fop .mul .f64 u p) c)) (fun k => fop .mul .f64 (fop .mul .f64 4611686018427387904 k) (fop .add .f64 (fop .mul .f64 4611686018427387904 k) 4607182418800017408)), ks8_den, sQ_eq]
/-- The first round, with nothing before it. -/
def fst0 (u : Nat) : Bool := or (and (okF u) (Nat.beq (sgF u) 0)) (Nat.beq u 0)
theorem fst0_ok {u : Nat} (h : fst0 u = true) : fop .sub .f64 4589468260265693457 (fop .mul .f64 u 0) = 4589468260265693457 := by
  have h0 : fop .mul .f64 u 0 = 0 := by
    rcases (Bool.or_eq_true _ _).mp h with h | h
    · have h := (Bool.and_eq_true _ _).mp h
      obtain ⟨hx, _, _⟩ := read_F h.1
      have hs : sgF u = 0 := Nat.eq_of_beq_eq_true h.2
      show (Option.map _ (Ieee.Datum.product (FloatKind.f64.format.read u) (FloatKind.f64.format.read 0))).getD _ = _
      rw [hx, hs, show FloatKind.f64.format.read 0 = .number false 0 (-1074) by decide +kernel]
      have hp : Ieee.Datum.product (.number (0 == 1) (maF u) ((exF u : Int) - 1075)) (.number false 0 (-1074)) = some (.number false (maF u * 0) ((exF u : Int) - 1075 + -1074)) := rfl
      rw [hp, num_getD, Nat.mul_zero]
      rfl
    · rw [Nat.eq_of_beq_eq_true h]; decide +kernel
  rw [h0]; decide +kernel
theorem angC3_G (t : Nat) (h : fst0 (mulG t t) = true) : angC3 t = aC3 t := by
  unfold angC3 aC3 aD
  rw [quoG_eq, mulG_eq, mulG_eq, mulG_eq t t, angP_G _ (fst0_ok h)]
theorem siZ_G (z : Nat) : siZ z = sZ z := by
  unfold siZ sZ; rw [mulG_eq, mulG_eq, sinQ_G]

/-! Two numbers' angle, checked for all signs. -/
def ar3 (t : Nat) : Nat := aR (aR (aR t))
def aA (a b : Nat) : Nat := bif ford .f64 a b == some .gt then subG (nat_lit 4598175219545276416) (aC3 (ar3 (quoG b a))) else aC3 (ar3 (quoG a b))
def aOk (a b : Nat) : Bool := bif ford .f64 a b == some .gt then fst0 (mulG (ar3 (quoG b a)) (ar3 (quoG b a))) else fst0 (mulG (ar3 (quoG a b)) (ar3 (quoG a b)))
theorem aA_eq (a b : Nat) (h : aOk a b = true) : angA a b = aA a b := by
  unfold aOk at h
  unfold angA aA angC angT
  by_cases c : ford .f64 a b = some .gt
  · rw [c] at h ⊢
    simp only [beq_self_eq_true, cond_true, if_true] at h ⊢
    rw [subG_eq, quoG_eq, angR_G, angR_G, angR_G, show aR (aR (aR (quoG b a))) = ar3 (quoG b a) from rfl, angC3_G _ h]
  · have c' : (ford .f64 a b == some .gt) = false := by simpa using c
    rw [c'] at h ⊢
    simp only [if_neg c, cond_false] at h ⊢
    rw [quoG_eq, angR_G, angR_G, angR_G, show aR (aR (aR (quoG a b))) = ar3 (quoG a b) from rfl, angC3_G _ h]
def lt0 (x : Nat) : Bool := ford .f32 x 0 == some .lt
def s1 (f : Nat) : Nat := bif isGe f 4602678819172646912 then subG f (nat_lit 4602678819172646912) else f
def s2 (f : Nat) : Nat := bif ford .f64 f 4598175219545276416 == some .gt then subG (nat_lit 4602678819172646912) f else f
def sG (f : Nat) : Nat := bif isGe f 4602678819172646912 then fneg .f64 (sZ (mulG (s2 (s1 f)) (nat_lit 4618760256179416344))) else sZ (mulG (s2 (s1 f)) (nat_lit 4618760256179416344))
def sF (x : Nat) : Nat := bif ford .f64 (sub0G x) 0 == some .lt then addG (sub0G x) (nat_lit 4607182418800017408) else sub0G x
theorem sG_eq (f : Nat) : siG f = sG f := by
  have h1 : ∀ f, siA f = s1 f := by
    intro f; unfold siA s1
    cases c : isGe f 4602678819172646912 <;> simp [subG_eq]
  have h2 : ∀ f, siB f = s2 f := by
    intro f; unfold siB s2
    by_cases c : ford .f64 f 4598175219545276416 = some .gt
    · simp [c, subG_eq]
    · simp [c, show (ford .f64 f 4598175219545276416 == some .gt) = false by simpa using c]
  unfold siG sG
  rw [h1, h2, siZ_G, mulG_eq]
  cases c : isGe f 4602678819172646912 <;> simp
theorem sF_eq (x : Nat) : siF x = sF x := by
  unfold siF sF
  rw [sub0G_eq, addG_eq]
  by_cases c : ford .f64 (sub0G x) 0 = some .lt
  · simp [c]
  · simp [c, show (ford .f64 (sub0G x) 0 == some .lt) = false by simpa using c]
def sn (a : Nat) : Nat := sG (sF (widG a))
theorem sn_eq (a : Nat) : siG (siF (wid a)) = sn a := by unfold sn; rw [sG_eq, sF_eq, widG_eq]
def someC (m : Nat) : Bool := or (okC m) (fcvt .f64 .f32 m).isSome
theorem someC_ok {m : Nat} (h : someC m = true) : fcvt .f64 .f32 m = some (cvtQ m) := by
  rw [← cvtQ_eq]
  rcases (Bool.or_eq_true _ _).mp h with h | h
  · unfold cvt32; rw [fcvt_C h]; rfl
  · obtain ⟨y, hy⟩ := Option.isSome_iff_exists.1 h
    unfold cvt32; rw [hy]; rfl
/-- A sine can be reckoned. -/
def okS (a : Nat) : Bool := Nat.ble (Nat.succ a) (nat_lit 4294967296) && Nat.ble (Nat.succ (Nat.mod a (nat_lit 2147483648))) (nat_lit 1065353216) && (Nat.beq a 0 || (okF (widG a) && Nat.ble (exF (widG a)) 1022)) && !isGe (ab64 (widG a)) 4841369599423283200 && someC (sn a)
def gapG (a b : Nat) : Nat := bif ford .f64 a b == some .lt then subG b a else subG a b
def nearG (s l y : Nat) : Bool := !(ford .f64 (gapG (mulG (widG s) (widG l)) (widG y)) 4547007122018943789 == some .gt)
def isGe32 (x y : Nat) : Bool := ford .f32 x y == some .gt || ford .f32 x y == some .eq
def chkA (a l y x : Nat) : Bool :=
  isGe32 a 3204448256 && !(ford .f32 a 1056964608 == some .gt) && okS a && okS (addH a 1048576000) && nearG (cvtQ (sn a)) l y && nearG (cvtQ (sn (addH a 1048576000))) l x
end Go.Proofs.Ytfngkhkghjgmkaa
