/- What the arguments of a law are: rows of records, read out of the machine's memory.
Conditions: none. -/
import Derived.Test.YtbjfkhjckfodbaaDat
namespace Go.Awp
set_option linter.all false
open Go Go.ChangeShapes Go.WideShapes Go.RowKit

/-- A number as it may lie in memory: a word, of NaNs the one. -/
def CanF (k : FloatKind) (x : Nat) : Prop := cn k x = x ∧ x < 2 ^ k.format.width
def CanV (v : V) : Prop := CanF .f32 v.1 ∧ CanF .f32 v.2.1 ∧ CanF .f32 v.2.2
def I64 (n : Int) : Prop := -9223372036854775808 ≤ n ∧ n ≤ 9223372036854775807
def CanT (t : Th) : Prop := I64 t.1 ∧ I64 t.2.1 ∧ CanF .f32 t.2.2

def CR (W : World) (cs : List Value) (l : List AV) : Prop := l.length = cs.length ∧ ∀ (i : Nat) a v, l[i]? = some a → cs[i]? = some v → VRel W (env0 W) a v ∧ v.oneCell' = true
theorem CR.nil (W : World) : CR W [] [] := ⟨rfl, fun i a v h => by simp at h⟩
theorem CR.one {W : World} {v : Value} {a : AV} (h : VRel W (env0 W) a v) (h1 : v.oneCell' = true) : CR W [v] [a] := ⟨rfl, fun i a' v' ha hv => by
  cases i with
  | zero => simp at ha hv; subst ha; subst hv; exact ⟨h, h1⟩
  | succ i => simp at ha⟩
theorem CR.append {W : World} {cs cs' : List Value} {l l' : List AV} (h : CR W cs l) (h' : CR W cs' l') : CR W (cs ++ cs') (l ++ l') := by
  refine ⟨by simp [h.1, h'.1], fun i a v ha hv => ?_⟩
  rw [List.getElem?_append] at ha hv
  rw [h.1] at ha
  split at ha
  · rename_i hi
    rw [if_pos hi] at hv
    exact h.2 i a v ha hv
  · rename_i hi
    rw [if_neg hi] at hv
    exact h'.2 _ a v ha hv

/-- Values of a type, as they are read: what is known of their cells. -/
structure Opens (P : Program) (t : TypeId) (S : List AV → Prop) : Prop where
  op : ∀ {H : Type} {enc : TypeId × Value → H} {W : World} {base : Nat} {spare : Nat → Bool} {held : Bool} {fuel : Nat} {cs : List Value} {x : DataW H × List MemPlace},
    DataW.trod enc P W base spare held fuel t cs = some x → ∃ l, CR W cs l ∧ S l
theorem Opens.mono {P : Program} {t : TypeId} {S S' : List AV → Prop} (h : Opens P t S) (hs : ∀ l, S l → S' l) : Opens P t S' := ⟨fun hx => by
  obtain ⟨l, h1, h2⟩ := h.op hx
  exact ⟨l, h1, hs l h2⟩⟩

section
variable {P : Program} {t : TypeId}
theorem wf_i64 {n : Int} (h : (Lit.int .i64 n).wf = true) : I64 n := by
  have h2 : Lit.wf (.int .i64 n) = decide (IntKind.i64.min ≤ n ∧ n ≤ IntKind.i64.max) := by simp [Lit.wf]
  rw [h2] at h
  have := of_decide_eq_true h
  have e1 : IntKind.i64.min = -9223372036854775808 := by decide
  have e2 : IntKind.i64.max = 9223372036854775807 := by decide
  rw [e1, e2] at this
  exact this
theorem opens_int {k : IntKind} (ht : P.underlying t = some (.int k)) : Opens P t fun l => ∃ n : Int, (Lit.int k n).wf = true ∧ l = [.int k n] := ⟨fun h => by
  obtain ⟨n, rfl, _, hw⟩ := DataW.trod_int ht h
  exact ⟨_, .one (.int k n) rfl, n, hw, rfl⟩⟩
theorem opens_bool (ht : P.underlying t = some .bool) : Opens P t fun l => ∃ b : Bool, l = [.bool b] := ⟨fun h => by
  obtain ⟨b, rfl, _⟩ := DataW.trod_bool ht h
  exact ⟨_, .one (.bool b) rfl, b, rfl⟩⟩
theorem opens_string (ht : P.underlying t = some .string) : Opens P t fun l => ∃ s : ByteArray, s.size ≤ maxLen ∧ l = [.str s] := ⟨fun h => by
  obtain ⟨s, rfl, _, hs⟩ := DataW.trod_string ht h
  exact ⟨_, .one (.str s) rfl, s, hs, rfl⟩⟩
theorem trod_float {H : Type} {enc : TypeId × Value → H} {W : World} {base : Nat} {spare : Nat → Bool} {held : Bool} {fuel : Nat} {cs : List Value} {x : DataW H × List MemPlace} {k : FloatKind} (ht : P.underlying t = some (.float k))
    (h : DataW.trod enc P W base spare held fuel t cs = some x) : ∃ b, cs = [.float k b] ∧ (Lit.float k b).wf = true := by
  cases fuel with
  | zero => simp [DataW.trod] at h
  | succ n =>
    unfold DataW.trod at h
    rw [ht] at h
    split at h <;> simp_all
theorem flt_lt {k : FloatKind} {b : Nat} (h : (Lit.float k b).wf = true) : b < 2 ^ k.format.width := by
  cases k
  · have h2 : Lit.wf (.float .f32 b) = decide (b < 2 ^ 32) := rfl
    rw [h2] at h; exact of_decide_eq_true h
  · have h2 : Lit.wf (.float .f64 b) = decide (b < 2 ^ 64) := rfl
    rw [h2] at h; exact of_decide_eq_true h
theorem opens_float {k : FloatKind} (ht : P.underlying t = some (.float k)) : Opens P t fun l => ∃ x, CanF k x ∧ l = [.flt k x] := ⟨fun h => by
  obtain ⟨b, rfl, hw⟩ := trod_float ht h
  have hb := flt_lt hw
  exact ⟨_, .one (.flt k (cn k b) b rfl hb) rfl, _, ⟨cn_cn k b, cn_lt hb⟩, rfl⟩⟩

/-- The parts of a struct, one behind the other. -/
def fieldsOk (P : Program) : List Field → Nat → Nat → Bool
  | [], off, n => off == n
  | f :: fs, off, n => f.offset == off && fieldsOk P fs (off + P.cellsOf f.type) n
def SSL : List (List AV → Prop) → List AV → Prop
  | [], l => l = []
  | S :: Ss, l => ∃ l1 l2, S l1 ∧ SSL Ss l2 ∧ l = l1 ++ l2
def AllO (P : Program) : List Field → List (List AV → Prop) → Prop
  | [], [] => True
  | f :: fs, S :: Ss => Opens P f.type S ∧ AllO P fs Ss
  | _, _ => False
theorem fieldsOk_le : ∀ {fs : List Field} {off n : Nat}, fieldsOk P fs off n = true → off ≤ n
  | [], off, n, h => by simp [fieldsOk] at h; omega
  | f :: fs, off, n, h => by
    simp only [fieldsOk, Bool.and_eq_true] at h
    have := fieldsOk_le h.2
    omega
theorem opens_fields {H : Type} {enc : TypeId × Value → H} {W : World} {base : Nat} {spare : Nat → Bool} {held : Bool} {n : Nat} {cs : List Value} : ∀ (fs : List Field) (Ss : List (List AV → Prop)) (off : Nat), fieldsOk P fs off cs.length = true → AllO P fs Ss →
    (∀ f ∈ fs, ∃ x, DataW.trod enc P W base spare held n f.type ((cs.drop f.offset).take (P.cellsOf f.type)) = some x) → ∃ l, CR W (cs.drop off) l ∧ SSL Ss l
  | [], [], off, h, _, _ => ⟨[], by
    simp only [fieldsOk, beq_iff_eq] at h
    rw [List.drop_of_length_le (by omega)]; exact .nil W, rfl⟩
  | f :: fs, S :: Ss, off, h, ho, hx => by
    simp only [fieldsOk, Bool.and_eq_true, beq_iff_eq] at h
    obtain ⟨h1, h2⟩ := h
    obtain ⟨x, hx0⟩ := hx f (List.mem_cons_self ..)
    obtain ⟨l1, c1, s1⟩ := ho.1.op hx0
    obtain ⟨l2, c2, s2⟩ := opens_fields fs Ss (off + P.cellsOf f.type) h2 ho.2 (fun g hg => hx g (List.mem_cons_of_mem _ hg))
    have hle := fieldsOk_le h2
    refine ⟨l1 ++ l2, ?_, l1, l2, s1, s2, rfl⟩
    have e : cs.drop off = (cs.drop f.offset).take (P.cellsOf f.type) ++ cs.drop (off + P.cellsOf f.type) := by
      rw [h1, ← List.drop_drop, List.take_append_drop]
    rw [e]; exact c1.append c2
  | [], _ :: _, _, _, h, _ => h.elim
  | _ :: _, [], _, _, h, _ => h.elim
theorem opens_struct {fs : Array Field} {Ss : List (List AV → Prop)} (ht : P.underlying t = some (.struct fs)) (hf : fieldsOk P fs.toList 0 (P.cellsOf t) = true) (ho : AllO P fs.toList Ss) : Opens P t (SSL Ss) := .mk fun {H enc W base spare held fuel cs x} h => by
  obtain ⟨xs, n, rfl, _, hl, hxl, hget⟩ := DataW.trod_struct ht h
  have := opens_fields (enc := enc) (W := W) (base := base) (spare := spare) (held := held) (n := n) (cs := cs) fs.toList Ss 0 (by rw [hl]; exact hf) ho fun f hfm => by
    obtain ⟨i, hi⟩ := List.getElem?_of_mem hfm
    have hi' : fs[i]? = some f := by simpa using hi
    have hlt : i < xs.length := by
      rw [hxl]; exact (Array.getElem?_eq_some_iff.1 hi').1
    exact ⟨xs[i], by rw [hget i f hi', List.getElem?_eq_getElem hlt]⟩
  simpa using this

theorem opens_slice {e : TypeId} {α : Type} {enc' : α → List AV} {G : α → Prop} {s : Nat} (ht : P.underlying t = some (.slice e)) (hs : P.cellsOf e = s) (hpos : 0 < s) (hlen : ∀ a, (enc' a).length = s) (ho : Opens P e fun l => ∃ a, G a ∧ l = enc' a) :
    Opens P t fun l => ∃ as : List α, ((∀ a ∈ as, G a) ∧ as.length ≤ maxLen) ∧ l = [.view false (as.flatMap enc') as.length] := .mk fun {H enc W base spare held fuel cs x} h => by
  rcases DataW.trod_slice ht h with ⟨rfl, _⟩ | ⟨a, len, cap, elems, rest, n, _, rfl, _, _, hl, hm, hlen', hel, _, _⟩
  · exact ⟨_, .one (.view0 false [] none 0 (Nat.zero_le _)) rfl, [], ⟨by simp, by simp⟩, rfl⟩
  · -- each element's cells
    have each : ∀ i, i < len → ∃ b, G b ∧ ∀ j, j < s → ∃ v, W.cell? (a.add (i * s + j)) = some v ∧ (∀ c, (enc' b)[j]? = some c → VRel W (env0 W) c v) ∧ v.oneCell' = true := by
      intro i hi
      have h1 := hel i hi
      rw [List.getElem?_eq_getElem (by omega), Option.bind_eq_some_iff] at h1
      obtain ⟨cs', hc, hx⟩ := h1
      obtain ⟨l, hcr, b, hb, rfl⟩ := ho.op hx
      obtain ⟨_, hcl, hcg⟩ := World.cells?_some hc
      rw [hs] at hcl hcg
      refine ⟨b, hb, fun j hj => ?_⟩
      have h2 := hcg j hj
      have hv : cs'[j]? = some (cs'[j]'(by omega)) := List.getElem?_eq_getElem (by omega)
      refine ⟨cs'[j]'(by omega), ?_, fun c hcj => (hcr.2 j c _ hcj hv).1, ?_⟩
      · rw [← hv, ← h2]
        congr 1
        unfold Addr.add
        by_cases c1 : i * s = 0
        · rw [if_pos c1, c1, Nat.zero_add]
        · rw [if_neg c1, if_neg (by omega)]
          by_cases c2 : j = 0
          · rw [if_pos c2, c2]; simp
          · rw [if_neg c2]; simp [Nat.add_assoc]
      · have hc0 : (enc' b)[j]? = some ((enc' b)[j]'(by rw [hlen]; exact hj)) := List.getElem?_eq_getElem _
        exact (hcr.2 j _ _ hc0 hv).2
    obtain ⟨as, has, hall⟩ := exists_list (fun i (_ : Unit) (b : α) => i < len → G b ∧ ∀ j, j < s → ∃ v, W.cell? (a.add (i * s + j)) = some v ∧ (∀ c, (enc' b)[j]? = some c → VRel W (env0 W) c v) ∧ v.oneCell' = true)
      (List.replicate len ()) 0 (fun i u hu => by
        have hi : i < len := by have := (List.getElem?_eq_some_iff.1 hu).1; simpa using this
        obtain ⟨b, h1, h2⟩ := each i hi
        exact ⟨b, fun _ => by rw [Nat.zero_add]; exact ⟨h1, h2⟩⟩)
    have hasl : as.length = len := by rw [has]; simp
    have hget : ∀ i (hi : i < as.length), G as[i] ∧ ∀ j, j < s → ∃ v, W.cell? (a.add (i * s + j)) = some v ∧ (∀ c, (enc' as[i])[j]? = some c → VRel W (env0 W) c v) ∧ v.oneCell' = true := by
      intro i hi
      have := hall i () as[i] (by rw [List.getElem?_replicate, if_pos (by omega)]) (List.getElem?_eq_getElem hi)
      have h0 : 0 + i = i := Nat.zero_add i
      rw [h0] at this
      exact this (by omega)
    refine ⟨[.view false (as.flatMap enc') as.length], .one ?_ rfl, as, ⟨fun b hb => ?_, by omega⟩, rfl⟩
    · by_cases h0 : len = 0
      · rw [hasl, h0]; exact .view0 _ _ _ _ hm
      · -- the address
        obtain ⟨v0, hv0, _⟩ := (hget 0 (by omega)).2 0 hpos
        obtain ⟨b, off, spot⟩ := a
        have hspot : spot = none := by simpa [Addr.add] using World.cell?_spot hv0
        subst hspot
        have hblk : b < W.heap.size := by simpa [Addr.add] using World.block_lt_of_cell? W _ hv0
        have hcell : ∀ (j : Nat) c, (as.flatMap enc')[j]? = some c → ∃ v, W.cell? ⟨b, off + j, none⟩ = some v ∧ VRel W (env0 W) c v ∧ v.oneCell' = true := by
          intro j c hc
          have hj := (List.getElem?_eq_some_iff.1 hc).1
          rw [cat_length hlen] at hj
          have hi : j / s < as.length := Nat.div_lt_of_lt_mul (by rw [Nat.mul_comm]; exact hj)
          have hjs : j % s < s := Nat.mod_lt _ hpos
          have e : j / s * s + j % s = j := by rw [Nat.mul_comm]; exact Nat.div_add_mod j s
          have hc' := cat_get hlen hi hjs
          rw [e, hc] at hc'
          obtain ⟨v, g1, g2, g3⟩ := (hget _ hi).2 _ hjs
          rw [e, add_none] at g1
          exact ⟨v, g1, g2 c hc'.symm, g3⟩
        have hu : ∀ (j : Nat) c, (as.flatMap enc')[j]? = some c → W.cell? ⟨b, off + j, none⟩ = some ((W.cell? ⟨b, off + j, none⟩).getD undef) := fun j c hc => by
          obtain ⟨v, g1, _⟩ := hcell j c hc
          rw [g1]; rfl
        rw [← hasl] at hl ⊢
        refine .view false (as.flatMap enc') as.length b off cap (by omega) hm hblk (fun e => by cases e) (env0_live W b) (fun j => (W.cell? ⟨b, off + j, none⟩).getD undef) hu (fun j c hc => ?_) (fun j c hc => ?_)
        · obtain ⟨v, g1, _, g3⟩ := hcell j c hc
          rw [g1]; exact g3
        · obtain ⟨v, g1, g2, _⟩ := hcell j c hc
          rw [g1]
          exact g2.later (E' := (env0 W).pure) (w' := W) ⟨fun r x h => (by cases h), Nat.le_refl _, fun _ _ h => h, Nat.le_refl _, fun _ _ _ => rfl⟩
    · obtain ⟨i, hi, rfl⟩ := List.getElem_of_mem hb
      exact (hget i hi).1

/-- An argument of a type. -/
structure ArgOk (P : Program) (t : TypeId) (S : AV → Prop) : Prop where
  op : ∀ {H : Type} {enc : TypeId × Value → H} {W : World} {b : Nat} {v : Value} {d : DataW H} {p : List MemPlace}, Value.okWide P W .any b t v → DataW.Trod enc P W 0 (fun _ => true) true t v d p → ∃ a, S a ∧ VRel W (env0 W) a v
theorem argOk_struct {fs : Array Field} {S : List AV → Prop} (ht : P.underlying t = some (.struct fs)) (ho : Opens P t S) : ArgOk P t fun a => ∃ l, S l ∧ a = .agg l := .mk fun {H enc W b v d p} hok h => by
  simp only [Value.okWide, ht] at hok
  obtain ⟨cs, rfl, _, _⟩ := hok
  obtain ⟨fuel, hx⟩ := h
  obtain ⟨l, hcr, hs⟩ := ho.op hx
  have hcs : (Value.agg cs).cells.toList = cs.toList := rfl
  rw [hcs] at hcr
  refine ⟨.agg l, ⟨l, hs, rfl⟩, .agg l cs (by simpa using hcr.1) (fun i v hv => ?_) (fun i a v ha hv => (hcr.2 i a v ha (by simpa using hv)).1)⟩
  have hi : i < l.length := by rw [hcr.1]; simpa using (Array.getElem?_eq_some_iff.1 hv).1
  exact (hcr.2 i l[i] v (List.getElem?_eq_getElem hi) (by simpa using hv)).2
theorem argOk_one {S : AV → Prop} (ht : ∀ fs, P.underlying t ≠ some (.struct fs)) (ht' : ∀ n e, P.underlying t ≠ some (.array n e)) (ho : Opens P t fun l => ∃ a, S a ∧ l = [a]) : ArgOk P t S := .mk fun {H enc W b v d p} hok h => by
  obtain ⟨fuel, hx⟩ := h
  obtain ⟨l, hcr, a, hs, rfl⟩ := ho.op hx
  have hcs : v.cells.toList = [v] := by
    cases v <;> try rfl
    rename_i cs
    exfalso
    unfold Value.okWide at hok
    split at hok
    · rename_i fs he; exact ht _ he
    · rename_i n e he; exact ht' _ _ he
    · unfold Cell.okWide Cell.ok at hok
      split at hok <;> simp_all
  rw [hcs] at hcr
  exact ⟨a, hs, (hcr.2 0 a v rfl rfl).1⟩

def SAll : List (AV → Prop) → List AV → Prop
  | [], l => l = []
  | S :: Ss, l => ∃ a l', S a ∧ SAll Ss l' ∧ l = a :: l'
def AllA (P : Program) : List TypeId → List (AV → Prop) → Prop
  | [], [] => True
  | t :: ts, S :: Ss => ArgOk P t S ∧ AllA P ts Ss
  | _, _ => False
theorem args_open {H : Type} {enc : TypeId × Value → H} {W : World} {b : Nat} : ∀ {ts : List TypeId} {Ss : List (AV → Prop)} {vs : List Value} {ds : List (DataW H)} {p : List MemPlace}, AllA P ts Ss →
    (∀ (j : Nat) t v, ts[j]? = some t → vs[j]? = some v → Value.okWide P W .any b t v) → DataW.TrodAll enc P W 0 (fun _ => true) true ts vs ds p →
    ∃ avs, SAll Ss avs ∧ avs.length = vs.length ∧ ∀ (i : Nat) a v, avs[i]? = some a → vs[i]? = some v → VRel W (env0 W) a v
  | [], [], [], [], _, _, _, _ => ⟨[], rfl, rfl, fun i a v h => by simp at h⟩
  | t :: ts, S :: Ss, v :: vs, d :: ds, p, ha, hok, h => by
    obtain ⟨p1, q, h1, h2, rfl⟩ := h
    obtain ⟨a, hs, hr⟩ := ha.1.op (hok 0 t v rfl rfl) h1
    obtain ⟨avs, k1, k2, k3⟩ := args_open ha.2 (fun j t' v' ht hv => hok (j + 1) t' v' (by simpa using ht) (by simpa using hv)) h2
    refine ⟨a :: avs, ⟨a, avs, hs, k1, rfl⟩, by simp [k2], fun i a' v' h3 h4 => ?_⟩
    cases i with
    | zero => simp at h3 h4; subst h3; subst h4; exact hr
    | succ i => exact k3 i a' v' (by simpa using h3) (by simpa using h4)
  | [], _ :: _, _, _, _, h, _, _ => h.elim
  | _ :: _, [], _, _, _, h, _, _ => h.elim
  | [], [], _ :: _, _, _, _, _, h => by cases ‹List (DataW H)› <;> exact h.elim
  | [], [], [], _ :: _, _, _, _, h => h.elim
  | _ :: _, _ :: _, [], _, _, _, _, h => by cases ‹List (DataW H)› <;> exact h.elim
  | _ :: _, _ :: _, _ :: _, [], _, _, _, h => h.elim
end
end Go.Awp
