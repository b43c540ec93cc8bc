/- Statements whose order Go leaves open: where operations that may come in either order don't touch what the other one writes, the state behind them is the one of the text's order. -/
import Derived.Test.YtfadcigdmddndaaDoorShM
import Derived.Orders
set_option linter.unusedVariables false
set_option linter.unusedSimpArgs false
namespace Go.SH

/-! ### Memory as a function -/
section
variable {Loc Val : Type} [DecidableEq Loc]

def alook : List (Loc × Val) → Loc → Option Val
  | [], _ => none
  | (k, v) :: r, l => if k = l then some v else alook r l

variable (W : Nat → List (Loc × Val))

def exm (m : Loc → Val) (i : Nat) : Loc → Val := fun l => match alook (W i) l with | some v => v | none => m l

def runm (m0 : Loc → Val) (S : Nat → Bool) : Nat → Loc → Val
  | 0 => m0
  | k + 1 => if S k then exm W (runm m0 S k) k else runm m0 S k

theorem runm_congr {m0 : Loc → Val} {S S' : Nat → Bool} {l : Loc} : ∀ (k : Nat), (∀ i, i < k → (alook (W i) l).isSome = true → S i = S' i) → runm W m0 S k l = runm W m0 S' k l
  | 0, _ => rfl
  | k + 1, h => by
    have ih := runm_congr (m0 := m0) k fun i hi hw => h i (by omega) hw
    simp only [runm]
    cases hw : alook (W k) l with
    | none =>
      by_cases h1 : S k = true <;> by_cases h2 : S' k = true <;> simp [h1, h2, exm, hw, ih]
    | some v =>
      have := h k (by omega) (by rw [hw]; rfl)
      by_cases h1 : S k = true
      · have h2 : S' k = true := by rw [← this]; exact h1
        simp [h1, h2, exm, hw]
      · have h2 : ¬ S' k = true := by rw [← this]; exact h1
        simp [h1, h2, ih]

theorem runm_stop {m0 : Loc → Val} {S : Nat → Bool} {l : Loc} {i : Nat} : ∀ (k : Nat), i ≤ k → (∀ j, i ≤ j → j < k → (alook (W j) l).isSome = true → S j = false) → runm W m0 S k l = runm W m0 S i l
  | 0, hi, _ => by have : i = 0 := by omega
                   subst this; rfl
  | k + 1, hi, h => by
    by_cases he : i = k + 1
    · subst he; rfl
    · have ih := runm_stop (m0 := m0) k (by omega) fun j h1 h2 hw => h j h1 (by omega) hw
      simp only [runm]
      cases hw : alook (W k) l with
      | none =>
        by_cases h1 : S k = true
        · simp [h1, exm, hw, ih]
        · simp [h1, ih]
      | some v =>
        have := h k (by omega) (by omega) (by rw [hw]; rfl)
        simp [this, ih]
end

/-! ### Slots and blocks -/
inductive Vl where
  | s (x : Option PV)
  | b (y : Option (Option (List PV)))

abbrev Lc := Nat ⊕ Nat

def memOf (al : Al) (L : Lb) : Lc → Vl
  | .inl t => .s (lget al t)
  | .inr l => .b (lget L l)

/-- What is known of an operation: its slots, its blocks, what it gives and makes; whether it runs. -/
structure Fp where
  ra : Al
  rl : Lb
  x : PV
  wl : Lb
  run : Bool := true
  gd : Bool := false

/-- The slots that are looked at, those of the guard too. -/
def gslot (ops : Array Oper) (o : Oper) : Option Nat := match o.guard with
  | some (j, _) => (ops[j]?).bind (·.dst)
  | none => none
def gval (o : Oper) (run gd : Bool) : PV := match o.guard with
  | some (_, want) => if gd then .dead else .bool (if run then want else !want)
  | none => .dead

def fnew (f : Fp) : List Nat := (f.wl.filter fun p => (lget f.rl p.1).isNone).map (·.1)

def fpR (ops : Array Oper) (o : Oper) (f : Fp) : List (Lc × Vl) :=
  (match gslot ops o with | some d => [(Sum.inl d, Vl.s (some (gval o f.run f.gd)))] | none => []) ++
  (if f.run then f.ra.map (fun p => (Sum.inl p.1, Vl.s (some p.2))) ++ f.rl.map (fun p => (Sum.inr p.1, Vl.b (some p.2))) ++ (fnew f).map (fun l => (Sum.inr l, Vl.b none)) else [])

def fpW (o : Oper) (f : Fp) : List (Lc × Vl) :=
  (match o.dst with | some d => [(Sum.inl d, Vl.s (some (if f.run then f.x else .dead)))] | none => []) ++
  (if f.run then f.wl.map (fun p => (Sum.inr p.1, Vl.b (some p.2))) else [])

/-- The guard of an operation, as far as its slot tells. -/
def guardOK (ops : Array Oper) (o : Oper) (f : Fp) : Bool := match o.guard with
  | some _ => (gslot ops o).isSome && (!f.gd || !f.run)
  | none => f.run

def edgesOf (o : Oper) : List Nat := (o.after.toList.filter (Region.binds .any)).map (·.on)

def befs (ops : Array Oper) : Nat → Nat → List Nat
  | 0, _ => []
  | k + 1, j => match ops[j]? with
    | some o => edgesOf o ++ (edgesOf o).flatMap (befs ops k)
    | none => []

def clash (a b : List Lc) : Bool := a.any fun x => b.any fun y => decide (x = y)

/-- Operations that meet are ordered. -/
def indep (ops : Array Oper) (fs : List Fp) : Bool :=
  let n := ops.size
  let Rl := (List.range n).map fun i => match ops[i]?, fs[i]? with | some o, some f => (fpR ops o f).map (·.1) | _, _ => []
  let Wl := (List.range n).map fun i => match ops[i]?, fs[i]? with | some o, some f => (fpW o f).map (·.1) | _, _ => []
  (List.range n).all fun j => (List.range j).all fun i =>
    (befs ops n j).contains i || !(clash (Wl.getD i []) (Rl.getD j [] ++ Wl.getD j []) || clash (Wl.getD j []) (Rl.getD i []))

def edgesOK (ops : Array Oper) : Bool := (List.range ops.size).all fun j => match ops[j]? with
  | some o => (edgesOf o).all fun i => decide (i < j)
  | none => true


/-! ### The text's order -/
def stepAl (o : Oper) (f : Fp) (al : Al) : Al := oset o.dst (if f.run then f.x else .dead) al
def stepL (f : Fp) (L : Lb) : Lb := if f.run then lupd L f.wl else L

def textVals (ops : Array Oper) : List Oper → List Fp → Al → Lb → List (List Vl)
  | o :: os, f :: fs, al, L => (fpR ops o f).map (fun p => memOf al L p.1) :: textVals ops os fs (stepAl o f al) (stepL f L)
  | _, _, _, _ => []

def textWant (ops : Array Oper) : List Oper → List Fp → List (List Vl)
  | o :: os, f :: fs => (fpR ops o f).map (·.2) :: textWant ops os fs
  | _, _ => []

def textAl : List Oper → List Fp → Al → Al
  | o :: os, f :: fs, al => textAl os fs (stepAl o f al)
  | _, _, al => al
def textL : List Oper → List Fp → Lb → Lb
  | _ :: os, f :: fs, L => textL os fs (stepL f L)
  | _, _, L => L

def nodupK (wl : Lb) : Bool := match wl with
  | [] => true
  | (k, _) :: r => (lget r k).isNone && nodupK r

theorem lget_lupd : ∀ (wl : Lb) (L : Lb) (l : Nat), nodupK wl = true → lget (lupd L wl) l = match lget wl l with | some y => some y | none => lget L l
  | [], L, l, _ => rfl
  | (k, y) :: r, L, l, h => by
    simp [nodupK] at h
    show lget (lupd (lset L k y) r) l = _
    rw [lget_lupd r _ l h.2]
    simp only [lget, lget_lset]
    by_cases hk : k = l
    · subst hk
      rw [h.1]; simp
    · simp [hk]

theorem alook_append {Loc Val : Type} [DecidableEq Loc] (a b : List (Loc × Val)) (l : Loc) : alook (a ++ b) l = match alook a l with | some v => some v | none => alook b l := by
  induction a with
  | nil => rfl
  | cons p r ih =>
    obtain ⟨k, v⟩ := p
    simp only [List.cons_append, alook]
    split
    · rfl
    · exact ih

theorem alook_inl (wl : Lb) (t : Nat) : alook (wl.map fun p => ((Sum.inr p.1 : Lc), Vl.b (some p.2))) (.inl t) = none := by
  induction wl with
  | nil => rfl
  | cons p r ih => simp [alook, ih]
theorem alook_inr (wl : Lb) (l : Nat) : alook (wl.map fun p => ((Sum.inr p.1 : Lc), Vl.b (some p.2))) (.inr l) = (lget wl l).map fun y => Vl.b (some y) := by
  induction wl with
  | nil => rfl
  | cons p r ih =>
    obtain ⟨k, y⟩ := p
    simp only [List.map_cons, alook, lget, ih]
    by_cases h : k = l <;> simp [h]

theorem mem_step (o : Oper) (f : Fp) (al : Al) (L : Lb) (hnd : nodupK f.wl = true) (l : Lc) :
    memOf (stepAl o f al) (stepL f L) l = match alook (fpW o f) l with | some v => v | none => memOf al L l := by
  unfold fpW stepAl stepL
  rw [alook_append]
  cases l with
  | inl t =>
    cases hd : o.dst with
    | none =>
      by_cases hr : f.run = true
      · simp [hr, alook, alook_inl, oset, memOf]
      · simp [hr, alook, oset, memOf]
    | some d =>
      by_cases ht : d = t
      · subst ht; by_cases hr : f.run = true <;> simp [hr, alook, oset, memOf, lget]
      · by_cases hr : f.run = true
        · simp [hr, alook, alook_inl, oset, memOf, lget, ht]
        · simp [hr, alook, oset, memOf, lget, ht]
  | inr l =>
    have hn : alook (match o.dst with | some d => [((Sum.inl d : Lc), Vl.s (some (if f.run then f.x else .dead)))] | none => []) (.inr l) = none := by
      cases o.dst <;> simp [alook]
    rw [hn]
    by_cases hr : f.run = true
    · simp only [hr, if_true, alook_inr, memOf]
      rw [lget_lupd _ _ _ hnd]
      cases lget f.wl l <;> rfl
    · simp [hr, alook, memOf]

theorem text_run (ops : Array Oper) (W : Nat → List (Lc × Vl)) : ∀ (os : List Oper) (fs : List Fp) (al : Al) (L : Lb) (k : Nat) (m : Lc → Vl), (∀ j o f, os[j]? = some o → fs[j]? = some f → W (k + j) = fpW o f ∧ nodupK f.wl = true) →
    os.length = fs.length → (∀ l, memOf al L l = runm W m (fun _ => true) k l) → textVals ops os fs al L = textWant ops os fs →
    (∀ j o f, os[j]? = some o → fs[j]? = some f → ∀ p ∈ fpR ops o f, runm W m (fun _ => true) (k + j) p.1 = p.2) ∧ ∀ l, memOf (textAl os fs al) (textL os fs L) l = runm W m (fun _ => true) (k + os.length) l
  | [], [], al, L, k, m, _, _, hm, _ => ⟨by simp, hm⟩
  | o :: os, f :: fs, al, L, k, m, hW, hl, hm, ht => by
    simp only [textVals, textWant, List.cons.injEq] at ht
    obtain ⟨h1, h2⟩ := ht
    obtain ⟨w1, w2⟩ := hW 0 o f rfl rfl
    have hm' : ∀ l, memOf (stepAl o f al) (stepL f L) l = runm W m (fun _ => true) (k + 1) l := by
      intro l
      rw [mem_step o f al L w2]
      simp only [runm, if_true, exm]
      rw [Nat.add_zero] at w1
      rw [w1, hm l]
      cases alook (fpW o f) l <;> rfl
    obtain ⟨i1, i2⟩ := text_run ops W os fs (stepAl o f al) (stepL f L) (k + 1) m (fun j o' f' ho hf => by
      have := hW (j + 1) o' f' (by simpa using ho) (by simpa using hf)
      rw [show k + 1 + j = k + (j + 1) from by omega]; exact this) (by simpa using hl) hm' h2
    refine ⟨fun j o' f' ho hf p hp => ?_, fun l => ?_⟩
    · cases j with
      | zero =>
        simp at ho hf; subst ho; subst hf
        have : ((fpR ops o f).map fun p => memOf al L p.1) = (fpR ops o f).map (·.2) := h1
        have hp2 := List.map_inj_left.1 this p hp
        rw [Nat.add_zero, ← hm]; exact hp2
      | succ j =>
        have := i1 j o' f' (by simpa using ho) (by simpa using hf) p hp
        rw [show k + (j + 1) = k + 1 + j from by omega]; exact this
    · have := i2 l
      simp only [textAl, textL, List.length_cons]
      rw [show k + (os.length + 1) = k + 1 + os.length from by omega]; exact this

theorem Rel.drew {E : Env} {A : Nat → Prop} {w : World} {σ : Sig} {al : Al} {L : Lb} {a : Act} (r : Rel E A w σ al L a) : Rel E A w.drew σ al L a ∧ Grow top w σ L w.drew σ L := by
  have hg : Grow top w σ L w.drew σ L := ⟨Nat.le_refl _, fun _ _ _ h => h, fun _ _ hn => ⟨hn, rfl⟩, rfl, rfl, rfl⟩
  refine ⟨r.grow ⟨?_, r.blocks.inj, r.blocks.dom, r.blocks.lo⟩ hg, hg⟩
  intro l cells hl
  rcases r.blocks.all l cells hl with h | ⟨β, add, size, c, T, fr, hB⟩
  · exact .inl h
  · exact .inr ⟨β, add, size, c, T, fr, ⟨hB.sig, hB.heap, hB.hsz, hB.fits, fun i x hx => let ⟨v, h1, h2⟩ := hB.vals i x hx; ⟨v, h1, h2.grow hg⟩, hB.frs⟩⟩

theorem mem_of_lget {α : Type} {L : List (Nat × α)} {l : Nat} {y : α} (h : lget L l = some y) : (l, y) ∈ L := by
  induction L with
  | nil => simp [lget] at h
  | cons p r ih =>
    obtain ⟨k, x⟩ := p
    simp only [lget] at h
    split at h
    · rename_i hk; subst hk; simp at h; subst h; simp
    · exact List.mem_cons_of_mem _ (ih h)

theorem befs_closed {ops : Array Oper} {S : Nat → Bool} (hS : ∀ j o, ops[j]? = some o → S j = true → ∀ i ∈ edgesOf o, S i = true) : ∀ (k j i : Nat), S j = true → i ∈ befs ops k j → S i = true
  | 0, j, i, _, h => by simp [befs] at h
  | k + 1, j, i, hj, h => by
    simp only [befs] at h
    split at h
    · rename_i o ho
      rw [List.mem_append, List.mem_flatMap] at h
      rcases h with h | ⟨x, h1, h2⟩
      · exact hS j o ho hj i h
      · exact befs_closed hS k x i (hS j o ho hj x h1) h2
    · simp at h

theorem isSome_alook {Loc Val : Type} [DecidableEq Loc] {a : List (Loc × Val)} {l : Loc} (h : (alook a l).isSome = true) : l ∈ a.map (·.1) := by
  induction a with
  | nil => simp [alook] at h
  | cons p r ih =>
    obtain ⟨k, v⟩ := p
    simp only [alook] at h
    by_cases hk : k = l
    · simp [hk]
    · rw [if_neg hk] at h; simp only [List.map_cons, List.mem_cons]; exact .inr (ih h)

theorem clash_of {a b : List Lc} {l : Lc} (h1 : l ∈ a) (h2 : l ∈ b) : clash a b = true := by
  simp only [clash, List.any_eq_true]
  exact ⟨l, h1, l, h2, by simp⟩

section
variable {E : Env} {K : Nat → Prop} {n : Nat} {al : Al} {L : Lb} {Q : Exit → Al → Lb → Prop}

theorem AW_draw {id : Nat} {ops : Array Oper} (hm : E.P.follows .mixedOrders = true) (fs : List Fp) (hlen : fs.length = ops.size)
    (hop : ∀ (i : Nat) (o : Oper) (f : Fp), ops[i]? = some o → fs[i]? = some f → f.run = true → AOp E o f.ra f.rl f.x f.wl)
    (hgo : ∀ (i : Nat) (o : Oper) (f : Fp), ops[i]? = some o → fs[i]? = some f → guardOK ops o f = true ∧ nodupK f.wl = true ∧ ∀ t, o.dst = some t → t < n)
    (hedge : edgesOK ops = true) (hind : indep ops fs = true) (htext : textVals ops ops.toList fs al L = textWant ops ops.toList fs)
    (hQ : ∀ al' L', (∀ t, lget al' t = lget (textAl ops.toList fs al) t) → (∀ l, lget L' l = lget (textL ops.toList fs L) l) → Q .normal al' L') :
    AW E K n (.region id ops true) Q al L := by
  intro A w0 σ0 a0 r0 t0
  refine wp_region_any hm ?_
  let W : Nat → List (Lc × Vl) := fun i => match ops[i]?, fs[i]? with | some o, some f => fpW o f | _, _ => []
  have hget : ∀ i, i < ops.size → ∃ o f, ops[i]? = some o ∧ fs[i]? = some f := fun i hi => ⟨ops[i], fs[i], by simp [hi], by simp [hlen, hi]⟩
  have hW : ∀ (i : Nat) (o : Oper) (f : Fp), ops[i]? = some o → fs[i]? = some f → W i = fpW o f := fun i o f h1 h2 => by simp [W, h1, h2]
  obtain ⟨tx1, tx2⟩ := text_run ops W ops.toList fs al L 0 (memOf al L) (fun j o f ho hf => by
    simp at ho
    exact ⟨by rw [Nat.zero_add]; exact hW j o f ho hf, (hgo j o f ho hf).2.1⟩) (by simp [hlen]) (fun l => rfl) htext
  simp only [Nat.zero_add, Array.getElem?_toList, Array.length_toList] at tx1 tx2
  -- operations that meet
  have meet : ∀ (i j : Nat) (o : Oper) (f : Fp) (o' : Oper) (f' : Fp) (l : Lc), i < j → j < ops.size → ops[i]? = some o → fs[i]? = some f → ops[j]? = some o' → fs[j]? = some f' →
      ((l ∈ (fpW o f).map (·.1) ∧ (l ∈ (fpR ops o' f').map (·.1) ∨ l ∈ (fpW o' f').map (·.1))) ∨ (l ∈ (fpW o' f').map (·.1) ∧ l ∈ (fpR ops o f).map (·.1))) → i ∈ befs ops ops.size j := by
    intro i j o f o' f' l hij hj h1 h2 h3 h4 hl
    have hh := List.all_eq_true.1 (List.all_eq_true.1 hind j (List.mem_range.2 hj)) i (List.mem_range.2 hij)
    have hi : i < ops.size := by omega
    simp only [List.getD_eq_getElem?_getD, List.getElem?_map, List.getElem?_range hi, List.getElem?_range hj, Option.map_some, Option.getD_some, h1, h2, h3, h4] at hh
    simp only [Bool.or_eq_true, List.contains_iff_mem] at hh
    rcases hh with hh | hh
    · simpa using hh
    · exfalso
      simp at hh
      rcases hl with ⟨e1, e2⟩ | ⟨e1, e2⟩
      · have := clash_of e1 (List.mem_append.2 e2)
        rw [hh.1] at this; simp at this
      · have := clash_of e1 e2
        rw [hh.2] at this; simp at this
  obtain ⟨rd, gd⟩ := r0.drew
  have main : ∀ (fuel : Nat) (ld : Array Bool) (w : World) (a : Act) (alc : Al) (Lc' : Lb) (σ : Sig), ld.size = ops.size → ((List.range ops.size).filter fun i => !ld.getD i true).length = fuel →
      (∀ j o, ops[j]? = some o → ld.getD j true = true → ∀ i ∈ edgesOf o, ld.getD i true = true) → Rel E A w σ alc Lc' a → a.tmps.size = n → Grow K w0 σ0 L w σ Lc' →
      (∀ l, memOf alc Lc' l = runm W (memOf al L) (fun i => ld.getD i true) ops.size l) → wpAny E.P .any ops (Post E K A w0 σ0 L n Q) fuel ld a w := by
    intro fuel
    induction fuel with
    | zero =>
      intro ld w a alc Lc' σ hs hcnt hcl r t g hmem
      have hall : ∀ i, i < ops.size → ld.getD i true = true := by
        intro i hi
        have h0 := List.eq_nil_of_length_eq_zero hcnt
        cases hx : ld.getD i true with
        | true => rfl
        | false =>
          have : i ∈ (List.range ops.size).filter fun i => !ld.getD i true := List.mem_filter.2 ⟨List.mem_range.2 hi, by simp only [hx]; rfl⟩
          rw [h0] at this; simp at this
      refine ⟨?_, alc, Lc', σ, hQ alc Lc' ?_ ?_, r, g, t⟩
      · unfold Region.ready
        rw [List.filter_eq_nil_iff]
        intro i hi
        have := hall i (List.mem_range.1 hi)
        simp only [this]; simp
      all_goals
        intro x
        have e1 : ∀ l, runm W (memOf al L) (fun i => ld.getD i true) ops.size l = runm W (memOf al L) (fun _ => true) ops.size l := fun l => runm_congr W ops.size (fun i hi _ => hall i hi)
      · have := hmem (.inl x); rw [e1, ← tx2] at this; simpa [memOf] using this
      · have := hmem (.inr x); rw [e1, ← tx2] at this; simpa [memOf] using this
    | succ fuel ih =>
      intro ld w a alc Lc' σ hs hcnt hcl r t g hmem
      refine ⟨fun hready => ?_, fun i hi => ?_⟩
      · -- nothing is ready: nothing is left
        exfalso
        have hex : ∃ i, i < ops.size ∧ ld.getD i true = false := by
          cases hf : (List.range ops.size).filter fun i => !ld.getD i true with
          | nil => rw [hf] at hcnt; simp at hcnt
          | cons i r =>
            have : i ∈ (List.range ops.size).filter fun i => !ld.getD i true := by rw [hf]; simp
            rw [List.mem_filter] at this
            exact ⟨i, List.mem_range.1 this.1, by simpa using this.2⟩
        have hleast : ∀ k, (∃ i, i < k ∧ i < ops.size ∧ ld.getD i true = false) → ∃ i, i < ops.size ∧ ld.getD i true = false ∧ ∀ j, j < i → j < ops.size → ld.getD j true = true := by
          intro k
          induction k with
          | zero => rintro ⟨i, h, _⟩; omega
          | succ k ihk =>
            intro ⟨i, h1, h2, h3⟩
            by_cases hlow : ∃ i, i < k ∧ i < ops.size ∧ ld.getD i true = false
            · exact ihk hlow
            · refine ⟨i, h2, h3, fun j hj hjs => ?_⟩
              cases hx : ld.getD j true with
              | true => rfl
              | false => exact absurd ⟨j, by omega, hjs, hx⟩ hlow
        obtain ⟨i0, h10, h20⟩ := hex
        obtain ⟨i, h1, h2, h3⟩ := hleast (i0 + 1) ⟨i0, by omega, h10, h20⟩
        have hin : i ∈ Region.ready .any ops ld := by
          unfold Region.ready
          refine List.mem_filter.2 ⟨List.mem_range.2 h1, ?_⟩
          obtain ⟨o, f, ho, hf⟩ := hget i h1
          simp only [h2, ho, Option.map_some, Option.getD_some, Bool.not_false, Bool.true_and]
          rw [Array.all_eq_true_iff_forall_mem]
          intro e he
          by_cases hb : Region.binds .any e = true
          · have hem : e.on ∈ edgesOf o := List.mem_map.2 ⟨e, List.mem_filter.2 ⟨by simpa using he, hb⟩, rfl⟩
            have hlt := List.all_eq_true.1 hedge i (List.mem_range.2 h1)
            simp only [ho] at hlt
            have := List.all_eq_true.1 hlt e.on hem
            simp at this
            have h4 := h3 e.on this (by omega)
            have h5 : ld.getD e.on false = true := by
              have hh : e.on < ld.size := by omega
              simp [Array.getD, hh] at h4 ⊢; exact h4
            simp [h5]
          · simp [hb]
        rw [hready] at hin; simp at hin
      · -- one that is ready
        unfold Region.ready at hi
        rw [List.mem_filter] at hi
        obtain ⟨hi1, hi2⟩ := hi
        have hlt := List.mem_range.1 hi1
        obtain ⟨o, f, ho, hf⟩ := hget i hlt
        simp only [ho, Option.map_some, Option.getD_some, Bool.and_eq_true, Bool.not_eq_true'] at hi2
        obtain ⟨hni, hpre⟩ := hi2
        have hil : i < ld.size := by omega
        have hSi : ld.getD i true = false := hni
        have hpred : ∀ j ∈ edgesOf o, ld.getD j true = true := by
          intro j hj
          obtain ⟨e, he, rfl⟩ := List.mem_map.1 hj
          obtain ⟨he1, he2⟩ := List.mem_filter.1 he
          have := (Array.all_eq_true_iff_forall_mem.1 hpre) e (by simpa using he1)
          simp [he2] at this
          by_cases hh : e.on < ld.size
          · simp [Array.getD, hh] at this ⊢; exact this
          · simp [Array.getD, hh]
        have hbef : ∀ k j, j ∈ befs ops k i → ld.getD j true = true := by
          intro k j hj
          cases k with
          | zero => simp [befs] at hj
          | succ k =>
            simp only [befs, ho, List.mem_append, List.mem_flatMap] at hj
            rcases hj with h | ⟨x, h1, h2⟩
            · exact hpred j h
            · exact befs_closed (S := fun i => ld.getD i true) hcl k x j (hpred x h1) h2
        -- what it reads is as in the text's order
        have hrd : ∀ p ∈ fpR ops o f, memOf alc Lc' p.1 = p.2 := by
          intro p hp
          rw [hmem, ← tx1 i o f ho hf p hp]
          have e1 : runm W (memOf al L) (fun i => ld.getD i true) ops.size p.1 = runm W (memOf al L) (fun i => ld.getD i true) i p.1 := by
            refine runm_stop W ops.size (by omega) fun j h1 h2 hw => ?_
            cases hx : ld.getD j true with
            | false => rfl
            | true =>
              exfalso
              have hji : i ≠ j := by rintro rfl; rw [hSi] at hx; simp at hx
              obtain ⟨o', f', ho', hf'⟩ := hget j h2
              rw [hW j o' f' ho' hf'] at hw
              have hb := meet i j o f o' f' p.1 (by omega) h2 ho hf ho' hf' (.inr ⟨isSome_alook hw, List.mem_map_of_mem hp⟩)
              have := befs_closed (S := fun i => ld.getD i true) hcl _ j i hx hb
              rw [hSi] at this; simp at this
          rw [e1]
          refine runm_congr W i fun j hj hw => ?_
          obtain ⟨o', f', ho', hf'⟩ := hget j (by omega)
          rw [hW j o' f' ho' hf'] at hw
          have hb := meet j i o' f' o f p.1 hj hlt ho' hf' ho hf (.inl ⟨isSome_alook hw, .inl (List.mem_map_of_mem hp)⟩)
          exact hbef _ j hb
        -- the memory behind it
        have hnew : ∀ l, (match alook (fpW o f) l with | some v => v | none => memOf alc Lc' l) = runm W (memOf al L) (fun j => (ld.setIfInBounds i true).getD j true) ops.size l := by
          intro l
          have hdiff : ∀ j, j ≠ i → (ld.setIfInBounds i true).getD j true = ld.getD j true := by
            intro j hj
            simp only [Array.getD_eq_getD_getElem?]
            rw [Array.getElem?_setIfInBounds, if_neg (Ne.symm hj)]
          have hsame : (ld.setIfInBounds i true).getD i true = true := by
            simp [Array.getD_eq_getD_getElem?, hil]
          cases hw : alook (fpW o f) l with
          | none =>
            rw [hmem]
            refine runm_congr W ops.size fun j hj hwj => ?_
            by_cases hji : j = i
            · subst hji
              rw [hW j o f ho hf, hw] at hwj; simp at hwj
            · exact (hdiff j hji).symm
          | some v =>
            have e1 : runm W (memOf al L) (fun j => (ld.setIfInBounds i true).getD j true) ops.size l = runm W (memOf al L) (fun j => (ld.setIfInBounds i true).getD j true) (i + 1) l := by
              refine runm_stop W ops.size (by omega) fun j h1 h2 hwj => ?_
              rw [hdiff j (by omega)]
              cases hx : ld.getD j true with
              | false => rfl
              | true =>
                exfalso
                obtain ⟨o', f', ho', hf'⟩ := hget j h2
                rw [hW j o' f' ho' hf'] at hwj
                have hb := meet i j o f o' f' l (by omega) h2 ho hf ho' hf' (.inl ⟨isSome_alook (by rw [hw]; rfl), .inr (isSome_alook hwj)⟩)
                have := befs_closed (S := fun i => ld.getD i true) hcl _ j i hx hb
                rw [hSi] at this; simp at this
            rw [e1]
            simp only [runm, hsame, if_true, exm, hW i o f ho hf, hw]
        obtain ⟨g1, g2, g3⟩ := hgo i o f ho hf
        have hcnt' : ((List.range ops.size).filter fun j => !(ld.setIfInBounds i true).getD j true).length = fuel := by
          have hdiff : ∀ j, j ≠ i → (ld.setIfInBounds i true).getD j true = ld.getD j true := by
            intro j hj
            simp only [Array.getD_eq_getD_getElem?]
            rw [Array.getElem?_setIfInBounds, if_neg (Ne.symm hj)]
          have hsame : (ld.setIfInBounds i true).getD i true = true := by simp [Array.getD_eq_getD_getElem?, hil]
          have aux : ∀ (l : List Nat), l.Nodup → i ∈ l → (l.filter fun j => !(ld.setIfInBounds i true).getD j true).length + 1 = (l.filter fun j => !ld.getD j true).length := by
            intro l
            induction l with
            | nil => simp
            | cons x l ihl =>
              intro hnd hmem
              rw [List.nodup_cons] at hnd
              by_cases hx : x = i
              · subst hx
                have hrest : (l.filter fun j => !(ld.setIfInBounds x true).getD j true) = l.filter fun j => !ld.getD j true := by
                  apply List.filter_congr
                  intro y hy
                  rw [hdiff y (fun e => hnd.1 (e ▸ hy))]
                rw [List.filter_cons_of_neg (by simp [hsame]), List.filter_cons_of_pos (by simp [hSi]), hrest]
                simp
              · have hmem' : i ∈ l := by
                  rcases List.mem_cons.1 hmem with h | h
                  · exact absurd h.symm hx
                  · exact h
                have := ihl hnd.2 hmem'
                by_cases hb : ld.getD x true = true
                · rw [List.filter_cons_of_neg (by simp [hdiff x hx, hb]), List.filter_cons_of_neg (by simp [hb])]; exact this
                · rw [List.filter_cons_of_pos (by simp [hdiff x hx, hb]), List.filter_cons_of_pos (by simp [hb])]
                  simp only [List.length_cons]; omega
          have := aux (List.range ops.size) List.nodup_range hi1
          omega
        have hcl' : ∀ j o, ops[j]? = some o → (ld.setIfInBounds i true).getD j true = true → ∀ k ∈ edgesOf o, (ld.setIfInBounds i true).getD k true = true := by
          have up : ∀ k, ld.getD k true = true → (ld.setIfInBounds i true).getD k true = true := by
            intro k hk
            simp only [Array.getD_eq_getD_getElem?] at hk ⊢
            rw [Array.getElem?_setIfInBounds]
            by_cases hik : i = k
            · simp [hik]; split <;> rfl
            · rw [if_neg hik]; exact hk
          intro j o' ho' hj k hk
          by_cases hji : j = i
          · subst hji
            rw [ho] at ho'; simp at ho'; subst ho'
            exact up k (hpred k hk)
          · have hdiff : (ld.setIfInBounds i true).getD j true = ld.getD j true := by
              simp only [Array.getD_eq_getD_getElem?]
              rw [Array.getElem?_setIfInBounds, if_neg (Ne.symm hji)]
            rw [hdiff] at hj
            exact up k (hcl j o' ho' hj k hk)
        have hwants : wants ops alc o = some f.run := by
          unfold wants
          unfold guardOK at g1
          cases hg : o.guard with
          | none => rw [hg] at g1; simp at g1; simp [g1]
          | some jw =>
            obtain ⟨j, want⟩ := jw
            rw [hg] at g1
            simp only [gslot, hg] at g1
            cases hd : (ops[j]?).bind (·.dst) with
            | none => rw [hd] at g1; simp at g1
            | some d =>
              have := hrd (.inl d, .s (some (gval o f.run f.gd))) (by simp [fpR, gslot, hg, hd])
              simp only [memOf, Vl.s.injEq] at this
              simp only [hd, this, gval, hg]
              rw [hd] at g1
              revert g1
              cases f.gd <;> cases f.run <;> cases want <;> first | (intro _; rfl) | simp
        show wpOp E.P ops _ i _ a w
        unfold wpOp
        simp only [ho]
        by_cases hrun : f.run = true
        · rw [if_pos (wants_ok r (by rw [hwants, hrun]))]
          refine .inl (Oper_wp_mono (hop i o f ho hf hrun A w σ alc Lc' a r ?_ ?_ ?_) ?_ fun _ _ _ h => h.elim)
          · intro s y hy
            have := hrd (.inl s, .s (some y)) (by
              simp only [fpR, hrun, if_true, List.mem_append]
              exact .inr (.inl (.inl (List.mem_map.2 ⟨(s, y), mem_of_lget hy, rfl⟩))))
            simpa [memOf] using this
          · intro l y hy
            have := hrd (.inr l, .b (some y)) (by
              simp only [fpR, hrun, if_true, List.mem_append]
              exact .inr (.inl (.inr (List.mem_map.2 ⟨(l, y), mem_of_lget hy, rfl⟩))))
            simpa [memOf] using this
          · intro p hp
            by_cases hn : lget f.rl p.1 = none
            · refine .inr ?_
              have := hrd (.inr p.1, .b none) (by
                simp only [fpR, hrun, if_true, List.mem_append]
                refine .inr (.inr (List.mem_map.2 ⟨p.1, ?_, rfl⟩))
                exact List.mem_map.2 ⟨p, List.mem_filter.2 ⟨hp, by simp [hn]⟩, rfl⟩)
              simpa [memOf] using this
            · exact .inl hn
          · rintro a' w' ⟨σ', c, rfl, hv, hb, hgr⟩
            have r' := (r.grow hb hgr).put (d := o.dst) (fun u hu => by rw [t]; exact g3 u hu) hv
            refine ih (ld.setIfInBounds i true) w' _ (oset o.dst f.x alc) (lupd Lc' f.wl) σ' (by simpa using hs) hcnt' hcl' r' (by rw [size_put]; exact t) (g.trans (hgr.weaken fun _ _ => trivial)) fun l => ?_
            rw [← hnew l, ← mem_step o f alc Lc' g2 l]
            simp [stepAl, stepL, hrun]
        · have hrf : f.run = false := by simpa using hrun
          rw [if_neg (by rw [wants_ok r (by rw [hwants, hrf])]; simp)]
          have r' := r.put (d := o.dst) (x := .dead) (c := undef) (fun u hu => by rw [t]; exact g3 u hu) .dead
          refine ih (ld.setIfInBounds i true) w _ (oset o.dst .dead alc) Lc' σ (by simpa using hs) hcnt' hcl' r' (by rw [size_put]; exact t) g fun l => ?_
          rw [← hnew l, ← mem_step o f alc Lc' g2 l]
          simp [stepAl, stepL, hrf]
  refine main ops.size (Array.replicate ops.size false) _ a0 al L σ0 (by simp) ?_ ?_ rd t0 (gd.weaken fun _ _ => trivial) ?_
  · have : (List.range ops.size).filter (fun i => !(Array.replicate ops.size false).getD i true) = List.range ops.size := by
      rw [List.filter_eq_self]
      intro i hi
      have := List.mem_range.1 hi
      simp [Array.getD_eq_getD_getElem?, this]
    rw [this]; simp
  · intro j o ho hj i _
    exfalso
    have hj' : j < ops.size := (Array.getElem?_eq_some_iff.1 ho).1
    simp [Array.getD_eq_getD_getElem?, hj'] at hj
  · intro l
    have : runm W (memOf al L) (fun i => (Array.replicate ops.size false).getD i true) ops.size l = runm W (memOf al L) (fun i => (Array.replicate ops.size false).getD i true) 0 l := by
      refine runm_stop W ops.size (by omega) fun j _ hj _ => ?_
      simp [Array.getD_eq_getD_getElem?, hj]
    rw [this]; rfl
end
end Go.SH
