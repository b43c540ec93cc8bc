/- Walks that follow a function's plain twin: a Lean function with Option answers, 'none' where it does not say. -/
import Derived.Test.YtfadcigdmddndaaDoorShQ
set_option linter.unusedVariables false
set_option linter.unusedSimpArgs false
namespace Go.SH

/-! ### the plain side -/
theorem bind_some {α β : Type} {x : Option α} {f : α → Option β} {r : β} (h : x.bind f = some r) : ∃ v, x = some v ∧ f v = some r := by
  cases x with
  | none => simp at h
  | some v => exact ⟨v, rfl, h⟩
theorem map_some {α β : Type} {x : Option α} {f : α → β} {r : β} (h : x.map f = some r) : ∃ v, x = some v ∧ f v = r := by
  cases x with
  | none => simp at h
  | some v => exact ⟨v, rfl, by simpa using h⟩
theorem bif_t {α : Type} {c : Bool} {a b : Option α} {r : α} (hc : c = true) (h : (bif c then a else b) = some r) : a = some r := by subst hc; exact h
theorem bif_f {α : Type} {c : Bool} {a b : Option α} {r : α} (hc : c = false) (h : (bif c then a else b) = some r) : b = some r := by subst hc; exact h
/-- What must hold for the twin to say anything. -/
def req {α : Type} (c : Prop) [Decidable c] (x : Option α) : Option α := if c then x else none
theorem req_some {α : Type} {c : Prop} [Decidable c] {x : Option α} {r : α} (h : req c x = some r) : c ∧ x = some r := by
  unfold req at h; split at h
  · exact ⟨‹_›, h⟩
  · simp at h
theorem req_pos {α : Type} {c : Prop} [Decidable c] {x : Option α} (h : c) : req c x = x := if_pos h

def getI {α : Type} (l : List α) (i : Int) : Option α := if 0 ≤ i then l[i.toNat]? else none
theorem getI_some {α : Type} {l : List α} {i : Int} {x : α} (h : getI l i = some x) : 0 ≤ i ∧ i < l.length ∧ l[i.toNat]? = some x := by
  unfold getI at h
  split at h
  · have := (List.getElem?_eq_some_iff.1 h).1
    exact ⟨‹_›, by omega, h⟩
  · simp at h

inductive Iter {S R : Type} (step : S → Option (Sum R S)) : S → R → Prop where
  | done {s : S} {r : R} (h : step s = some (.inl r)) : Iter step s r
  | more {s s' : S} {r : R} (h : step s = some (.inr s')) (k : Iter step s' r) : Iter step s r

theorem Iter.det {S R : Type} {step : S → Option (Sum R S)} {s : S} {r r' : R} (h : Iter step s r) : Iter step s r' → r = r' := by
  induction h with
  | done h => intro h'; cases h' with
    | done h' => rw [h] at h'; simpa using h'
    | more h' => rw [h] at h'; simp at h'
  | more h _ ih => intro h'; cases h' with
    | done h' => rw [h] at h'; simp at h'
    | more h' k' => rw [h] at h'; simp at h'; subst h'; exact ih k'

open Classical in
/-- A loop: none where it never ends. -/
noncomputable def loopO {S R : Type} (step : S → Option (Sum R S)) (s : S) : Option R := if h : ∃ r, Iter step s r then some h.choose else none

theorem loopO_iff {S R : Type} {step : S → Option (Sum R S)} {s : S} {r : R} : loopO step s = some r ↔ Iter step s r := by
  unfold loopO
  split
  · rename_i h
    constructor
    · intro e; simp at e; rw [← e]; exact h.choose_spec
    · intro e; simp; exact h.choose_spec.det e
  · rename_i h
    constructor
    · simp
    · intro e; exact absurd ⟨r, e⟩ h

theorem loopO_eq {S R : Type} (step : S → Option (Sum R S)) (s : S) : loopO step s = match step s with | none => none | some (.inl r) => some r | some (.inr s') => loopO step s' := by
  cases hs : step s with
  | none =>
    cases h : loopO step s with
    | none => rfl
    | some r => rw [loopO_iff] at h; cases h with
      | done h => rw [h] at hs; simp at hs
      | more h => rw [h] at hs; simp at hs
  | some o =>
    cases o with
    | inl r => exact loopO_iff.2 (.done hs)
    | inr s' =>
      show loopO step s = loopO step s'
      cases h : loopO step s' with
      | none =>
        cases h2 : loopO step s with
        | none => rfl
        | some r => rw [loopO_iff] at h2; cases h2 with
          | done h2 => rw [h2] at hs; simp at hs
          | more h2 k => rw [h2] at hs; simp at hs; subst hs; rw [loopO_iff.2 k] at h; simp at h
      | some r => exact loopO_iff.2 (.more hs (loopO_iff.1 h))

/-! ### names of labels changed -/
inductive Ren (τ : Nat → Nat) (S : Nat → Bool) : PV → PV → Prop where
  | pure {x : PV} (h : pureV x = true) : Ren τ S x x
  | rw {l l' off n sz : Nat} {co : Option Nat} (h : S l' = true) (e : τ l' = l) : Ren τ S (.rw l off n sz co) (.rw l' off n sz co)
  | ptr {l l' off : Nat} (h : S l' = true) (e : τ l' = l) : Ren τ S (.ptr l off) (.ptr l' off)
  | agg {xs ys : List PV} (hl : xs.length = ys.length) (h : ∀ (i : Nat) (x y : PV), xs[i]? = some x → ys[i]? = some y → Ren τ S x y) : Ren τ S (.agg xs) (.agg ys)
  | tup {xs ys : List PV} (hl : xs.length = ys.length) (h : ∀ (i : Nat) (x y : PV), xs[i]? = some x → ys[i]? = some y → Ren τ S x y) : Ren τ S (.tup xs) (.tup ys)
  | fn {f : FuncId} {xs ys : List PV} (hl : xs.length = ys.length) (h : ∀ (i : Nat) (x y : PV), xs[i]? = some x → ys[i]? = some y → Ren τ S x y) : Ren τ S (.fn f xs) (.fn f ys)
  | iface {t : TypeId} {x y : PV} (h : Ren τ S x y) : Ren τ S (.iface t x) (.iface t y)
  | nilsRo : Ren τ S .nils (.ro [] 0 none)
  | nilsRw {l sz : Nat} (h : S l = true) : Ren τ S .nils (.rw l 0 0 sz none)
  | roCo {cells : List PV} {n : Nat} {co : Option Nat} (h : withinL (fun _ => false) cells = true) : Ren τ S (.ro cells n co) (.ro cells n none)
  | rwCo {l l' off n sz : Nat} {co : Option Nat} (h : S l' = true) (e : τ l' = l) : Ren τ S (.rw l off n sz co) (.rw l' off n sz none)

theorem lt_of_get {α β : Type} {xs : List α} {ys : List β} {i : Nat} {y : β} (hl : xs.length = ys.length) (hy : ys[i]? = some y) : i < xs.length := by
  rw [hl]; exact (List.getElem?_eq_some_iff.1 hy).1

theorem VR.ren {w : World} {σ σ1 : Sig} {av av1 : Nat → Prop} {τ : Nat → Nat} {S : Nat → Bool} (hS : ∀ l, S l = true → σ1 l = σ (τ l)) (hav : ∀ β, ¬ av β → ¬ av1 β) {x y : PV} (hr : Ren τ S x y) :
    ∀ {v : Value}, VR w σ av x v → VR w σ1 av1 y v := by
  induction hr with
  | pure h => intro v hv; exact hv.pure h hav
  | rw h e =>
    intro v hv; cases hv with
    | rwE a hc => exact .rwE a hc
    | rw hs hn hc hsz => exact .rw (by rw [hS _ h, e]; exact hs) hn hc hsz
  | ptr h e => intro v hv; cases hv with | ptr hs => exact .ptr (by rw [hS _ h, e]; exact hs)
  | agg hl _ ih =>
    intro v hv; cases hv with
    | agg cs hl2 hv => exact .agg cs (by omega) fun i y u hy hu => ih i _ y (List.getElem?_eq_getElem (lt_of_get hl hy)) hy (hv i _ u (List.getElem?_eq_getElem (lt_of_get hl hy)) hu)
  | tup hl _ ih =>
    intro v hv; cases hv with
    | tup cs hl2 hv => exact .tup cs (by omega) fun i y u hy hu => ih i _ y (List.getElem?_eq_getElem (lt_of_get hl hy)) hy (hv i _ u (List.getElem?_eq_getElem (lt_of_get hl hy)) hu)
  | fn hl _ ih =>
    intro v hv; cases hv with
    | fn f cs hl2 hv => exact .fn _ cs (by omega) fun i y u hy hu => ih i _ y (List.getElem?_eq_getElem (lt_of_get hl hy)) hy (hv i _ u (List.getElem?_eq_getElem (lt_of_get hl hy)) hu)
  | iface _ ih => intro v hv; cases hv with | iface t u h => exact .iface _ _ (ih (by assumption))
  | nilsRo => intro v hv; cases hv; exact .roE _ _ (by simp)
  | nilsRw h => intro v hv; cases hv; exact .rwE _ (by simp)
  | @roCo cells n co h =>
    intro v hv
    have h2 := hv.pure (av1 := av1) (σ1 := σ1) (by simpa [pureV, within] using h) hav
    cases h2 with
    | roE a cap hc => exact .roE _ _ (by simp)
    | ro cs him hl hv2 hn hc => exact .ro cs him hl hv2 hn (by simp)
  | rwCo h e =>
    intro v hv; cases hv with
    | rwE a hc => exact .rwE a (by simp)
    | rw hs hn hc hsz => exact .rw (by rw [hS _ h, e]; exact hs) hn (by simp) hsz

/-- Lists of values, told anew one by one. -/
inductive RenC (τ : Nat → Nat) (S : Nat → Bool) : List PV → List PV → Prop where
  | pure {xs : List PV} (h : withinL (fun _ => false) xs = true) : RenC τ S xs xs
  | nil : RenC τ S [] []
  | cons {x y : PV} {xs ys : List PV} (h : Ren τ S x y) (r : RenC τ S xs ys) : RenC τ S (x :: xs) (y :: ys)

theorem RenC.get {τ : Nat → Nat} {S : Nat → Bool} {xs ys : List PV} (h : RenC τ S xs ys) : xs.length = ys.length ∧ ∀ (i : Nat) (x y : PV), xs[i]? = some x → ys[i]? = some y → Ren τ S x y := by
  induction h with
  | pure h => exact ⟨rfl, fun i x y hx hy => by rw [hx] at hy; simp at hy; subst hy; exact .pure (withinL_get h hx)⟩
  | nil => simp
  | cons h _ ih =>
    refine ⟨by simp [ih.1], fun i x y hx hy => ?_⟩
    cases i with
    | zero => simp at hx hy; subst hx; subst hy; exact h
    | succ i => exact ih.2 i x y (by simpa using hx) (by simpa using hy)

theorem Ren.agg' {τ : Nat → Nat} {S : Nat → Bool} {xs ys : List PV} (h : RenC τ S xs ys) : Ren τ S (.agg xs) (.agg ys) := .agg h.get.1 h.get.2
theorem Ren.tup' {τ : Nat → Nat} {S : Nat → Bool} {xs ys : List PV} (h : RenC τ S xs ys) : Ren τ S (.tup xs) (.tup ys) := .tup h.get.1 h.get.2
theorem Ren.fn' {τ : Nat → Nat} {S : Nat → Bool} {f : FuncId} {xs ys : List PV} (h : RenC τ S xs ys) : Ren τ S (.fn f xs) (.fn f ys) := .fn h.get.1 h.get.2

inductive RenA (τ : Nat → Nat) (S : Nat → Bool) (al : Al) : Al → Prop where
  | nil : RenA τ S al []
  | cons {t : Nat} {x y : PV} {r : Al} (h : lget al t = some x) (hr : Ren τ S x y) (k : RenA τ S al r) : RenA τ S al ((t, y) :: r)
inductive RenB (τ : Nat → Nat) (S : Nat → Bool) (L : Lb) : Lb → Prop where
  | nil : RenB τ S L []
  | cons {l : Nat} {xs ys : List PV} {r : Lb} (h : lget L (τ l) = some (some xs)) (hr : RenC τ S xs ys) (k : RenB τ S L r) : RenB τ S L ((l, some ys) :: r)
  | fresh {l : Nat} {r : Lb} (h : lget L (τ l) = none) (k : RenB τ S L r) : RenB τ S L ((l, some []) :: r)
  | gone {l : Nat} {r : Lb} (k : RenB τ S L r) : RenB τ S L ((l, none) :: r)

theorem RenA.get {τ : Nat → Nat} {S : Nat → Bool} {al al' : Al} (h : RenA τ S al al') : ∀ p ∈ al', ∃ x, lget al p.1 = some x ∧ Ren τ S x p.2 := by
  induction h with
  | nil => simp
  | cons h hr _ ih =>
    intro p hp; rcases List.mem_cons.1 hp with rfl | hp
    · exact ⟨_, h, hr⟩
    · exact ih p hp
theorem RenB.get {τ : Nat → Nat} {S : Nat → Bool} {L L' : Lb} (h : RenB τ S L L') : ∀ p ∈ L', (∀ ys, p.2 = some ys → (∃ xs, lget L (τ p.1) = some (some xs) ∧ RenC τ S xs ys) ∨ (lget L (τ p.1) = none ∧ ys = [])) := by
  induction h with
  | nil => simp
  | cons h hr _ ih =>
    intro p hp; rcases List.mem_cons.1 hp with rfl | hp
    · exact fun ys e => by simp at e; subst e; exact .inl ⟨_, h, hr⟩
    · exact ih p hp
  | fresh h _ ih =>
    intro p hp; rcases List.mem_cons.1 hp with rfl | hp
    · exact fun ys e => by simp at e; subst e; exact .inr ⟨h, rfl⟩
    · exact ih p hp
  | gone _ ih =>
    intro p hp; rcases List.mem_cons.1 hp with rfl | hp
    · exact fun ys e => by simp at e
    · exact ih p hp

def lk (m : List (Nat × Nat)) (l : Nat) : Nat := match lget m l with | some x => x | none => l
/-- Names stay apart, and those that must be kept are. -/
def renOK (m : List (Nat × Nat)) (L L' : Lb) (ks : List Nat) : Bool :=
  (L'.all fun p => L'.all fun q => !p.2.isSome || !q.2.isSome || decide (lk m p.1 = lk m q.1 → p.1 = q.1)) && ks.all fun l => decide (lk m l = l) && hasL L' l

theorem Weak.ren {E : Env} {K : Nat → Prop} {al al' : Al} {L L' : Lb} (m : List (Nat × Nat)) (ks : List Nat) (ha : RenA (lk m) (hasL L') al al') (hb : RenB (lk m) (hasL L') L L') (hok : renOK m L L' ks = true)
    (hK : ∀ l, K l → l ∈ ks) (hG : GOK E) : Weak E K al L al' L' := by
  intro A w σ a r
  let σ1 : Sig := fun l => if hasL L' l then σ (lk m l) else none
  have hS : ∀ l, hasL L' l = true → σ1 l = σ (lk m l) := fun l h => by simp [σ1, h]
  have hget := hb.get
  have hgl : ∀ l cells, lget L' l = some (some cells) → (∃ xs, lget L (lk m l) = some (some xs) ∧ RenC (lk m) (hasL L') xs cells) ∨ (lget L (lk m l) = none ∧ cells = []) := fun l cells hl => hget _ (mem_of_lget hl) _ rfl
  have hav : ∀ β, avOf σ1 L' β → avOf σ L β := by
    rintro β ⟨l, cells, x, s, h1, h2⟩
    rw [hS l (by simp [hasL, h1])] at h2
    rcases hgl l cells h1 with ⟨xs, h3, _⟩ | ⟨h3, _⟩
    · exact ⟨_, xs, x, s, h3, h2⟩
    · exact absurd h3 (r.blocks.dom _ _ h2)
  have havo : ∀ β, ¬ avo A σ L β → ¬ avo A σ1 L' β := by
    rintro β hn (h | h)
    · exact hn (.inl h)
    · exact hn (.inr (hav β h))
  simp only [renOK, Bool.and_eq_true, List.all_eq_true, decide_eq_true_eq] at hok
  refine ⟨σ1, ⟨fun t x hx => ?_, ⟨fun l cells hl => ?_, ?_, ?_, ?_⟩, fun g cells hg => Env.pureG hG hg (r.globals g cells hg) havo, r.nodefer⟩, ⟨Nat.le_refl _, ?_, fun β _ hn => ⟨fun ha => hn (hav β ha), rfl⟩, rfl, rfl, rfl⟩⟩
  · obtain ⟨y, h1, h2⟩ := ha.get _ (mem_of_lget hx)
    obtain ⟨v, h3, h4⟩ := r.tmps t y h1
    exact ⟨v, h3, h4.ren hS havo h2⟩
  · have hh : hasL L' l = true := by simp [hasL, hl]
    rcases hgl l cells hl with ⟨xs, h1, h2⟩ | ⟨h1, h2⟩
    rotate_left
    · refine .inl ⟨?_, h2⟩
      rw [hS l hh]
      cases hc : σ (lk m l) with
      | none => rfl
      | some y => exact absurd h1 (r.blocks.dom _ _ hc)
    obtain ⟨e1, e2⟩ := h2.get
    rcases r.blocks.all _ xs h1 with ⟨h3, h4⟩ | ⟨β, add, size, c, T, fr, hB⟩
    · exact .inl ⟨by rw [hS l hh]; exact h3, by subst h4; simpa using e1.symm⟩
    · refine .inr ⟨β, add, size, c, T, fr, ⟨by rw [hS l hh]; exact hB.sig, hB.heap, hB.hsz, e1 ▸ hB.fits, fun i y hy => ?_, hB.frs⟩⟩
      have hi : i < xs.length := by rw [e1]; exact (List.getElem?_eq_some_iff.1 hy).1
      obtain ⟨v, h5, h6⟩ := hB.vals i _ (List.getElem?_eq_getElem hi)
      exact ⟨v, h5, h6.ren hS havo (e2 i _ y (List.getElem?_eq_getElem hi) hy)⟩
  · intro l l' c c' β a s a' s' h1 h2 h3 h4
    rw [hS l (by simp [hasL, h1])] at h3
    rw [hS l' (by simp [hasL, h2])] at h4
    rcases hgl l c h1 with ⟨xs, h5, _⟩ | ⟨h5, _⟩
    rotate_left
    · exact absurd h5 (r.blocks.dom _ _ h3)
    rcases hgl l' c' h2 with ⟨ys, h6, _⟩ | ⟨h6, _⟩
    rotate_left
    · exact absurd h6 (r.blocks.dom _ _ h4)
    have := hok.1 _ (mem_of_lget h1) _ (mem_of_lget h2)
    simp at this
    rcases this with h | h
    · exact absurd (r.blocks.inj _ _ xs ys β a s a' s' h5 h6 h3 h4) h
    · exact h
  · intro l x h1
    by_cases hh : hasL L' l = true
    · simp only [hasL, Option.isSome_iff_ne_none] at hh; exact hh
    · simp [σ1, hh] at h1
  · intro β hA
    obtain ⟨h1, h2⟩ := r.blocks.lo β hA
    exact ⟨h1, fun ha => h2 (hav β ha)⟩
  · intro l y hk hy
    obtain ⟨h1, h2⟩ := hok.2 l (hK l hk)
    rw [hS l h2, h1]; exact hy

/-! ### meeting, looping -/
section
variable {E : Env} {K : Nat → Prop} {n : Nat} {al : Al} {L : Lb} {Q : Exit → Al → Lb → Prop}

/-- The end 'e0' in a state that says at least so much. -/
def Tgt (E : Env) (K : Nat → Prop) (e0 : Exit) (al' : Al) (L' : Lb) : Exit → Al → Lb → Prop := fun e al L => e = e0 ∧ Weak E K al L al' L'

/-- Ways that meet, or leave. -/
inductive Meet (E : Env) (K : Nat → Prop) {N O : Type} (Sal : N → Al) (Sl : N → Lb) (Q : Exit → Al → Lb → Prop) : Sum N O → Exit → Al → Lb → Prop where
  | on {m : N} {al : Al} {L : Lb} (h : Weak E K al L (Sal m) (Sl m)) : Meet E K Sal Sl Q (.inl m) .normal al L
  | off {o : O} {e : Exit} {al : Al} {L : Lb} (he : e ≠ .normal) (h : Q e al L) : Meet E K Sal Sl Q (.inr o) e al L

theorem AW_meetS {x y : Code} {N O : Type} (Sal : N → Al) (Sl : N → Lb) (o : Sum N O) (h : AW E K n x (Meet E K Sal Sl Q o) al L) (k : ∀ m, o = .inl m → AW E K n y Q (Sal m) (Sl m)) : AW E K n (.seq x y) Q al L := by
  refine AW_seq (AW.mono h fun e al1 L1 hm => ?_)
  cases hm with
  | on hw => exact AW_weak hw (k _ rfl)
  | off he hq => cases e <;> first | exact absurd rfl he | exact hq

theorem AW_meetN {x y : Code} {N : Type} (Sal : N → Al) (Sl : N → Lb) (m : N) (h : AW E K n x (Tgt E K .normal (Sal m) (Sl m)) al L) (k : AW E K n y Q (Sal m) (Sl m)) : AW E K n (.seq x y) Q al L := by
  refine AW_seq (AW.mono h fun e al1 L1 hm => ?_)
  obtain ⟨rfl, hw⟩ := hm
  exact AW_weak hw k

/-- What one round tells: that it goes on, or how the loop is left. -/
inductive Round (E : Env) (K : Nat → Prop) {S X : Type} (Sal : S → Al) (Sl : S → Lb) (LX : X → Exit → Al → Lb → Prop) : Sum X S → Exit → Al → Lb → Prop where
  | on {s : S} {al : Al} {L : Lb} (h : Weak E K al L (Sal s) (Sl s)) : Round E K Sal Sl LX (.inr s) .normal al L
  | off {x : X} {e : Exit} {al : Al} {L : Lb} (he : e ≠ .normal) (h : LX x e al L) : Round E K Sal Sl LX (.inl x) e al L

theorem AW_loopM {c : Code} {S X : Type} (step : S → Option (Sum X S)) (Sal : S → Al) (Sl : S → Lb) (LX : X → Exit → Al → Lb → Prop) {s0 : S} {x : X} (h : loopO step s0 = some x) (h0 : Weak E K al L (Sal s0) (Sl s0))
    (round : ∀ s o, step s = some o → AW E K n c (Round E K Sal Sl LX o) (Sal s) (Sl s)) (post : ∀ e al L, LX x e al L → e ≠ .normal → ∃ al' L', Weak E K al L al' L' ∧ Q e al' L') : AW E K n (.loop c) Q al L := by
  have hit := loopO_iff.1 h
  clear h
  refine AW_weak h0 (AW_post (Q' := fun e al L => e ≠ .normal ∧ LX x e al L) ?_ fun e al L hq => post e al L hq.2 hq.1)
  clear post h0
  intro A w σ a r t b k cs
  have key : ∀ s, Iter step s x → ∀ w σ a, Rel E A w σ (Sal s) (Sl s) a → a.tmps.size = n →
      ∃ e a' w', Post E K A w σ (Sl s) n (fun e al L => e ≠ .normal ∧ LX x e al L) e a' w' ∧ Arrives E.P (lone (b.at a (.code c :: .inLoop c :: k)) cs w) b k cs e a' w' := by
    intro s hs
    clear hit
    induction hs with
    | @done s x h =>
      intro w σ a hr ht
      obtain ⟨e, a₁, w₁, ⟨al₁, L₁, σ₁, q, r₁, g₁, t₁⟩, harr⟩ := round s _ h A w σ a hr ht b (.inLoop c :: k) cs
      cases q with
      | off he hq =>
        refine ⟨e, a₁, w₁, ⟨al₁, L₁, σ₁, ⟨he, hq⟩, r₁, g₁, t₁⟩, ?_⟩
        cases e with
        | normal => exact absurd rfl he
        | _ => exact .pass (x := .inLoop c) rfl (fun _ _ => .inl (by simp)) harr
    | @more s s' x h _ ih =>
      intro w σ a hr ht
      obtain ⟨e, a₁, w₁, ⟨al₁, L₁, σ₁, q, r₁, g₁, t₁⟩, harr⟩ := round s _ h A w σ a hr ht b (.inLoop c :: k) cs
      cases q with
      | on hw =>
        obtain ⟨σ₂, r₂, g₂⟩ := hw A w₁ σ₁ a₁ r₁
        obtain ⟨e₂, a₂, w₂, hq₂, harr₂⟩ := ih w₁ σ₂ a₁ r₂ t₁
        exact ⟨e₂, a₂, w₂, Post.trans (g₁.trans g₂) hq₂, .of_steps (Steps.trans harr (.one step_inLoop)) harr₂⟩
  obtain ⟨e, a', w', hq, harr⟩ := key _ hit w σ a r t
  exact ⟨e, a', w', hq, .of_steps (.one step_loop) harr⟩
end

end Go.SH

namespace Go.SH
section
variable {E : Env} {K : Nat → Prop} {n : Nat} {al al' : Al} {L L' : Lb} {Q : Exit → Al → Lb → Prop} {N : Al → Lb → Prop}
theorem athen_n (h : N al L) : athen N Q .normal al L := h
theorem athen_ret (h : Q .ret al L) : athen N Q .ret al L := h
theorem athen_exit {i : Nat} (h : Q (.exit i) al L) : athen N Q (.exit i) al L := h
theorem ablock_n {i : Nat} (h : Q .normal al L) : ablock i Q .normal al L := h
theorem ablock_ret {i : Nat} (h : Q .ret al L) : ablock i Q .ret al L := h
theorem ablock_eq {i : Nat} (h : Q .normal al L) : ablock i Q (.exit i) al L := by simpa [ablock] using h
theorem ablock_ne {i j : Nat} (hn : j ≠ i) (h : Q (.exit j) al L) : ablock i Q (.exit j) al L := by simpa [ablock, hn] using h
theorem Tgt.mk {e : Exit} (h : Weak E K al L al' L') : Tgt E K e al' L' e al L := ⟨rfl, h⟩
/-- An operation whose answer is told in other words. -/
theorem AOp_x {o : Oper} {ra : Al} {rl : Lb} {x x' : PV} {wl : Lb} (lab : Nat) (hl : lget rl lab = none) (h : xop E.P E.G o ra rl lab = some (x', wl)) (he : x' = x) : AOp E o ra rl x wl := he ▸ xop_ok hl h
end
theorem wrap_u8 (x : Int) : IntKind.u8.wrap x = ((UInt8.ofInt x).toNat : Int) := by
  have h : IntKind.u8.wrap x = x % 256 := by simp [IntKind.wrap, IntKind.signed, IntKind.bits]
  rw [h]
  simp [UInt8.ofInt]
  omega
theorem wrap_i64 {x : Int} (h : -9223372036854775808 ≤ x ∧ x < 9223372036854775808) : IntKind.i64.wrap x = x := by
  simp [IntKind.wrap, IntKind.signed, IntKind.bits]
  omega
end Go.SH
