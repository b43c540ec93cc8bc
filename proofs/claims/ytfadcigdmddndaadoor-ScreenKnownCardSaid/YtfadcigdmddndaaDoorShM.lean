/- Functions: from a walk of the body to a contract, and a contract used at a call. -/
import Derived.Test.YtfadcigdmddndaaDoorShL
set_option linter.unusedVariables false
set_option linter.unusedSimpArgs false
namespace Go.SH

/-! ### results -/
def xres (P : Program) (al : Al) (L : Lb) : List ResultVar → Option (List PV)
  | [] => some []
  | .tmp t :: r => match lget al t, xres P al L r with
    | some x, some xs => some (x :: xs)
    | _, _ => none
  | .cell s T :: r => match lget al s, xres P al L r with
    | some p, some xs => match xload P T L p with
      | some x => some (x :: xs)
      | none => none
    | _, _ => none

def rtup : List PV → PV
  | [x] => x
  | xs => .tup xs

theorem xload_ok {P : Program} {w : World} {σ : Sig} {A : Nat → Prop} {L : Lb} (hb : BR w σ A L) {T : TypeId} {p x : PV} {v : Value} (hv : VR w σ (avo A σ L) p v) (hx : xload P T L p = some x) :
    ∃ ad u, v = .pointer (some ad) ∧ (loadVar T ad).run P w = .ok u w ∧ VR w σ (avo A σ L) x u := by
  unfold xload at hx
  split at hx
  · rename_i cells off i hlc hi hr
    split at hx
    · rename_i hh
      simp at hx
      obtain ⟨β, o, he, hc⟩ := lcells_ok hb hv hlc (by intro h0; simp [h0] at hh; omega)
      obtain ⟨u, h3, h4⟩ := loadVar_ok (P := P) (off := off) hc hi hr (.inl ⟨rfl, hh.1, hx.symm⟩)
      exact ⟨_, u, he, h3, h4⟩
    · simp at hx
  · rename_i cells off i hlc hi hr
    obtain ⟨β, o, he, hc⟩ := lcells_ok hb hv hlc (by intro h0; simp [h0] at hx)
    obtain ⟨u, h3, h4⟩ := loadVar_ok (P := P) (off := off) hc hi hr (.inr ⟨rfl, hx⟩)
    exact ⟨_, u, he, h3, h4⟩
  · simp at hx

def resStep (tmps : Array Value) : ResultVar → Sem Value
  | .tmp t => pure (tmps.getD t undef)
  | .cell a t => do loadVar t (← asAddr (tmps.getD a undef))

theorem xres_ok {E : Env} {A : Nat → Prop} {w : World} {σ : Sig} {al : Al} {L : Lb} {a : Act} (r : Rel E A w σ al L a) : ∀ (rs : List ResultVar) (xs : List PV), xres E.P al L rs = some xs →
    ∃ vs : List Value, (rs.mapM (resStep a.tmps)).run E.P w = .ok vs w ∧ xs.length = vs.length ∧ ∀ (i : Nat) (x : PV) (v : Value), xs[i]? = some x → vs[i]? = some v → VR w σ (avo A σ L) x v
  | [], xs, h => by simp [xres] at h; subst h; exact ⟨[], rfl, rfl, by simp⟩
  | .tmp t :: rs, xs, h => by
    simp only [xres] at h
    split at h
    · rename_i x ys h1 h2
      simp at h; subst h
      obtain ⟨vs, e1, e2, e3⟩ := xres_ok r rs ys h2
      obtain ⟨v, hv, hr⟩ := r.tmps t x h1
      refine ⟨v :: vs, ?_, by simp [e2], fun i y u hy hu => ?_⟩
      · simp [List.mapM_cons, resStep, Array.getD_eq_getD_getElem?, hv, e1]
      · cases i with
        | zero => simp at hy hu; subst hy; subst hu; exact hr
        | succ i => exact e3 i y u (by simpa using hy) (by simpa using hu)
    · simp at h
  | .cell s T :: rs, xs, h => by
    simp only [xres] at h
    split at h
    · rename_i p ys h1 h2
      split at h
      · rename_i x hx
        simp at h; subst h
        obtain ⟨vs, e1, e2, e3⟩ := xres_ok r rs ys h2
        obtain ⟨v, hv, hr⟩ := r.tmps s p h1
        obtain ⟨ad, u, rfl, h4, h5⟩ := xload_ok (P := E.P) r.blocks hr hx
        refine ⟨u :: vs, ?_, by simp [e2], fun i y u' hy hu => ?_⟩
        · simp [List.mapM_cons, resStep, Array.getD_eq_getD_getElem?, hv, asAddr, h4, e1]
        · cases i with
          | zero => simp at hy hu; subst hy; subst hu; exact h5
          | succ i => exact e3 i y u' (by simpa using hy) (by simpa using hu)
      · simp at h
    · simp at h

theorem run_results {E : Env} {A : Nat → Prop} {w : World} {σ : Sig} {al : Al} {L : Lb} {a : Act} (r : Rel E A w σ al L a) {fn : Func} {xs : List PV} (h : xres E.P al L fn.results.toList = some xs) :
    ∃ v, (results fn a.tmps).run E.P w = .ok v w ∧ VR w σ (avo A σ L) (rtup xs) v := by
  obtain ⟨vs, e1, e2, e3⟩ := xres_ok r _ _ h
  have hm : (results fn a.tmps).run E.P w = .ok (if h : vs.toArray.size = 1 then vs.toArray[0] else .tuple vs.toArray) w := by
    have hr : results fn a.tmps = (do let vs ← fn.results.mapM (resStep a.tmps); pure (if h : vs.size = 1 then vs[0] else .tuple vs)) := by
      unfold results
      congr 1
    rw [hr, Array.mapM_eq_mapM_toList]
    simp [e1]
  refine ⟨_, hm, ?_⟩
  cases vs with
  | nil =>
    have : xs = [] := List.eq_nil_of_length_eq_zero e2
    subst this
    exact VR.tup [] rfl (by simp)
  | cons v vs =>
    cases vs with
    | nil =>
      cases xs with
      | nil => simp at e2
      | cons x xs =>
        have : xs = [] := List.eq_nil_of_length_eq_zero (by simpa using e2)
        subst this
        exact e3 0 x v rfl rfl
    | cons v' vs =>
      have hr : rtup xs = .tup xs := by
        cases xs with
        | nil => rfl
        | cons x xs => cases xs with
          | nil => simp at e2
          | cons y ys => rfl
      rw [hr]
      simp only [List.size_toArray, List.length_cons]
      rw [dif_neg (by omega)]
      exact VR.tup _ e2 e3

/-- What a body's end tells. -/
def Ends (P : Program) (fn : Func) (R : PV → Lb → Prop) : Exit → Al → Lb → Prop :=
  fun e al L => (match e with | .normal => True | .ret => True | _ => False) ∧ ∃ xs, xres P al L fn.results.toList = some xs ∧ R (rtup xs) L

theorem ACalls_of_AW {E : Env} {f : FuncId} {fn : Func} {c : Code} {args : List PV} {L : Lb} {R : PV → Lb → Prop} (hf : E.P.funcs[f]? = some fn) (hb : fn.body = some c) (hn : args.length ≤ fn.ntmps)
    (h : AW E (fun l => lget L l ≠ none) fn.ntmps c (Ends E.P fn R) (entry args 0) L) : ACalls E f args L R := by
  intro A w σ cargs hl hv hbr hg
  refine calls_of_wp hf hb (wp_mono (h A w σ _ ⟨?_, hbr, hg, rfl⟩ ?_) ?_)
  · intro t x hx
    obtain ⟨h1, h2⟩ := lget_entry args 0 t x hx
    simp at h2
    have ht : t < cargs.length := by rw [hl]; exact (List.getElem?_eq_some_iff.1 h2).1
    exact ⟨cargs[t], by rw [Array.getElem?_append_left (by simpa using ht)]; simp [ht], hv t x _ h2 (List.getElem?_eq_getElem ht)⟩
  · simp; omega
  · rintro e a' w' ⟨al', L', σ', ⟨he, xs, hx, hR⟩, r', g', t'⟩
    obtain ⟨v, h1, h2⟩ := run_results r' hx
    cases e with
    | normal => exact ⟨r'.nodefer, v, h1, _, v, L', σ', rfl, hR, h2, r'.blocks, g'⟩
    | ret => exact ⟨r'.nodefer, v, h1, _, v, L', σ', rfl, hR, h2, r'.blocks, g'⟩
    | _ => exact he.elim

/-! ### a call -/
mutual
def within (S : Nat → Bool) : PV → Bool
  | .ptr l _ => S l
  | .rw l _ _ _ _ => S l
  | .rop cells _ => withinL S cells
  | .ro cells _ _ => withinL S cells
  | .fn _ caps => withinL S caps
  | .iface _ v => within S v
  | .agg cells => withinL S cells
  | .tup vs => withinL S vs
  | _ => true
def withinL (S : Nat → Bool) : List PV → Bool
  | [] => true
  | x :: xs => within S x && withinL S xs
end

theorem withinL_get {S : Nat → Bool} : ∀ {xs : List PV} {i : Nat} {x : PV}, withinL S xs = true → xs[i]? = some x → within S x = true
  | [], i, x, _, h => by simp at h
  | y :: ys, i, x, h, hx => by
    simp [withinL] at h
    cases i with
    | zero => simp at hx; subst hx; exact h.1
    | succ i => exact withinL_get h.2 (by simpa using hx)

theorem withinL_all {S : Nat → Bool} : ∀ (xs : List PV), withinL S xs = xs.all (within S)
  | [] => rfl
  | x :: xs => by simp [withinL, withinL_all xs]

theorem VR.restrict {w : World} {σ σ1 : Sig} {av av1 : Nat → Prop} {x : PV} {v : Value} (h : VR w σ av x v) {S : Nat → Bool} (hS : ∀ l, S l = true → σ1 l = σ l) (hav : ∀ β, ¬ av β → ¬ av1 β) : within S x = true → VR w σ1 av1 x v := by
  have imm : ∀ {β add cs}, Imm w av β add cs → Imm w av1 β add cs := fun h => ⟨h.lt, hav _ h.na, h.cell⟩
  induction h with
  | dead => exact fun _ => .dead
  | int k n => exact fun _ => .int k n
  | bool b => exact fun _ => .bool b
  | str l => exact fun _ => .str l
  | nilp => exact fun _ => .nilp
  | ptr h => exact fun hw => .ptr ((hS _ (by simpa [within] using hw)).trans h)
  | rop cs him hl _ ih => exact fun hw => .rop cs (imm him) hl fun i x v hx hv => ih i x v hx hv (withinL_get (by simpa [within] using hw) hx)
  | nils => exact fun _ => .nils
  | roE a cap hc => exact fun _ => .roE a cap hc
  | ro cs him hl _ hn hc ih => exact fun hw => .ro cs (imm him) hl (fun i x v hx hv => ih i x v hx hv (withinL_get (by simpa [within] using hw) hx)) hn hc
  | rwE a hc => exact fun _ => .rwE a hc
  | rw h hn hc hs' => exact fun hw => .rw ((hS _ (by simpa [within] using hw)).trans h) hn hc hs'
  | fn f cs hl _ ih => exact fun hw => .fn f cs hl fun i x v hx hv => ih i x v hx hv (withinL_get (by simpa [within] using hw) hx)
  | nilf => exact fun _ => .nilf
  | iface t v _ ih => exact fun hw => .iface t v (ih (by simpa [within] using hw))
  | nili => exact fun _ => .nili
  | agg cs hl _ ih => exact fun hw => .agg cs hl fun i x v hx hv => ih i x v hx hv (withinL_get (by simpa [within] using hw) hx)
  | tup cs hl _ ih => exact fun hw => .tup cs hl fun i x v hx hv => ih i x v hx hv (withinL_get (by simpa [within] using hw) hx)

theorem lget_append {α : Type} (M L : List (Nat × α)) (l : Nat) : lget (M ++ L) l = match lget M l with | some x => some x | none => lget L l := by
  induction M with
  | nil => rfl
  | cons p r ih =>
    obtain ⟨k, x⟩ := p
    simp only [List.cons_append, lget]
    split
    · rfl
    · exact ih

def hasL (L : Lb) (l : Nat) : Bool := (lget L l).isSome

/-- No label: for what hands nothing out that may be written. -/
def pureV (x : PV) : Bool := within (fun _ => false) x

/-- A contract in a wider state. -/
theorem ACalls.frame {E : Env} {f : FuncId} {args : List PV} {L1 L : Lb} {R : PV → Lb → Prop} (h : ACalls E f args L1 R) (hsub : ∀ l y, lget L1 l = some y → lget L l = some y)
    (hw : withinL (hasL L1) args = true) (hc : ∀ l cells, lget L1 l = some (some cells) → withinL (hasL L1) cells = true)
    {A : Nat → Prop} {w : World} {σ : Sig} {al : Al} {a : Act} (r : Rel E A w σ al L a) {cargs : List Value} (hl : cargs.length = args.length)
    (hv : ∀ (i : Nat) (x : PV) (v : Value), args[i]? = some x → cargs[i]? = some v → VR w σ (avo A σ L) x v) (hG : ∀ g cells, lget E.G g = some cells → withinL (fun _ => false) cells = true) :
    Calls E.P f cargs.toArray w fun e w' => ∃ x c L1', e = .returned c ∧ R x L1' ∧ ((∀ l, lget L1' l ≠ none → lget L1 l ≠ none ∨ lget L l = none) → (∀ l, lget L1 l ≠ none → lget L1' l ≠ none) →
      ∃ σ', VR w' σ' (avo A σ' (L1' ++ L)) x c ∧ BR w' σ' A (L1' ++ L) ∧ Grow top w σ L w' σ' (L1' ++ L)) := by
  let σ1 : Sig := fun l => if hasL L1 l then σ l else none
  let A1 : Nat → Prop := fun β => A β ∨ ∃ l cells a s, lget L1 l = none ∧ lget L l = some (some cells) ∧ σ l = some (β, a, s)
  have hS : ∀ l, hasL L1 l = true → σ1 l = σ l := fun l h => by simp [σ1, h]
  have hav1 : ∀ β, avo A1 σ1 L1 β ↔ avo A σ L β := by
    intro β
    constructor
    · rintro ((h | ⟨l, cells, a, s, h1, h2, h3⟩) | ⟨l, cells, a, s, h1, h2⟩)
      · exact .inl h
      · exact .inr ⟨l, cells, a, s, h2, h3⟩
      · refine .inr ⟨l, cells, a, s, hsub _ _ h1, ?_⟩
        rw [← hS l (by simp [hasL, h1])]; exact h2
    · rintro (h | ⟨l, cells, a, s, h1, h2⟩)
      · exact .inl (.inl h)
      · cases h3 : lget L1 l with
        | none => exact .inl (.inr ⟨l, cells, a, s, h3, h1, h2⟩)
        | some y =>
          have := hsub _ _ h3
          rw [h1] at this; simp at this; subst this
          exact .inr ⟨l, cells, a, s, h3, by rw [hS l (by simp [hasL, h3])]; exact h2⟩
  have hdown : ∀ {x v}, VR w σ (avo A σ L) x v → within (hasL L1) x = true → VR w σ1 (avo A1 σ1 L1) x v := fun h hx => h.restrict hS (fun β hn hm => hn ((hav1 β).1 hm)) hx
  have hb1 : BR w σ1 A1 L1 := by
    refine ⟨?_, ?_, ?_, ?_⟩
    · intro l cells hl1
      have hh : hasL L1 l = true := by simp [hasL, hl1]
      rcases r.blocks.all l cells (hsub _ _ hl1) with ⟨h1, h2⟩ | ⟨β, add, size, c, T, fr, hB⟩
      · exact .inl ⟨by rw [hS l hh]; exact h1, h2⟩
      · refine .inr ⟨β, add, size, c, T, fr, ⟨by rw [hS l hh]; exact hB.sig, hB.heap, hB.hsz, hB.fits, ?_, hB.frs⟩⟩
        intro i x hx
        obtain ⟨v, h1, h2⟩ := hB.vals i x hx
        exact ⟨v, h1, hdown h2 (withinL_get (hc l cells hl1) hx)⟩
    · intro l l' c c' β a s a' s' h1 h2 h3 h4
      rw [hS l (by simp [hasL, h1])] at h3
      rw [hS l' (by simp [hasL, h2])] at h4
      exact r.blocks.inj l l' c c' β a s a' s' (hsub _ _ h1) (hsub _ _ h2) h3 h4
    · intro l x h1
      by_cases hh : hasL L1 l = true
      · simp only [hasL, Option.isSome_iff_ne_none] at hh; exact hh
      · simp [σ1, hh] at h1
    · rintro β (h | ⟨l, cells, a, s, h1, h2, h3⟩)
      · obtain ⟨h4, h5⟩ := r.blocks.lo β h
        refine ⟨h4, ?_⟩
        rintro ⟨l, cells, a, s, h1, h2⟩
        rw [hS l (by simp [hasL, h1])] at h2
        exact h5 ⟨l, cells, a, s, hsub _ _ h1, h2⟩
      · refine ⟨r.blocks.lt ⟨l, cells, a, s, h2, h3⟩, ?_⟩
        rintro ⟨l', cells', a', s', h4, h5⟩
        rw [hS l' (by simp [hasL, h4])] at h5
        have := r.blocks.inj l l' cells cells' β a s a' s' h2 (hsub _ _ h4) h3 h5
        subst this
        rw [h1] at h4; simp at h4
  refine (h A1 w σ1 cargs hl (fun i x v hx hv' => hdown (hv i x v hx hv') (withinL_get hw hx)) hb1 (fun g cells hg => (r.globals g cells hg).restrict hS (fun β hn hm => hn ((hav1 β).1 hm)) ?_)).mono ?_
  · have h0 := hG g cells hg
    have mono : ∀ (x : PV), within (fun _ => false) x = true → within (hasL L1) x = true := by
      intro x
      apply PV.rec (motive_1 := fun x => within (fun _ => false) x = true → within (hasL L1) x = true) (motive_2 := fun xs => withinL (fun _ => false) xs = true → withinL (hasL L1) xs = true)
      all_goals intros
      all_goals simp_all [within, withinL]
    rw [withinL_all] at h0
    simp only [within, withinL_all]
    rw [List.all_eq_true] at h0 ⊢
    exact fun x hx => mono x (h0 x hx)
  · rintro e w' ⟨x, c, L1', σ1', rfl, hR, hx, hb', hg'⟩
    refine ⟨x, c, L1', rfl, hR, fun hnew hkeep => ?_⟩
    let σ' : Sig := fun l => match lget L1' l with | some _ => σ1' l | none => σ l
    have hσ' : ∀ l y, lget L1' l = some y → σ' l = σ1' l := fun l y h => by simp [σ', h]
    have hσn : ∀ l, lget L1' l = none → σ' l = σ l := fun l h => by simp [σ', h]
    have hsig : ∀ l y, σ l = some y → σ' l = some y := by
      intro l y hy
      cases h1 : lget L1' l with
      | none => rw [hσn l h1]; exact hy
      | some z =>
        rw [hσ' l z h1]
        rcases hnew l (by rw [h1]; simp) with h2 | h2
        · exact hg'.sig l y h2 (by rw [hS l (by simpa [hasL, Option.isSome_iff_ne_none] using h2)]; exact hy)
        · exact absurd h2 (r.blocks.dom l y hy)
    have hav' : ∀ β, avOf σ' (L1' ++ L) β → avOf σ1' L1' β ∨ ∃ l cells a s, lget L1 l = none ∧ lget L l = some (some cells) ∧ σ l = some (β, a, s) := by
      rintro β ⟨l, cells, a, s, h1, h2⟩
      rw [lget_append] at h1
      cases h3 : lget L1' l with
      | some z =>
        rw [h3] at h1; simp at h1
        rw [hσ' l z h3] at h2
        exact .inl ⟨l, cells, a, s, by rw [h3, h1], h2⟩
      | none =>
        rw [h3] at h1; simp at h1
        rw [hσn l h3] at h2
        refine .inr ⟨l, cells, a, s, ?_, h1, h2⟩
        cases h4 : lget L1 l with
        | none => rfl
        | some z => exact absurd h3 (hkeep l (by rw [h4]; simp))
    have hg : Grow top w σ L w' σ' (L1' ++ L) := by
      refine ⟨hg'.size, fun l y _ hy => hsig l y hy, fun β hb hn => ?_, hg'.out⟩
      have h1 : ¬ avOf σ1 L1 β := by
        rintro ⟨l, cells, a, s, h1, h2⟩
        rw [hS l (by simp [hasL, h1])] at h2
        exact hn ⟨l, cells, a, s, hsub _ _ h1, h2⟩
      obtain ⟨h2, h3⟩ := hg'.keep β hb h1
      refine ⟨fun ha => ?_, h3⟩
      rcases hav' β ha with h | ⟨l, cells, a, s, _, h5, h6⟩
      · exact h2 h
      · exact hn ⟨l, cells, a, s, h5, h6⟩
    have hup : ∀ {x v}, VR w' σ1' (avo A1 σ1' L1') x v → VR w' σ' (avo A σ' (L1' ++ L)) x v := by
      intro x v h
      refine h.mono (fun l y hy => ?_) (Nat.le_refl _) (fun β _ hn => ⟨fun ha => ?_, rfl⟩)
      · have := hb'.dom l y hy
        cases h1 : lget L1' l with
        | none => exact absurd h1 this
        | some z => rw [hσ' l z h1]; exact hy
      · rcases ha with ha | ha
        · exact hn (.inl (.inl ha))
        · rcases hav' β ha with h | h
          · exact hn (.inr h)
          · exact hn (.inl (.inr h))
    refine ⟨σ', hup hx, ⟨?_, ?_, ?_, ?_⟩, hg⟩
    · intro l cells hl'
      rw [lget_append] at hl'
      cases h3 : lget L1' l with
      | some z =>
        rw [h3] at hl'; simp at hl'; subst hl'
        rcases hb'.all l cells h3 with ⟨h1, h2⟩ | ⟨β, add, size, cc, T, fr, hB⟩
        · exact .inl ⟨by rw [hσ' l _ h3]; exact h1, h2⟩
        · exact .inr ⟨β, add, size, cc, T, fr, ⟨by rw [hσ' l _ h3]; exact hB.sig, hB.heap, hB.hsz, hB.fits, fun i x hx => let ⟨v, h1, h2⟩ := hB.vals i x hx; ⟨v, h1, hup h2⟩, hB.frs⟩⟩
      | none =>
        rw [h3] at hl'; simp at hl'
        have hn1 : lget L1 l = none := by
          cases h4 : lget L1 l with
          | none => rfl
          | some z => exact absurd h3 (hkeep l (by rw [h4]; simp))
        rcases r.blocks.all l cells hl' with ⟨h1, h2⟩ | ⟨β, add, size, cc, T, fr, hB⟩
        · exact .inl ⟨by rw [hσn l h3]; exact h1, h2⟩
        · have hnb : ¬ avOf σ1 L1 β := by
            rintro ⟨l', cells', a', s', h4, h5⟩
            rw [hS l' (by simp [hasL, h4])] at h5
            have := r.blocks.inj l l' cells cells' β _ _ a' s' hl' (hsub _ _ h4) hB.sig h5
            subst this
            rw [hn1] at h4; simp at h4
          obtain ⟨h6, h7⟩ := hg'.keep β (r.blocks.lt ⟨l, cells, _, _, hl', hB.sig⟩) hnb
          exact .inr ⟨β, add, size, cc, T, fr, ⟨by rw [hσn l h3]; exact hB.sig, by rw [h7]; exact hB.heap, hB.hsz, hB.fits, fun i x hx => let ⟨v, h1, h2⟩ := hB.vals i x hx; ⟨v, h1, h2.grow hg⟩, hB.frs⟩⟩
    · have sep : ∀ l l' (c c' : List PV) β a s a' s', lget L1' l = some (some c) → lget L1' l' = none → lget L l' = some (some c') → σ1' l = some (β, a, s) → σ l' = some (β, a', s') → False := by
        intro l l' c c' β a s a' s' h1 h2 h3 h4 h5
        have hn1 : lget L1 l' = none := by
          cases h6 : lget L1 l' with
          | none => rfl
          | some z => exact absurd h2 (hkeep l' (by rw [h6]; simp))
        have hnb : ¬ avOf σ1 L1 β := by
          rintro ⟨k, cells', a2, s2, h7, h8⟩
          rw [hS k (by simp [hasL, h7])] at h8
          have := r.blocks.inj l' k c' cells' β _ _ a2 s2 h3 (hsub _ _ h7) h5 h8
          subst this
          rw [hn1] at h7; simp at h7
        exact (hg'.keep β (r.blocks.lt ⟨l', c', _, _, h3, h5⟩) hnb).1 ⟨l, c, a, s, h1, h4⟩
      intro l l' c c' β a s a' s' h1 h2 h3 h4
      rw [lget_append] at h1 h2
      cases h5 : lget L1' l with
      | some z =>
        rw [h5] at h1; simp at h1; subst h1
        rw [hσ' l _ h5] at h3
        cases h6 : lget L1' l' with
        | some z' =>
          rw [h6] at h2; simp at h2; subst h2
          rw [hσ' l' _ h6] at h4
          exact hb'.inj l l' c c' β a s a' s' h5 h6 h3 h4
        | none =>
          rw [h6] at h2; simp at h2
          rw [hσn l' h6] at h4
          exact (sep l l' c c' β a s a' s' h5 h6 h2 h3 h4).elim
      | none =>
        rw [h5] at h1; simp at h1
        rw [hσn l h5] at h3
        cases h6 : lget L1' l' with
        | some z' =>
          rw [h6] at h2; simp at h2; subst h2
          rw [hσ' l' _ h6] at h4
          exact (sep l' l c' c β a' s' a s h6 h5 h1 h4 h3).elim
        | none =>
          rw [h6] at h2; simp at h2
          rw [hσn l' h6] at h4
          exact r.blocks.inj l l' c c' β a s a' s' h1 h2 h3 h4
    · intro l y hy
      rw [lget_append]
      cases h1 : lget L1' l with
      | some z => simp
      | none => rw [hσn l h1] at hy; exact r.blocks.dom l y hy
    · intro β hA
      obtain ⟨h1, h2⟩ := r.blocks.lo β hA
      refine ⟨Nat.lt_of_lt_of_le h1 hg'.size, fun ha => ?_⟩
      rcases hav' β ha with h | ⟨l, cells, a, s, _, h5, h6⟩
      · exact (hb'.lo β (.inl hA)).2 h
      · exact h2 ⟨l, cells, a, s, h5, h6⟩

end Go.SH
