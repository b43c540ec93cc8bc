/- How the blocks of a symbolic state change: a new one, a store, one let go. -/
import Derived.Test.YtfadcigdmddndaaDoorShA
set_option linter.unusedVariables false
set_option linter.unusedSimpArgs false
namespace Go.SH

theorem lget_ne_none_lset {α : Type} {L : List (Nat × α)} {l k : Nat} {y : α} (h : lget L k ≠ none) : lget (lset L l y) k ≠ none := by
  rw [lget_lset]; split <;> simp_all

theorem heap_old (w : World) (o : Obj) (i : Nat) (h : i < w.heap.size) : (w.alloc o).heap[i]? = w.heap[i]? := by
  show (w.heap.push o)[i]? = w.heap[i]?
  rw [Array.getElem?_push, if_neg (Nat.ne_of_lt h)]

def supd (σ : Sig) (l : Nat) (x : Nat × Nat × Nat) : Sig := fun k => if k = l then some x else σ k

theorem supd_same (σ : Sig) (l : Nat) (x : Nat × Nat × Nat) : supd σ l x l = some x := by simp [supd]
theorem supd_other {σ : Sig} {l k : Nat} {x : Nat × Nat × Nat} (h : k ≠ l) : supd σ l x k = σ k := by simp [supd, h]

theorem BR.fresh {w : World} {σ : Sig} {A : Nat → Prop} {L : Lb} (h : BR w σ A L) {l : Nat} (hl : lget L l = none) : σ l = none := by
  cases hs : σ l with
  | none => rfl
  | some x => exact absurd hl (h.dom l x hs)

theorem BR.lt {w : World} {σ : Sig} {A : Nat → Prop} {L : Lb} (h : BR w σ A L) {β : Nat} (ha : avOf σ L β) : β < w.heap.size := by
  obtain ⟨l, cells, a, s, hl, hs⟩ := ha
  rcases h.all l cells hl with ⟨h1, _⟩ | ⟨β', add, size, c, T, fr, hb⟩
  · rw [hs] at h1; simp at h1
  · have := hb.sig; rw [hs] at this; simp at this
    have hh := hb.heap
    rw [← this.1] at hh
    exact (Array.getElem?_eq_some_iff.1 hh).1

/-- A new block, under a new label. -/
theorem BR.alloc {w : World} {σ : Sig} {A : Nat → Prop} {L : Lb} (h : BR w σ A L) {l : Nat} (hl : lget L l = none) (cells : List PV) (cs : Array Value) (T : TypeId) {fr : Nat × Nat} {w' : World}
    (hsz : w'.heap.size = w.heap.size + 1) (ho : ∀ β, β < w.heap.size → w'.heap[β]? = w.heap[β]?) (hn : w'.heap[w.heap.size]? = some (.cells cs T fr)) (hfr : fr.1 = fr.2 ∨ cs.size ≤ fr.1)
    (hlen : cells.length ≤ cs.size) (hv : ∀ (i : Nat) (x : PV), cells[i]? = some x → ∃ v, cs[i]? = some v ∧ VR w σ (avo A σ L) x v) (hout : w'.os = w.os ∧ w'.output = w.output ∧ w'.tape = w.tape := by first | exact ⟨rfl, rfl, rfl⟩ | assumption) :
    BR w' (supd σ l (w.heap.size, 0, cs.size)) A (lset L l (some cells)) ∧
      Grow top w σ L w' (supd σ l (w.heap.size, 0, cs.size)) (lset L l (some cells)) := by
  have hf := h.fresh hl
  have hav : ∀ β, avOf (supd σ l (w.heap.size, 0, cs.size)) (lset L l (some cells)) β → β = w.heap.size ∨ avOf σ L β := by
    rintro β ⟨k, c, a, s, hk, hs⟩
    rw [lget_lset] at hk
    by_cases hkl : l = k
    · subst hkl; rw [supd_same] at hs; simp at hs; exact .inl hs.1.symm
    · rw [if_neg hkl] at hk; rw [supd_other (Ne.symm hkl)] at hs; exact .inr ⟨k, c, a, s, hk, hs⟩
  have hg : Grow top w σ L w' (supd σ l (w.heap.size, 0, cs.size)) (lset L l (some cells)) := by
    refine ⟨by omega, fun k y _ hy => ?_, fun β hb hn => ⟨fun ha => ?_, ?_⟩, hout⟩
    · by_cases hkl : k = l
      · subst hkl; rw [hf] at hy; simp at hy
      · rw [supd_other hkl]; exact hy
    · rcases hav β ha with h1 | h1
      · omega
      · exact hn h1
    · exact ho β hb
  refine ⟨⟨?_, ?_, ?_, ?_⟩, hg⟩
  · intro k c hk
    rw [lget_lset] at hk
    by_cases hkl : l = k
    · subst hkl
      simp at hk; subst hk
      refine .inr ⟨w.heap.size, 0, cs.size, cs, T, fr, ⟨supd_same _ _ _, hn, rfl, by omega, ?_, hfr⟩⟩
      intro i x hx
      obtain ⟨v, hv1, hv2⟩ := hv i x hx
      exact ⟨v, by simpa using hv1, hv2.grow hg⟩
    · rw [if_neg hkl] at hk
      rcases h.all k c hk with ⟨h1, h2⟩ | ⟨β, add, size, cc, TT, fr, hb⟩
      · exact .inl ⟨by rw [supd_other (Ne.symm hkl)]; exact h1, h2⟩
      · have hlt : β < w.heap.size := (Array.getElem?_eq_some_iff.1 hb.heap).1
        refine .inr ⟨β, add, size, cc, TT, fr, ⟨by rw [supd_other (Ne.symm hkl)]; exact hb.sig, by rw [ho β hlt]; exact hb.heap, hb.hsz, hb.fits, ?_, hb.frs⟩⟩
        intro i x hx
        obtain ⟨v, hv1, hv2⟩ := hb.vals i x hx
        exact ⟨v, hv1, hv2.grow hg⟩
  · intro k k' c c' β a s a' s' hk hk' hs hs'
    rw [lget_lset] at hk hk'
    by_cases h1 : l = k
    · by_cases h2 : l = k'
      · omega
      · subst h1
        rw [if_neg h2] at hk'
        rw [supd_same] at hs; rw [supd_other (Ne.symm h2)] at hs'
        simp at hs
        have := h.lt ⟨k', c', a', s', hk', hs'⟩
        omega
    · rw [if_neg h1] at hk; rw [supd_other (Ne.symm h1)] at hs
      by_cases h2 : l = k'
      · subst h2
        rw [supd_same] at hs'
        simp at hs'
        have := h.lt ⟨k, c, a, s, hk, hs⟩
        omega
      · rw [if_neg h2] at hk'; rw [supd_other (Ne.symm h2)] at hs'
        exact h.inj k k' c c' β a s a' s' hk hk' hs hs'
  · intro k x hs
    by_cases h1 : k = l
    · subst h1; rw [lget_lset]; simp
    · rw [supd_other h1] at hs
      exact lget_ne_none_lset (h.dom k x hs)
  · intro β hA
    obtain ⟨h1, h2⟩ := h.lo β hA
    refine ⟨by omega, fun ha => ?_⟩
    rcases hav β ha with h3 | h3
    · omega
    · exact h2 h3

/-- A block's content is another one: the world differs in that block alone. -/
theorem BR.write {w w' : World} {σ : Sig} {A : Nat → Prop} {L : Lb} (h : BR w σ A L) {l : Nat} {cells cells' : List PV} (hl : lget L l = some (some cells))
    {β add size : Nat} {c c' : Array Value} {T : TypeId} {fr : Nat × Nat} (hb : Blk w σ (avo A σ L) l cells β add size c T fr)
    (hsz : w'.heap.size = w.heap.size) (ho : ∀ k, k ≠ β → w'.heap[k]? = w.heap[k]?) (hw : w'.heap[β]? = some (.cells c' T fr)) (hc : c'.size = size)
    (hfit : add + cells'.length ≤ size) (hv : ∀ (i : Nat) (x : PV), cells'[i]? = some x → ∃ v, c'[add + i]? = some v ∧ VR w σ (avo A σ L) x v) (hout : w'.os = w.os ∧ w'.output = w.output ∧ w'.tape = w.tape := by first | exact ⟨rfl, rfl, rfl⟩ | assumption) :
    BR w' σ A (lset L l (some cells')) ∧ Grow top w σ L w' σ (lset L l (some cells')) := by
  have hav : ∀ γ, avOf σ (lset L l (some cells')) γ ↔ avOf σ L γ := by
    intro γ
    constructor
    · rintro ⟨k, d, a, s, hk, hs⟩
      rw [lget_lset] at hk
      by_cases hkl : l = k
      · subst hkl; exact ⟨l, cells, a, s, hl, hs⟩
      · rw [if_neg hkl] at hk; exact ⟨k, d, a, s, hk, hs⟩
    · rintro ⟨k, d, a, s, hk, hs⟩
      by_cases hkl : l = k
      · subst hkl; exact ⟨l, cells', a, s, by rw [lget_lset]; simp, hs⟩
      · exact ⟨k, d, a, s, by rw [lget_lset, if_neg hkl]; exact hk, hs⟩
  have hβ : avOf σ L β := ⟨l, cells, add, size, hl, hb.sig⟩
  have hg : Grow top w σ L w' σ (lset L l (some cells')) :=
    ⟨by omega, fun _ _ _ h => h, fun γ hγ hn => ⟨fun ha => hn ((hav γ).1 ha), ho γ (fun e => hn (e ▸ hβ))⟩, hout⟩
  refine ⟨⟨?_, ?_, ?_, ?_⟩, hg⟩
  · intro k d hk
    rw [lget_lset] at hk
    by_cases hkl : l = k
    · subst hkl
      simp at hk; subst hk
      refine .inr ⟨β, add, size, c', T, fr, ⟨hb.sig, hw, hc, hfit, ?_, hb.frs⟩⟩
      intro i x hx
      obtain ⟨v, h1, h2⟩ := hv i x hx
      exact ⟨v, h1, h2.grow hg⟩
    · rw [if_neg hkl] at hk
      rcases h.all k d hk with h1 | ⟨γ, add', size', cc, TT, fr', hb'⟩
      · exact .inl h1
      · have hne : γ ≠ β := fun e => hkl (h.inj l k cells d β add size add' size' hl hk hb.sig (by rw [← e]; exact hb'.sig))
        refine .inr ⟨γ, add', size', cc, TT, fr', ⟨hb'.sig, by rw [ho γ hne]; exact hb'.heap, hb'.hsz, hb'.fits, ?_, hb'.frs⟩⟩
        intro i x hx
        obtain ⟨v, h1, h2⟩ := hb'.vals i x hx
        exact ⟨v, h1, h2.grow hg⟩
  · intro k k' d d' γ a s a' s' hk hk' hs hs'
    have e1 : ∃ d, lget L k = some (some d) := by
      rw [lget_lset] at hk; by_cases hkl : l = k
      · subst hkl; exact ⟨_, hl⟩
      · rw [if_neg hkl] at hk; exact ⟨_, hk⟩
    have e2 : ∃ d, lget L k' = some (some d) := by
      rw [lget_lset] at hk'; by_cases hkl : l = k'
      · subst hkl; exact ⟨_, hl⟩
      · rw [if_neg hkl] at hk'; exact ⟨_, hk'⟩
    obtain ⟨d1, e1⟩ := e1; obtain ⟨d2, e2⟩ := e2
    exact h.inj k k' d1 d2 γ a s a' s' e1 e2 hs hs'
  · intro k x hs
    exact lget_ne_none_lset (h.dom k x hs)
  · intro γ hA
    obtain ⟨h1, h2⟩ := h.lo γ hA
    exact ⟨by omega, fun ha => h2 ((hav γ).1 ha)⟩

/-- A label is let go: nothing is written there any more. -/
theorem BR.drop {w : World} {σ : Sig} {A : Nat → Prop} {L : Lb} (h : BR w σ A L) (l : Nat) :
    BR w σ A (lset L l none) ∧ Grow top w σ L w σ (lset L l none) := by
  have hav : ∀ γ, avOf σ (lset L l none) γ → avOf σ L γ := by
    rintro γ ⟨k, d, a, s, hk, hs⟩
    rw [lget_lset] at hk
    by_cases hkl : l = k
    · rw [if_pos hkl] at hk; simp at hk
    · rw [if_neg hkl] at hk; exact ⟨k, d, a, s, hk, hs⟩
  have hg : Grow top w σ L w σ (lset L l none) := ⟨Nat.le_refl _, fun _ _ _ h => h, fun γ _ hn => ⟨fun ha => hn (hav γ ha), rfl⟩, rfl, rfl, rfl⟩
  refine ⟨⟨?_, ?_, ?_, ?_⟩, hg⟩
  · intro k d hk
    rw [lget_lset] at hk
    by_cases hkl : l = k
    · rw [if_pos hkl] at hk; simp at hk
    · rw [if_neg hkl] at hk
      rcases h.all k d hk with h1 | ⟨γ, add', size', cc, TT, fr', hb'⟩
      · exact .inl h1
      · exact .inr ⟨γ, add', size', cc, TT, fr', ⟨hb'.sig, hb'.heap, hb'.hsz, hb'.fits, fun i x hx => let ⟨v, h1, h2⟩ := hb'.vals i x hx; ⟨v, h1, h2.grow hg⟩, hb'.frs⟩⟩
  · intro k k' d d' γ a s a' s' hk hk' hs hs'
    rw [lget_lset] at hk hk'
    by_cases h1 : l = k
    · rw [if_pos h1] at hk; simp at hk
    · by_cases h2 : l = k'
      · rw [if_pos h2] at hk'; simp at hk'
      · rw [if_neg h1] at hk; rw [if_neg h2] at hk'
        exact h.inj k k' d d' γ a s a' s' hk hk' hs hs'
  · intro k x hs
    exact lget_ne_none_lset (h.dom k x hs)
  · intro γ hA
    obtain ⟨h1, h2⟩ := h.lo γ hA
    exact ⟨h1, fun ha => h2 (hav γ ha)⟩

theorem Rel.grow {E : Env} {A : Nat → Prop} {w w' : World} {σ σ' : Sig} {al : Al} {L L' : Lb} {a : Act} (h : Rel E A w σ al L a) (hb : BR w' σ' A L') (hg : Grow top w σ L w' σ' L') : Rel E A w' σ' al L' a :=
  ⟨fun t x hx => let ⟨v, h1, h2⟩ := h.tmps t x hx; ⟨v, h1, h2.grow hg⟩, hb, fun g cells hc => (h.globals g cells hc).grow hg, h.nodefer⟩

def oset (d : Option Tmp) (x : PV) (al : Al) : Al := match d with | some t => (t, x) :: al | none => al

theorem Rel.put {E : Env} {A : Nat → Prop} {w : World} {σ : Sig} {al : Al} {L : Lb} {a : Act} (h : Rel E A w σ al L a) {d : Option Tmp} (hd : ∀ t, d = some t → t < a.tmps.size) {x : PV} {c : Value}
    (hv : VR w σ (avo A σ L) x c) : Rel E A w σ (oset d x al) L (a.put d c) := by
  refine ⟨?_, h.blocks, h.globals, ?_⟩
  · intro t y hy
    cases d with
    | none => exact h.tmps t y hy
    | some k =>
      simp only [oset, lget] at hy
      have hk := hd k rfl
      split at hy
      · rename_i e; subst e; simp at hy; subst hy
        exact ⟨c, by simp [Act.put, hk], hv⟩
      · rename_i e
        obtain ⟨v, h1, h2⟩ := h.tmps t y hy
        exact ⟨v, by simp [Act.put, e, h1], h2⟩
  · cases d <;> exact h.nodefer

theorem size_put (a : Act) (d : Option Tmp) (c : Value) : (a.put d c).tmps.size = a.tmps.size := by cases d <;> simp [Act.put]

/-! ### Operations -/

theorem Oper_wp_mono {P : Program} {o : Oper} {a : Act} {w : World} {next next' : Act → World → Prop} {Q Q' : Exit → Act → World → Prop} (h : o.wp P a w next Q)
    (hn : ∀ a w, next a w → next' a w) (hq : ∀ e a w, Q e a w → Q' e a w) : o.wp P a w next' Q' := by
  unfold Oper.wp at *
  unfold Oper.upon at *
  split at h
  · exact hn _ _ h
  · exact hn _ _ h
  · exact hn _ _ h
  · refine Calls.mono h ?_
    rintro e w' he
    cases e with
    | returned v => exact hn _ _ he
    | panicked ch => exact hq _ _ _ he
    | outgrown => obtain ⟨a, w, h⟩ := he; exact ⟨a, w, hq _ _ _ h⟩
  · exact Rows.mono h fun _ _ => hn _ _
  · exact hq _ _ _ h
  · exact h.elim

def OpPost (A : Nat → Prop) (w : World) (σ : Sig) (L : Lb) (a : Act) (d : Option Tmp) (x : PV) (wl : Lb) (a' : Act) (w' : World) : Prop :=
  ∃ σ' c, a' = a.put d c ∧ VR w' σ' (avo A σ' (lupd L wl)) x c ∧ BR w' σ' A (lupd L wl) ∧ Grow top w σ L w' σ' (lupd L wl)

/-- What an operation does: the slots 'ra' and the blocks 'rl' that it looks at; what it gives; what it makes of blocks. -/
def AOp (E : Env) (o : Oper) (ra : Al) (rl : Lb) (x : PV) (wl : Lb) : Prop :=
  ∀ A w σ al L a, Rel E A w σ al L a → (∀ t y, lget ra t = some y → lget al t = some y) → (∀ l y, lget rl l = some y → lget L l = some y) → (∀ p ∈ wl, lget rl p.1 ≠ none ∨ lget L p.1 = none) →
    o.wp E.P a w (OpPost A w σ L a o.dst x wl) fun _ _ _ => False

def AWl (E : Env) (K : Nat → Prop) (n : Nat) (ops : Array Oper) (rest : List Oper) (Q : Exit → Al → Lb → Prop) (al : Al) (L : Lb) : Prop :=
  ∀ A w σ a, Rel E A w σ al L a → a.tmps.size = n → wpList E.P ops (Post E K A w σ L n Q) rest a w

section
variable {E : Env} {K : Nat → Prop} {n : Nat} {al : Al} {L : Lb} {ops : Array Oper} {rest : List Oper} {o : Oper} {Q : Exit → Al → Lb → Prop}

theorem wpList_mono {P : Program} {ops : Array Oper} {Q Q' : Exit → Act → World → Prop} (hq : ∀ e a w, Q e a w → Q' e a w) : ∀ (l : List Oper) (a : Act) (w : World), wpList P ops Q l a w → wpList P ops Q' l a w
  | [], a, w, h => hq _ _ _ h
  | o :: r, a, w, h => by
    simp only [wpList] at *
    split
    · rename_i hw
      rw [if_pos hw] at h
      rcases h with h | ⟨h, a', w', h'⟩
      · exact .inl (Oper_wp_mono h (fun a w => wpList_mono hq r a w) hq)
      · exact .inr ⟨h, a', w', hq _ _ _ h'⟩
    · rename_i hw
      rw [if_neg hw] at h
      exact wpList_mono hq r _ _ h

theorem AWl_nil (h : Q .normal al L) : AWl E K n ops [] Q al L := fun A w σ a r t => ⟨al, L, σ, h, r, Grow.refl _ _ _ _, t⟩

theorem AW_region {id : Nat} {ops : Array Oper} (h : AWl E K n ops ops.toList Q al L) : AW E K n (.region id ops false) Q al L :=
  fun A w σ a r t => wp_region_list (h A w σ a r t)

/-- Is an operation wanted? (Its guard's slot is told.) -/
def wants (ops : Array Oper) (al : Al) (o : Oper) : Option Bool :=
  match o.guard with
  | none => some true
  | some (j, want) => match (ops[j]?).bind (·.dst) with
    | some d => match lget al d with
      | some (.bool b) => some (b == want)
      | some .dead => some false
      | _ => none
    | none => none

theorem wants_ok {A : Nat → Prop} {w : World} {σ : Sig} {a : Act} (r : Rel E A w σ al L a) {b : Bool} (h : wants ops al o = some b) : Region.wanted o (yielded ops a.tmps) = b := by
  unfold wants at h
  unfold Region.wanted
  split at h
  · rename_i hg; rw [hg]; simp at h; exact h.symm ▸ rfl
  · rename_i j want hg
    rw [hg]
    split at h
    · rename_i d hd
      split at h
      · rename_i c hc
        obtain ⟨v, hv, hr⟩ := r.tmps d _ hc
        cases hr
        simp at h
        simp only [yielded, hd, Option.bind_some, hv]
        rw [← h]
        cases c <;> cases want <;> rfl
      · rename_i hc
        obtain ⟨v, hv, hr⟩ := r.tmps d _ hc
        cases hr
        simp at h
        simp only [yielded, hd, Option.bind_some, hv]
        rw [h]
        cases want <;> rfl
      · simp at h
    · simp at h

/-- One operation that runs. -/
theorem AWl_op {ra : Al} {rl : Lb} {x : PV} {wl : Lb} (h : AOp E o ra rl x wl) (hd : ∀ t, o.dst = some t → t < n) (h1 : ∀ t y, lget ra t = some y → lget al t = some y) (h2 : ∀ l y, lget rl l = some y → lget L l = some y)
    (h3 : ∀ p ∈ wl, lget rl p.1 ≠ none ∨ lget L p.1 = none) (hg : wants ops al o = some true)
    (k : AWl E K n ops rest Q (oset o.dst x al) (lupd L wl)) : AWl E K n ops (o :: rest) Q al L := by
  intro A w σ a r t
  simp only [wpList]
  rw [if_pos (wants_ok r hg)]
  refine .inl (Oper_wp_mono (h A w σ al L a r h1 h2 h3) ?_ fun _ _ _ h => h.elim)
  rintro a' w' ⟨σ', c, rfl, hv, hb, hgr⟩
  have r' := (r.grow hb hgr).put (d := o.dst) (fun u hu => by rw [t]; exact hd u hu) hv
  refine wpList_mono ?_ _ _ _ (k A w' σ' _ r' (by rw [size_put]; exact t))
  exact fun e a w h => Post.trans (hgr.weaken fun _ _ => trivial) h

theorem AWl_skip (hg : wants ops al o = some false) (hd : ∀ t, o.dst = some t → t < n)
    (k : AWl E K n ops rest Q (oset o.dst .dead al) L) : AWl E K n ops (o :: rest) Q al L := by
  intro A w σ a r t
  simp only [wpList]
  rw [if_neg (by rw [wants_ok r hg]; simp)]
  exact k A w σ _ (r.put (d := o.dst) (fun u hu => by rw [t]; exact hd u hu) .dead) (by rw [size_put]; exact t)

end
end Go.SH
