/- Symbolic states over the model's machine: values that bear what their memory holds, and what such a state says of a world. No program is named here. -/
import Derived.WalkKit
set_option linter.unusedVariables false
set_option linter.unusedSimpArgs false
namespace Go.SH

/-- A value told by what it holds. Labels name the blocks that this call may write. -/
inductive PV where
  | dead
  | int (k : IntKind) (n : Int)
  | bool (b : Bool)
  | str (s : List UInt8)
  | nilp
  | ptr (l off : Nat)
  | rop (cells : List PV) (off : Nat)
  | nils
  | ro (cells : List PV) (n : Nat) (co : Option Nat)
  | rw (l off n sz : Nat) (co : Option Nat)
  | fn (f : FuncId) (caps : List PV)
  | nilf
  | iface (t : TypeId) (v : PV)
  | nili
  | agg (cells : List PV)
  | tup (vs : List PV)
  deriving Inhabited

abbrev Sig := Nat → Option (Nat × Nat × Nat)

/-- Memory that nobody writes: the cells from 'add' on in the block 'β'. -/
structure Imm (w : World) (av : Nat → Prop) (β add : Nat) (cs : List Value) : Prop where
  lt : β < w.heap.size
  na : ¬ av β
  cell : ∀ i v, cs[i]? = some v → w.cell? ⟨β, add + i, none⟩ = some v

inductive VR (w : World) (σ : Sig) (av : Nat → Prop) : PV → Value → Prop where
  | dead : VR w σ av .dead undef
  | int (k : IntKind) (n : Int) : VR w σ av (.int k n) (.int k n)
  | bool (b : Bool) : VR w σ av (.bool b) (.bool b)
  | str (l : List UInt8) : VR w σ av (.str l) (.string ⟨⟨l⟩⟩)
  | nilp : VR w σ av .nilp (.pointer none)
  | ptr {l off β add size : Nat} (h : σ l = some (β, add, size)) : VR w σ av (.ptr l off) (.pointer (some ⟨β, add + off, none⟩))
  | rop {cells : List PV} {off β add : Nat} (cs : List Value) (him : Imm w av β add cs) (hl : cells.length = cs.length)
      (hv : ∀ (i : Nat) (x : PV) (v : Value), cells[i]? = some x → cs[i]? = some v → VR w σ av x v) : VR w σ av (.rop cells off) (.pointer (some ⟨β, add + off, none⟩))
  | nils : VR w σ av .nils (.slice none 0 0)
  | roE {co : Option Nat} (a : Option Addr) (cap : Nat) (hc : ∀ c, co = some c → cap = c) : VR w σ av (.ro [] 0 co) (.slice a 0 cap)
  | ro {cells : List PV} {n : Nat} {co : Option Nat} {β add cap : Nat} (cs : List Value) (him : Imm w av β add cs) (hl : cells.length = cs.length)
      (hv : ∀ (i : Nat) (x : PV) (v : Value), cells[i]? = some x → cs[i]? = some v → VR w σ av x v) (hn : n ≤ cap) (hc : ∀ c, co = some c → cap = c) :
      VR w σ av (.ro cells n co) (.slice (some ⟨β, add, none⟩) n cap)
  | rwE {l off sz : Nat} {co : Option Nat} (a : Option Addr) (hc : ∀ c, co = some c → c = 0) : VR w σ av (.rw l off 0 sz co) (.slice a 0 0)
  | rw {l off n sz : Nat} {co : Option Nat} {β add size cap : Nat} (h : σ l = some (β, add, size)) (hn : n ≤ cap) (hc : ∀ c, co = some c → cap = c)
      (hs : add + off + cap * sz ≤ size) : VR w σ av (.rw l off n sz co) (.slice (some ⟨β, add + off, none⟩) n cap)
  | fn {caps : List PV} (f : FuncId) (cs : List Value) (hl : caps.length = cs.length)
      (hv : ∀ (i : Nat) (x : PV) (v : Value), caps[i]? = some x → cs[i]? = some v → VR w σ av x v) : VR w σ av (.fn f caps) (.func (.func f) #[] cs.toArray)
  | nilf : VR w σ av .nilf .nilFunc
  | iface {x : PV} (t : TypeId) (v : Value) (h : VR w σ av x v) : VR w σ av (.iface t x) (.iface t v)
  | nili : VR w σ av .nili .nilIface
  | agg {cells : List PV} (cs : List Value) (hl : cells.length = cs.length)
      (hv : ∀ (i : Nat) (x : PV) (v : Value), cells[i]? = some x → cs[i]? = some v → VR w σ av x v) : VR w σ av (.agg cells) (.agg cs.toArray)
  | tup {cells : List PV} (cs : List Value) (hl : cells.length = cs.length)
      (hv : ∀ (i : Nat) (x : PV) (v : Value), cells[i]? = some x → cs[i]? = some v → VR w σ av x v) : VR w σ av (.tup cells) (.tuple cs.toArray)

theorem Imm.mono {w w' : World} {av av' : Nat → Prop} {β add : Nat} {cs : List Value} (h : Imm w av β add cs)
    (hs : w.heap.size ≤ w'.heap.size) (hw : ∀ β, β < w.heap.size → ¬ av β → ¬ av' β ∧ w'.heap[β]? = w.heap[β]?) : Imm w' av' β add cs :=
  ⟨Nat.lt_of_lt_of_le h.lt hs, (hw β h.lt h.na).1, fun i v hv => by
    have := h.cell i v hv
    simpa [World.cell?, (hw β h.lt h.na).2] using this⟩

theorem VR.mono {w w' : World} {σ σ' : Sig} {av av' : Nat → Prop} {x : PV} {v : Value} (h : VR w σ av x v)
    (hσ : ∀ l y, σ l = some y → σ' l = some y) (hs : w.heap.size ≤ w'.heap.size)
    (hw : ∀ β, β < w.heap.size → ¬ av β → ¬ av' β ∧ w'.heap[β]? = w.heap[β]?) : VR w' σ' av' x v := by
  induction h with
  | dead => exact .dead
  | int k n => exact .int k n
  | bool b => exact .bool b
  | str l => exact .str l
  | nilp => exact .nilp
  | ptr h => exact .ptr (hσ _ _ h)
  | rop cs him hl _ ih => exact .rop cs (him.mono hs hw) hl ih
  | nils => exact .nils
  | roE a cap hc => exact .roE a cap hc
  | ro cs him hl _ hn hc ih => exact .ro cs (him.mono hs hw) hl ih hn hc
  | rwE a hc => exact .rwE a hc
  | rw h hn hc hs' => exact .rw (hσ _ _ h) hn hc hs'
  | fn f cs hl _ ih => exact .fn f cs hl ih
  | nilf => exact .nilf
  | iface t v _ ih => exact .iface t v ih
  | nili => exact .nili
  | agg cs hl _ ih => exact .agg cs hl ih
  | tup cs hl _ ih => exact .tup cs hl ih

/-! ### States -/

def lget {α : Type} : List (Nat × α) → Nat → Option α
  | [], _ => none
  | (k, x) :: r, l => if k = l then some x else lget r l

def lset {α : Type} : List (Nat × α) → Nat → α → List (Nat × α)
  | [], l, y => [(l, y)]
  | (k, x) :: r, l, y => if k = l then (k, y) :: r else (k, x) :: lset r l y

def lupd {α : Type} (L : List (Nat × α)) (wl : List (Nat × α)) : List (Nat × α) := wl.foldl (fun L p => lset L p.1 p.2) L

theorem lget_lset {α : Type} (L : List (Nat × α)) (l k : Nat) (y : α) : lget (lset L l y) k = if l = k then some y else lget L k := by
  induction L with
  | nil => simp [lset, lget]
  | cons p r ih =>
    obtain ⟨j, x⟩ := p
    simp only [lset]
    split
    · rename_i h; subst h; simp only [lget]; split <;> simp_all
    · rename_i h
      simp only [lget, ih]
      by_cases hj : j = k
      · subst hj; simp; intro hl; exact absurd hl.symm h
      · simp [hj]

abbrev Al := List (Nat × PV)
abbrev Lb := List (Nat × Option (List PV))

def avOf (σ : Sig) (L : Lb) (β : Nat) : Prop := ∃ l cells a s, lget L l = some (some cells) ∧ σ l = some (β, a, s)
def avo (A : Nat → Prop) (σ : Sig) (L : Lb) (β : Nat) : Prop := A β ∨ avOf σ L β

structure Blk (w : World) (σ : Sig) (av : Nat → Prop) (l : Nat) (cells : List PV) (β add size : Nat) (c : Array Value) (T : TypeId) (fr : Nat × Nat) : Prop where
  sig : σ l = some (β, add, size)
  heap : w.heap[β]? = some (.cells c T fr)
  hsz : c.size = size
  fits : add + cells.length ≤ size
  vals : ∀ i x, cells[i]? = some x → ∃ v, c[add + i]? = some v ∧ VR w σ av x v
  frs : fr.1 = fr.2 ∨ size ≤ fr.1

theorem Blk.free {w : World} {σ : Sig} {av : Nat → Prop} {l : Nat} {cells : List PV} {β add size : Nat} {c : Array Value} {T : TypeId} {fr : Nat × Nat} (h : Blk w σ av l cells β add size c T fr) :
    ∀ j, add ≤ j → j < size → ¬ (fr.1 ≤ j ∧ j < fr.2) := by
  have := h.frs; intro j h1 h2; omega

structure BR (w : World) (σ : Sig) (A : Nat → Prop) (L : Lb) : Prop where
  all : ∀ l cells, lget L l = some (some cells) → (σ l = none ∧ cells = []) ∨ ∃ β add size c T fr, Blk w σ (avo A σ L) l cells β add size c T fr
  inj : ∀ l l' c c' β a s a' s', lget L l = some (some c) → lget L l' = some (some c') → σ l = some (β, a, s) → σ l' = some (β, a', s') → l = l'
  dom : ∀ l x, σ l = some x → lget L l ≠ none
  lo : ∀ β, A β → β < w.heap.size ∧ ¬ avOf σ L β

structure Env where
  P : Program
  G : List (Nat × List PV)

structure Rel (E : Env) (A : Nat → Prop) (w : World) (σ : Sig) (al : Al) (L : Lb) (a : Act) : Prop where
  tmps : ∀ t x, lget al t = some x → ∃ v, a.tmps[t]? = some v ∧ VR w σ (avo A σ L) x v
  blocks : BR w σ A L
  globals : ∀ g cells, lget E.G g = some cells → VR w σ (avo A σ L) (.rop cells 0) (.pointer (some ⟨g, 0, none⟩))
  nodefer : a.defers = []

structure Grow (K : Nat → Prop) (w : World) (σ : Sig) (L : Lb) (w' : World) (σ' : Sig) (L' : Lb) : Prop where
  size : w.heap.size ≤ w'.heap.size
  sig : ∀ l y, K l → σ l = some y → σ' l = some y
  keep : ∀ β, β < w.heap.size → ¬ avOf σ L β → ¬ avOf σ' L' β ∧ w'.heap[β]? = w.heap[β]?
  out : w'.os = w.os ∧ w'.output = w.output ∧ w'.tape = w.tape 

theorem Grow.refl (K : Nat → Prop) (w : World) (σ : Sig) (L : Lb) : Grow K w σ L w σ L := ⟨Nat.le_refl _, fun _ _ _ h => h, fun _ _ h => ⟨h, rfl⟩, rfl, rfl, rfl⟩
theorem Grow.trans {K : Nat → Prop} {w w' w'' : World} {σ σ' σ'' : Sig} {L L' L'' : Lb} (h : Grow K w σ L w' σ' L') (h' : Grow K w' σ' L' w'' σ'' L'') : Grow K w σ L w'' σ'' L'' :=
  ⟨Nat.le_trans h.size h'.size, fun l y k hy => h'.sig l y k (h.sig l y k hy), fun β hb hn => by
    obtain ⟨h1, h2⟩ := h.keep β hb hn
    obtain ⟨h3, h4⟩ := h'.keep β (Nat.lt_of_lt_of_le hb h.size) h1
    exact ⟨h3, h4.trans h2⟩, h'.out.1.trans h.out.1, h'.out.2.1.trans h.out.2.1, h'.out.2.2.trans h.out.2.2⟩
theorem Grow.weaken {K K' : Nat → Prop} {w w' : World} {σ σ' : Sig} {L L' : Lb} (h : Grow K w σ L w' σ' L') (hk : ∀ l, K' l → K l) : Grow K' w σ L w' σ' L' :=
  ⟨h.size, fun l y k => h.sig l y (hk l k), h.keep, h.out⟩

def top : Nat → Prop := fun _ => True

/-- A value of before is one of after, where every label stays. -/
theorem VR.grow {A : Nat → Prop} {w w' : World} {σ σ' : Sig} {L L' : Lb} {x : PV} {v : Value} (h : VR w σ (avo A σ L) x v) (hg : Grow top w σ L w' σ' L') : VR w' σ' (avo A σ' L') x v :=
  h.mono (fun l y hy => hg.sig l y trivial hy) hg.size fun β hb hn => by
    have h1 : ¬ A β := fun h => hn (.inl h)
    have h2 : ¬ avOf σ L β := fun h => hn (.inr h)
    obtain ⟨h3, h4⟩ := hg.keep β hb h2
    exact ⟨fun h => h.elim h1 h3, h4⟩

/-! ### What a piece of code does to a state -/

def Post (E : Env) (K : Nat → Prop) (A : Nat → Prop) (w : World) (σ : Sig) (L : Lb) (n : Nat) (Q : Exit → Al → Lb → Prop) : Exit → Act → World → Prop :=
  fun e a' w' => ∃ al' L' σ', Q e al' L' ∧ Rel E A w' σ' al' L' a' ∧ Grow K w σ L w' σ' L' ∧ a'.tmps.size = n

def AW (E : Env) (K : Nat → Prop) (n : Nat) (c : Code) (Q : Exit → Al → Lb → Prop) (al : Al) (L : Lb) : Prop :=
  ∀ A w σ a, Rel E A w σ al L a → a.tmps.size = n → c.wp E.P (Post E K A w σ L n Q) a w

section rules
variable {E : Env} {K : Nat → Prop} {n : Nat} {al : Al} {L : Lb}

theorem Post.trans {A : Nat → Prop} {w w' : World} {σ σ' : Sig} {L L' : Lb} {Q : Exit → Al → Lb → Prop} {e : Exit} {a : Act} {w'' : World} (h : Grow K w σ L w' σ' L')
    (h' : Post E K A w' σ' L' n Q e a w'') : Post E K A w σ L n Q e a w'' :=
  let ⟨al', L'', σ'', q, r, g, t⟩ := h'
  ⟨al', L'', σ'', q, r, h.trans g, t⟩

theorem AW.mono {c : Code} {Q Q' : Exit → Al → Lb → Prop} (h : AW E K n c Q al L) (hq : ∀ e al L, Q e al L → Q' e al L) : AW E K n c Q' al L :=
  fun A w σ a r t => wp_mono (h A w σ a r t) fun _ _ _ ⟨al', L', σ', q, r⟩ => ⟨al', L', σ', hq _ _ _ q, r⟩

theorem AW_skip {Q : Exit → Al → Lb → Prop} (h : Q .normal al L) : AW E K n .skip Q al L :=
  fun _ w σ _ r t => wp_skip ⟨al, L, σ, h, r, Grow.refl _ _ _ _, t⟩
theorem AW_label {l : Nat} {Q : Exit → Al → Lb → Prop} (h : Q .normal al L) : AW E K n (.label l) Q al L :=
  fun _ w σ _ r t => wp_label ⟨al, L, σ, h, r, Grow.refl _ _ _ _, t⟩
theorem AW_exit {i : Nat} {Q : Exit → Al → Lb → Prop} (h : Q (.exit i) al L) : AW E K n (.exit i) Q al L :=
  fun _ w σ _ r t => wp_exit ⟨al, L, σ, h, r, Grow.refl _ _ _ _, t⟩
theorem AW_goto {i : Nat} {Q : Exit → Al → Lb → Prop} (h : Q (.goto i) al L) : AW E K n (.goto i) Q al L :=
  fun _ w σ _ r t => wp_goto ⟨al, L, σ, h, r, Grow.refl _ _ _ _, t⟩
theorem AW_ret {Q : Exit → Al → Lb → Prop} (h : Q .ret al L) : AW E K n .ret Q al L :=
  fun _ w σ _ r t => wp_ret ⟨al, L, σ, h, r, Grow.refl _ _ _ _, t⟩

def athen (N : Al → Lb → Prop) (Q : Exit → Al → Lb → Prop) : Exit → Al → Lb → Prop
  | .normal, al, L => N al L
  | e, al, L => Q e al L

theorem AW_seq {x y : Code} {Q : Exit → Al → Lb → Prop} (h : AW E K n x (athen (AW E K n y Q) Q) al L) : AW E K n (.seq x y) Q al L := by
  intro A w σ a r t
  refine wp_seq (wp_mono (h A w σ a r t) ?_)
  rintro e a' w' ⟨al', L', σ', q, r', g, t'⟩
  cases e <;> first
    | exact wp_mono (q A w' σ' a' r' t') fun _ _ _ p => Post.trans g p
    | exact ⟨al', L', σ', q, r', g, t'⟩

theorem eval_tmp {a : Act} {t : Nat} {v : Value} (h : a.tmps[t]? = some v) : a.eval (.tmp t) = v := by
  simp [Act.eval, Array.getD_eq_getD_getElem?, h]

theorem AW_cond {t : Nat} {b : Bool} {x y : Code} {Q : Exit → Al → Lb → Prop} (hc : lget al t = some (.bool b)) (h1 : b = true → AW E K n x Q al L) (h2 : b = false → AW E K n y Q al L) :
    AW E K n (.cond (.tmp t) x y) Q al L := by
  intro A w σ a r tt
  obtain ⟨v, hv, hr⟩ := r.tmps t _ hc
  cases hr
  exact wp_cond_split (t := b) (eval_tmp hv) (fun h => h1 h A w σ a r tt) (fun h => h2 h A w σ a r tt)

theorem AW_cond_const {b : Bool} {x y : Code} {Q : Exit → Al → Lb → Prop} (h1 : b = true → AW E K n x Q al L) (h2 : b = false → AW E K n y Q al L) :
    AW E K n (.cond (.const (.bool b)) x y) Q al L := by
  intro A w σ a r tt
  exact wp_cond_split (t := b) rfl (fun h => h1 h A w σ a r tt) (fun h => h2 h A w σ a r tt)

def ablock (i : Nat) (Q : Exit → Al → Lb → Prop) : Exit → Al → Lb → Prop
  | .exit j, al, L => if j = i then Q .normal al L else Q (.exit j) al L
  | e, al, L => Q e al L

theorem AW_block {i : Nat} {c : Code} {Q : Exit → Al → Lb → Prop} (h : AW E K n c (ablock i Q) al L) : AW E K n (.block i c) Q al L := by
  intro A w σ a r t
  refine wp_block (wp_mono (h A w σ a r t) ?_)
  rintro e a' w' ⟨al', L', σ', q, r'⟩
  cases e with
  | exit j =>
    simp only [ablock] at q
    simp only [Exit.inBlock]
    split at q
    · rename_i hj; rw [if_pos hj]; exact ⟨al', L', σ', q, r'⟩
    · rename_i hj; rw [if_neg hj]; exact ⟨al', L', σ', q, r'⟩
  | _ => exact ⟨al', L', σ', q, r'⟩

/-- A loop: I holds at the head of each round, μ sinks. -/
theorem AW_loop {c : Code} {Q : Exit → Al → Lb → Prop} (I : Al → Lb → Prop) (μ : Al → Lb → Nat) (h0 : I al L)
    (round : ∀ al L, I al L → AW E K n c (athen (fun al' L' => I al' L' ∧ μ al' L' < μ al L) Q) al L) : AW E K n (.loop c) Q al L := by
  intro A w σ a r t b k cs
  have key : ∀ m al L w σ a, μ al L = m → I al L → Rel E A w σ al L a → a.tmps.size = n →
      ∃ e a' w', Post E K A w σ L n Q e a' w' ∧ Arrives E.P (lone (b.at a (.code c :: .inLoop c :: k)) cs w) b k cs e a' w' := by
    intro m
    induction m using Nat.strongRecOn with
    | _ m ih =>
      intro al L w σ a hm hI hr ht
      obtain ⟨e, a₁, w₁, ⟨al₁, L₁, σ₁, q, r₁, g₁, t₁⟩, harr⟩ := round al L hI A w σ a hr ht b (.inLoop c :: k) cs
      cases e with
      | normal =>
        obtain ⟨hI₁, hlt⟩ := q
        obtain ⟨e₂, a₂, w₂, hq₂, harr₂⟩ := ih (μ al₁ L₁) (hm ▸ hlt) al₁ L₁ w₁ σ₁ a₁ rfl hI₁ r₁ t₁
        exact ⟨e₂, a₂, w₂, Post.trans g₁ hq₂, .of_steps (Steps.trans harr (.one step_inLoop)) harr₂⟩
      | exit id => exact ⟨_, a₁, w₁, ⟨al₁, L₁, σ₁, q, r₁, g₁, t₁⟩, .pass (x := .inLoop c) rfl (fun _ _ => .inl (by simp)) harr⟩
      | goto l => exact ⟨_, a₁, w₁, ⟨al₁, L₁, σ₁, q, r₁, g₁, t₁⟩, .pass (x := .inLoop c) rfl (fun _ _ => .inl (by simp)) harr⟩
      | ret => exact ⟨_, a₁, w₁, ⟨al₁, L₁, σ₁, q, r₁, g₁, t₁⟩, .pass (x := .inLoop c) rfl (fun _ _ => .inl (by simp)) harr⟩
      | panic ch => exact ⟨_, a₁, w₁, ⟨al₁, L₁, σ₁, q, r₁, g₁, t₁⟩, .pass (x := .inLoop c) rfl (fun _ _ => .inl (by simp)) harr⟩
      | outgrown => exact ⟨_, a₁, w₁, ⟨al₁, L₁, σ₁, q, r₁, g₁, t₁⟩, .pass (x := .inLoop c) rfl (fun _ _ => .inl (by simp)) harr⟩
  obtain ⟨e, a', w', hq, harr⟩ := key _ al L w σ a rfl h0 r t
  exact ⟨e, a', w', hq, .of_steps (.one step_loop) harr⟩

/-- Fewer slots may be told. -/
theorem AW_sub {c : Code} {Q : Exit → Al → Lb → Prop} (al' : Al) (hs : ∀ p ∈ al', lget al p.1 = some p.2) (h : AW E K n c Q al' L) : AW E K n c Q al L := by
  intro A w σ a r t
  refine h A w σ a ⟨fun s x hx => ?_, r.blocks, r.globals, r.nodefer⟩ t
  have : (s, x) ∈ al' := by
    clear hs h r
    induction al' with
    | nil => simp [lget] at hx
    | cons p q ih =>
      obtain ⟨k, y⟩ := p
      simp only [lget] at hx
      split at hx
      · rename_i hk; subst hk; simp at hx; subst hx; simp
      · exact List.mem_cons_of_mem _ (ih hx)
  exact r.tmps s x (hs _ this)
end rules

/-! ### Calls -/

def ACalls (E : Env) (f : FuncId) (args : List PV) (L : Lb) (R : PV → Lb → Prop) : Prop :=
  ∀ A w σ (cargs : List Value), cargs.length = args.length → (∀ (i : Nat) (x : PV) (v : Value), args[i]? = some x → cargs[i]? = some v → VR w σ (avo A σ L) x v) → BR w σ A L →
    (∀ g cells, lget E.G g = some cells → VR w σ (avo A σ L) (.rop cells 0) (.pointer (some ⟨g, 0, none⟩))) →
    Calls E.P f cargs.toArray w fun e w' => ∃ r c L' σ', e = .returned c ∧ R r L' ∧ VR w' σ' (avo A σ' L') r c ∧ BR w' σ' A L' ∧ Grow (fun l => lget L l ≠ none) w σ L w' σ' L'

theorem ACalls.mono {E : Env} {f : FuncId} {args : List PV} {L : Lb} {R R' : PV → Lb → Prop} (h : ACalls E f args L R) (hr : ∀ r L, R r L → R' r L) : ACalls E f args L R' :=
  fun A w σ cargs hl hv hb hg => (h A w σ cargs hl hv hb hg).mono fun _ _ ⟨r, c, L', σ', he, hR, hx⟩ => ⟨r, c, L', σ', he, hr _ _ hR, hx⟩

def entry : List PV → Nat → Al
  | [], _ => []
  | x :: r, i => (i, x) :: entry r (i + 1)

theorem lget_entry (args : List PV) : ∀ i t x, lget (entry args i) t = some x → i ≤ t ∧ args[t - i]? = some x := by
  induction args with
  | nil => intro i t x h; simp [entry, lget] at h
  | cons y r ih =>
    intro i t x h
    simp only [entry, lget] at h
    split at h
    · rename_i hk; subst hk; simp at h; subst h; simp
    · rename_i hk
      obtain ⟨h1, h2⟩ := ih (i + 1) t x h
      refine ⟨by omega, ?_⟩
      have : t - i = (t - (i + 1)) + 1 := by omega
      rw [this]; simpa using h2

/-- What a function's end tells: its results, read off the state. -/
def resOf (rs : Array ResultVar) (al : Al) : Option (List PV) := rs.toList.mapM fun
  | .tmp t => lget al t
  | .cell _ _ => none

theorem mapM_ok {α : Type} {P : Program} {w : World} (f : α → Sem Value) : ∀ (l : List α) (vs : List Value), l.length = vs.length → (∀ (i : Nat) (x : α) (v : Value), l[i]? = some x → vs[i]? = some v → (f x).run P w = .ok v w) → (l.mapM f).run P w = .ok vs w
  | [], [], _, _ => rfl
  | x :: l, v :: vs, hl, h => by
    have h0 := h 0 x v rfl rfl
    have ih := mapM_ok f l vs (by simpa using hl) fun i y u hy hu => h (i + 1) y u (by simpa using hy) (by simpa using hu)
    simp only [List.mapM_cons, Sem.run_bind, h0, Result.andThen_ok, ih, Sem.run_pure]

end Go.SH
