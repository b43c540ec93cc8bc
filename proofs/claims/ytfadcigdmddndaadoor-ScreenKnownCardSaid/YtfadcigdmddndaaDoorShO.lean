/- Letting go of what is known; calls of functions that write nothing of their caller's; calls that do. -/
import Derived.Test.YtfadcigdmddndaaDoorShN
set_option linter.unusedVariables false
set_option linter.unusedSimpArgs false
namespace Go.SH

/-- A state that says less. -/
def Weak (E : Env) (K : Nat → Prop) (al : Al) (L : Lb) (al' : Al) (L' : Lb) : Prop :=
  ∀ A w σ a, Rel E A w σ al L a → ∃ σ', Rel E A w σ' al' L' a ∧ Grow K w σ L w σ' L'

section
variable {E : Env} {K : Nat → Prop} {n : Nat} {al al' al'' : Al} {L L' L'' : Lb} {Q : Exit → Al → Lb → Prop} {ops : Array Oper} {rest : List Oper}

theorem Weak.refl : Weak E K al L al L := fun _ w σ _ r => ⟨σ, r, Grow.refl _ _ _ _⟩
theorem Weak.trans (h : Weak E K al L al' L') (h' : Weak E K al' L' al'' L'') : Weak E K al L al'' L'' := fun A w σ a r =>
  let ⟨σ', r', g⟩ := h A w σ a r
  let ⟨σ'', r'', g'⟩ := h' A w σ' a r'
  ⟨σ'', r'', g.trans g'⟩

theorem AW_weak {c : Code} (hw : Weak E K al L al' L') (h : AW E K n c Q al' L') : AW E K n c Q al L := fun A w σ a r t =>
  let ⟨σ', r', g⟩ := hw A w σ a r
  wp_mono (h A w σ' a r' t) fun _ _ _ p => Post.trans g p
theorem AWl_weak (hw : Weak E K al L al' L') (h : AWl E K n ops rest Q al' L') : AWl E K n ops rest Q al L := fun A w σ a r t =>
  let ⟨σ', r', g⟩ := hw A w σ a r
  wpList_mono (fun _ _ _ p => Post.trans g p) _ _ _ (h A w σ' a r' t)

/-- The end of a piece of code in a state that says less. -/
theorem AW_post {c : Code} {Q' : Exit → Al → Lb → Prop} (h : AW E K n c Q' al L) (hq : ∀ e al L, Q' e al L → ∃ al' L', Weak E K al L al' L' ∧ Q e al' L') : AW E K n c Q al L := fun A w σ a r t =>
  wp_mono (h A w σ a r t) fun e a' w' ⟨al1, L1, σ1, q, r1, g1, t1⟩ =>
    let ⟨al2, L2, hw, q2⟩ := hq e al1 L1 q
    let ⟨σ2, r2, g2⟩ := hw A w' σ1 a' r1
    ⟨al2, L2, σ2, q2, r2, g1.trans g2, t1⟩

theorem Weak.sub (hs : ∀ p ∈ al', lget al p.1 = some p.2) : Weak E K al L al' L := fun _ w σ _ r =>
  ⟨σ, ⟨fun t x hx => r.tmps t x (hs _ (mem_of_lget hx)), r.blocks, r.globals, r.nodefer⟩, Grow.refl _ _ _ _⟩

theorem avOf_congr {σ : Sig} (h : ∀ l, lget L' l = lget L l) (β : Nat) : avOf σ L' β ↔ avOf σ L β := by simp only [avOf, h]

/-- The same blocks, told in another order. -/
theorem Weak.eqL (h : ∀ l, lget L' l = lget L l) : Weak E K al L al L' := by
  intro A w σ a r
  have hg : Grow top w σ L w σ L' := ⟨Nat.le_refl _, fun _ _ _ h => h, fun β _ hn => ⟨fun ha => hn ((avOf_congr h β).1 ha), rfl⟩, rfl, rfl, rfl⟩
  refine ⟨σ, r.grow ⟨?_, ?_, ?_, ?_⟩ hg, hg.weaken fun _ _ => trivial⟩
  · intro l cells hl
    rw [h] at hl
    rcases r.blocks.all l cells hl with h1 | ⟨β, add, size, c, T, fr, hB⟩
    · exact .inl h1
    · exact .inr ⟨β, add, size, c, T, fr, ⟨hB.sig, hB.heap, hB.hsz, hB.fits, fun i x hx => let ⟨v, h1, h2⟩ := hB.vals i x hx; ⟨v, h1, h2.grow hg⟩, hB.frs⟩⟩
  · intro l l' c c' β a s a' s' h1 h2; rw [h] at h1 h2; exact r.blocks.inj l l' c c' β a s a' s' h1 h2
  · intro l x hx; rw [h]; exact r.blocks.dom l x hx
  · intro β hA; obtain ⟨h1, h2⟩ := r.blocks.lo β hA; exact ⟨h1, fun ha => h2 ((avOf_congr h β).1 ha)⟩

end

/-! ### what is handed out -/
/-- A value as one that nobody writes any more. -/
inductive Out (L : Lb) : PV → PV → Prop where
  | pure {x : PV} (h : pureV x = true) : Out L x x
  | rw {l off n sz : Nat} {co : Option Nat} {cells part : List PV} (hl : lget L l = some (some cells)) (hp : (cells.drop off).take (n * sz) = part) (hin : off + n * sz ≤ cells.length) (h : withinL (fun _ => false) part = true) :
      Out L (.rw l off n sz co) (.ro part n none)
  | agg {xs ys : List PV} (hl : xs.length = ys.length) (h : ∀ (i : Nat) (x y : PV), xs[i]? = some x → ys[i]? = some y → Out L x y) : Out L (.agg xs) (.agg ys)
  | tup {xs ys : List PV} (hl : xs.length = ys.length) (h : ∀ (i : Nat) (x y : PV), xs[i]? = some x → ys[i]? = some y → Out L x y) : Out L (.tup xs) (.tup ys)

theorem VR.pure {w : World} {σ σ1 : Sig} {av av1 : Nat → Prop} {x : PV} {v : Value} (h : VR w σ av x v) (hp : pureV x = true) (hav : ∀ β, ¬ av β → ¬ av1 β) : VR w σ1 av1 x v :=
  h.restrict (S := fun _ => false) (by simp) hav hp

/-- Outside of the blocks that 'hid' names, what is handed out is a value as any. -/
theorem Out.ok {w : World} {σ : Sig} {A : Nat → Prop} {L : Lb} (hb : BR w σ A L) {x y : PV} (ho : Out L x y) : ∀ {v : Value} {σ1 : Sig} {av1 : Nat → Prop}, VR w σ (avo A σ L) x v → (∀ β, ¬ avo A σ L β → ¬ av1 β) →
    (∀ β, avOf σ L β → ¬ av1 β) → VR w σ1 av1 y v := by
  induction ho with
  | pure hp => exact fun h h1 h2 => h.pure hp h1
  | @rw l off n sz co cells part hl hp hin hpure =>
    intro v σ1 av1 h h1 h2
    cases h with
    | rwE a hc =>
      have : part = [] := by rw [← hp]; simp
      subst this
      exact .roE a 0 (by simp)
    | @rw _ _ _ _ _ β add size cap hs hn hc hsz =>
      rcases hb.all l cells hl with ⟨h3, h4⟩ | ⟨β', add', size', c, T, fr, hB⟩
      · rw [hs] at h3; simp at h3
      · have := hB.sig; rw [hs] at this; simp at this
        obtain ⟨rfl, rfl, rfl⟩ := this
        have hlen : part.length = n * sz := by rw [← hp]; simp; omega
        have hlt : β < w.heap.size := (Array.getElem?_eq_some_iff.1 hB.heap).1
        have get : ∀ i x, part[i]? = some x → cells[off + i]? = some x := by
          intro i x hx
          rw [← hp, List.getElem?_take] at hx
          split at hx
          · rw [List.getElem?_drop] at hx; exact hx
          · simp at hx
        let f : Nat → Value := fun i => (c[add + off + i]?).getD undef
        refine .ro ((List.range (n * sz)).map f) ⟨hlt, h2 β ⟨l, cells, add, size, hl, hs⟩, fun i v hv => ?_⟩ (by simp [hlen]) (fun i x v hx hv => ?_) hn (by simp)
        · have hi : i < n * sz := by have := (List.getElem?_eq_some_iff.1 hv).1; simpa using this
          have hi2 : i < part.length := by omega
          obtain ⟨u, h5, h6⟩ := hB.vals _ _ (get i _ (List.getElem?_eq_getElem hi2))
          rw [cell_of_heap hB.heap]
          rw [← Nat.add_assoc] at h5
          simp [List.getElem?_range hi, f, h5] at hv
          rw [h5, hv]
        · have hi : i < n * sz := by have := (List.getElem?_eq_some_iff.1 hv).1; simpa using this
          obtain ⟨u, h5, h6⟩ := hB.vals _ _ (get i x hx)
          rw [← Nat.add_assoc] at h5
          simp [List.getElem?_range hi, f, h5] at hv
          rw [← hv]
          exact h6.pure (withinL_get hpure hx) h1
  | @agg xs ys hl _ ih =>
    intro v σ1 av1 h h1 h2
    cases h with
    | agg cs hl' hv =>
      refine .agg cs (by omega) fun i y v hy hv' => ?_
      have hi : i < xs.length := by rw [hl]; exact (List.getElem?_eq_some_iff.1 hy).1
      exact ih i _ y (List.getElem?_eq_getElem hi) hy (hv i _ v (List.getElem?_eq_getElem hi) hv') h1 h2
  | @tup xs ys hl _ ih =>
    intro v σ1 av1 h h1 h2
    cases h with
    | tup cs hl' hv =>
      refine .tup cs (by omega) fun i y v hy hv' => ?_
      have hi : i < xs.length := by rw [hl]; exact (List.getElem?_eq_some_iff.1 hy).1
      exact ih i _ y (List.getElem?_eq_getElem hi) hy (hv i _ v (List.getElem?_eq_getElem hi) hv') h1 h2

theorem Env.pureG {E : Env} (hE : ∀ g cells, lget E.G g = some cells → withinL (fun _ => false) cells = true) {w : World} {σ σ1 : Sig} {av av1 : Nat → Prop} {g : Nat} {cells : List PV} (hg : lget E.G g = some cells)
    (h : VR w σ av (.rop cells 0) (.pointer (some ⟨g, 0, none⟩))) (hav : ∀ β, ¬ av β → ¬ av1 β) : VR w σ1 av1 (.rop cells 0) (.pointer (some ⟨g, 0, none⟩)) :=
  h.pure (by simp [pureV, within, hE g cells hg]) hav

/-- All labels are let go; some slots are told by what they hold. -/
theorem Weak.out {E : Env} {K : Nat → Prop} {al al' : Al} {L : Lb} (hK : ∀ l, ¬ K l) (hE : ∀ g cells, lget E.G g = some cells → withinL (fun _ => false) cells = true)
    (hs : ∀ p ∈ al', ∃ x, lget al p.1 = some x ∧ Out L x p.2) : Weak E K al L al' [] := by
  intro A w σ a r
  have hdis : ∀ β, avOf σ L β → ¬ avo A (fun _ => none) [] β := by
    rintro β h (h' | ⟨l, c, a, s, h1, _⟩)
    · exact (r.blocks.lo β h').2 h
    · simp [lget] at h1
  have hsub : ∀ β, ¬ avo A σ L β → ¬ avo A (fun _ => none) [] β := by
    rintro β h (h' | ⟨l, c, a, s, h1, _⟩)
    · exact h (.inl h')
    · simp [lget] at h1
  refine ⟨fun _ => none, ⟨fun t y hy => ?_, ⟨by simp [lget], by simp [lget], by simp, fun β hA => ⟨(r.blocks.lo β hA).1, ?_⟩⟩, fun g cells hg => Env.pureG hE hg (r.globals g cells hg) hsub, r.nodefer⟩, ⟨Nat.le_refl _, fun l y hk => absurd hk (hK l), fun β _ _ => ⟨?_, rfl⟩, rfl, rfl, rfl⟩⟩
  · obtain ⟨x, h1, h2⟩ := hs _ (mem_of_lget hy)
    obtain ⟨v, h3, h4⟩ := r.tmps t x h1
    exact ⟨v, h3, h2.ok r.blocks h4 hsub hdis⟩
  · rintro ⟨l, c, a, s, h1, _⟩; simp [lget] at h1
  · rintro ⟨l, c, a, s, h1, _⟩; simp [lget] at h1

/-- What a body's end tells, in a state that says less. -/
def EndsW (E : Env) (K : Nat → Prop) (fn : Func) (R : PV → Lb → Prop) : Exit → Al → Lb → Prop :=
  fun e al L => (match e with | .normal => True | .ret => True | _ => False) ∧ ∃ al' L' xs, Weak E K al L al' L' ∧ xres E.P al' L' fn.results.toList = some xs ∧ R (rtup xs) L'

theorem ACalls_of {E : Env} {f : FuncId} {fn : Func} {c : Code} {args : List PV} {L : Lb} {R : PV → Lb → Prop} (hf : E.P.funcs[f]? = some fn) (hb : fn.body = some c) (hn : args.length ≤ fn.ntmps)
    (h : AW E (fun l => lget L l ≠ none) fn.ntmps c (EndsW E (fun l => lget L l ≠ none) fn R) (entry args 0) L) : ACalls E f args L R :=
  ACalls_of_AW hf hb hn (AW_post h fun e al1 L1 ⟨he, al', L', xs, hw, hx, hR⟩ => ⟨al', L', hw, he, xs, hx, hR⟩)

/-- The end of a function that hands out plain values: its results, read off the state and told by what they hold. -/
def Rets (E : Env) (fn : Func) (v : PV) : Exit → Al → Lb → Prop :=
  fun e al L => (match e with | .normal => True | .ret => True | _ => False) ∧ ∃ xs ys, xres E.P al L fn.results.toList = some xs ∧ xs.length = ys.length ∧ (∀ (i : Nat) (x y : PV), xs[i]? = some x → ys[i]? = some y → Out L x y) ∧ rtup ys = v

theorem ACalls_pure {E : Env} (hE : ∀ g cells, lget E.G g = some cells → withinL (fun _ => false) cells = true) {f : FuncId} {fn : Func} {c : Code} {args : List PV} {v : PV} (hf : E.P.funcs[f]? = some fn) (hb : fn.body = some c) (hn : args.length ≤ fn.ntmps)
    (h : AW E (fun _ => False) fn.ntmps c (Rets E fn v) (entry args 0) []) : ACalls E f args [] fun r L' => r = v ∧ L' = [] := by
  intro A w σ cargs hl hv hbr hg
  refine calls_of_wp hf hb (wp_mono (h A w σ _ ⟨?_, hbr, hg, rfl⟩ ?_) ?_)
  · intro t x hx
    obtain ⟨h1, h2⟩ := lget_entry args 0 t x hx
    simp at h2
    have ht : t < cargs.length := by rw [hl]; exact (List.getElem?_eq_some_iff.1 h2).1
    exact ⟨cargs[t], by rw [Array.getElem?_append_left (by simpa using ht)]; simp [ht], hv t x _ h2 (List.getElem?_eq_getElem ht)⟩
  · simp; omega
  · rintro e a' w' ⟨al', L', σ', ⟨he, xs, ys, hx, hlen, hout, rfl⟩, r', g', t'⟩
    have hdis : ∀ β, avOf σ' L' β → ¬ avo A (fun _ => none) [] β := by
      rintro β h (h' | ⟨l, c, a, s, h1, _⟩)
      · exact (r'.blocks.lo β h').2 h
      · simp [lget] at h1
    have hsub : ∀ β, ¬ avo A σ' L' β → ¬ avo A (fun _ => none) [] β := by
      rintro β h (h' | ⟨l, c, a, s, h1, _⟩)
      · exact h (.inl h')
      · simp [lget] at h1
    obtain ⟨u, h1, h2⟩ := run_results r' hx
    have h2' : VR w' (fun _ => none) (avo A (fun _ => none) []) (rtup ys) u := by
      have ho : Out L' (rtup xs) (rtup ys) := by
        cases xs with
        | nil => cases ys with
          | nil => exact .tup rfl (by simp)
          | cons _ _ => simp at hlen
        | cons x xs => cases ys with
          | nil => simp at hlen
          | cons y ys => cases xs with
            | nil => cases ys with
              | nil => exact hout 0 x y rfl rfl
              | cons _ _ => simp at hlen
            | cons x' xs => cases ys with
              | nil => simp at hlen
              | cons y' ys => exact .tup hlen hout
      exact ho.ok r'.blocks h2 hsub hdis
    have hbr' : BR w' (fun _ => none) A [] := ⟨by simp [lget], by simp [lget], by simp, fun β hA => ⟨(r'.blocks.lo β hA).1, by rintro ⟨l, c, a, s, h1, _⟩; simp [lget] at h1⟩⟩
    have hgr : Grow (fun l => lget ([] : Lb) l ≠ none) w σ [] w' (fun _ => none) [] := ⟨g'.size, fun l y hk => absurd rfl hk, fun β hb hn => ⟨by rintro ⟨l, c, a, s, h1, _⟩; simp [lget] at h1, (g'.keep β hb hn).2⟩, g'.out⟩
    cases e with
    | normal => exact ⟨r'.nodefer, u, h1, _, u, [], fun _ => none, rfl, ⟨rfl, rfl⟩, h2', hbr', hgr⟩
    | ret => exact ⟨r'.nodefer, u, h1, _, u, [], fun _ => none, rfl, ⟨rfl, rfl⟩, h2', hbr', hgr⟩
    | _ => exact he.elim

/-! ### calls -/
mutual
def noRo : PV → Bool
  | .rop _ _ => false
  | .ro _ _ _ => false
  | .ptr _ _ => false
  | .rw _ _ _ _ _ => false
  | .fn _ caps => noRoL caps
  | .iface _ v => noRo v
  | .agg cells => noRoL cells
  | .tup vs => noRoL vs
  | _ => true
def noRoL : List PV → Bool
  | [] => true
  | x :: xs => noRo x && noRoL xs
end

theorem noRoL_get : ∀ {xs : List PV} {i : Nat} {x : PV}, noRoL xs = true → xs[i]? = some x → noRo x = true
  | [], i, x, _, h => by simp at h
  | y :: ys, i, x, h, hx => by
    simp [noRoL] at h
    cases i with
    | zero => simp at hx; subst hx; exact h.1
    | succ i => exact noRoL_get h.2 (by simpa using hx)

theorem VR.scalar {w w1 : World} {σ σ1 : Sig} {av av1 : Nat → Prop} {x : PV} {v : Value} (h : VR w σ av x v) : noRo x = true → VR w1 σ1 av1 x v := by
  induction h with
  | dead => exact fun _ => .dead
  | int k n => exact fun _ => .int k n
  | bool b => exact fun _ => .bool b
  | str l => exact fun _ => .str l
  | nilp => exact fun _ => .nilp
  | ptr h => exact fun hw => by simp [noRo] at hw
  | rop cs him hl _ ih => exact fun hw => by simp [noRo] at hw
  | nils => exact fun _ => .nils
  | roE a cap hc => exact fun hw => by simp [noRo] at hw
  | ro cs him hl _ hn hc ih => exact fun hw => by simp [noRo] at hw
  | rwE a hc => exact fun hw => by simp [noRo] at hw
  | rw h hn hc hs' => exact fun hw => by simp [noRo] at hw
  | fn f cs hl _ ih => exact fun hw => .fn f cs hl fun i x v hx hv => ih i x v hx hv (noRoL_get (by simpa [noRo] using hw) hx)
  | nilf => exact fun _ => .nilf
  | iface t v _ ih => exact fun hw => .iface t v (ih (by simpa [noRo] using hw))
  | nili => exact fun _ => .nili
  | agg cs hl _ ih => exact fun hw => .agg cs hl fun i x v hx hv => ih i x v hx hv (noRoL_get (by simpa [noRo] using hw) hx)
  | tup cs hl _ ih => exact fun hw => .tup cs hl fun i x v hx hv => ih i x v hx hv (noRoL_get (by simpa [noRo] using hw) hx)

/-- What a call of a plain function is. -/
def Pure (E : Env) (f : FuncId) (args : List PV) (v : PV) : Prop := ACalls E f args [] fun r L' => r = v ∧ L' = []

def GOK (E : Env) : Prop := ∀ g cells, lget E.G g = some cells → withinL (fun _ => false) cells = true

section
variable {E : Env} {d : Option Tmp} {ty : TypeId} {pos : String} {after : Array Edge} {g : Option (Nat × Bool)} {ra : Al} {rl : Lb}

/-- The run of a call of a function value. -/
theorem run_call {A : Nat → Prop} {w : World} {σ : Sig} {al : Al} {L : Lb} {a : Act} (r : Rel E A w σ al L a) (h1 : ∀ t y, lget ra t = some y → lget al t = some y) {fo : Operand} {args : Array Operand} {ts : Array TypeId} {f : FuncId} {caps xs : List PV}
    (hf : xev E.G ra fo = some (.fn f caps)) (hx : xevs E.G ra args.toList = some xs) (hrun : ∀ args w, (callFunc f args).run E.P w = .ok (.enter f args) w) :
    ∃ cargs : List Value, (execOp a.eval ⟨d, .call ⟨.value fo, args, ts⟩, ty, pos, after, g⟩).run E.P w = .ok (.enter f cargs.toArray) w ∧ cargs.length = (xs ++ caps).length ∧
      ∀ (i : Nat) (x : PV) (v : Value), (xs ++ caps)[i]? = some x → cargs[i]? = some v → VR w σ (avo A σ L) x v := by
  have hv := xev_ok r h1 hf
  obtain ⟨e1, e2⟩ := xevs_ok r h1 _ _ hx
  generalize he : a.eval fo = vf at hv
  cases hv with
  | fn f' cs hl hcv =>
    refine ⟨args.toList.map a.eval ++ cs, ?_, by simp [e1, hl], ?_⟩
    · simp [execOp, resolve, Deferred.ofValue, he, invoke, hrun]
    · intro i x v hx' hv'
      by_cases hi : i < xs.length
      · rw [List.getElem?_append_left hi] at hx'
        rw [List.getElem?_append_left (by omega)] at hv'
        exact e2 i x v hx' hv'
      · rw [List.getElem?_append_right (by omega)] at hx'
        rw [List.getElem?_append_right (by omega)] at hv'
        rw [← e1] at hv'
        exact hcv _ x v hx' hv'

/-- A call of a plain function. What it is handed of this function's own blocks counts as what they hold; then it hands back numbers and the like. -/
theorem AOp_call {fo : Operand} {args : Array Operand} {ts : Array TypeId} {f : FuncId} {caps xs ys : List PV} {v : PV} (hf : xev E.G ra fo = some (.fn f caps)) (hx : xevs E.G ra args.toList = some xs)
    (hrun : ∀ args w, (callFunc f args).run E.P w = .ok (.enter f args) w) (hG : GOK E) (hlen : (xs ++ caps).length = ys.length) (hout : ∀ (i : Nat) (x y : PV), (xs ++ caps)[i]? = some x → ys[i]? = some y → Out rl x y) (h : Pure E f ys v)
    (hv : withinL (fun _ => false) (xs ++ caps) = true ∨ noRo v = true) : AOp E ⟨d, .call ⟨.value fo, args, ts⟩, ty, pos, after, g⟩ ra rl v [] := by
  intro A w σ al L a r h1 h2 _
  obtain ⟨cargs, hr, hl, hcv⟩ := run_call (d := d) (ty := ty) (pos := pos) (after := after) (g := g) (ts := ts) r h1 hf hx hrun
  unfold Oper.wp
  rw [hr]
  have houtL : ∀ {x y}, Out rl x y → Out L x y := by
    intro x y ho
    induction ho with
    | pure h => exact .pure h
    | rw hl hp hin h => exact .rw (h2 _ _ hl) hp hin h
    | agg hl _ ih => exact .agg hl ih
    | tup hl _ ih => exact .tup hl ih
  -- the blocks that the callee mayn't look at: those of labels where none of them is handed on
  rcases hv with hp | hs
  · have hA1 : BR w (fun _ => none) (avo A σ L) [] := ⟨by simp [lget], by simp [lget], by simp, fun β hA => ⟨?_, by rintro ⟨l, c, a, s, h1, _⟩; simp [lget] at h1⟩⟩
    · have hav : ∀ β, ¬ avo A σ L β → ¬ avo (avo A σ L) (fun _ => none) [] β := by
        rintro β hn (h' | ⟨l, c, a, s, h1, _⟩)
        · exact hn h'
        · simp [lget] at h1
      have hpure : ∀ (i : Nat) (x y : PV), (xs ++ caps)[i]? = some x → ys[i]? = some y → x = y := by
        intro i x y hx hy
        have hpx : pureV x = true := withinL_get hp hx
        have := hout i x y hx hy
        have key : ∀ {x y}, Out rl x y → pureV x = true → x = y := by
          intro x y ho
          induction ho with
          | pure _ => exact fun _ => rfl
          | rw hl hp hin h => exact fun hh => by simp [pureV, within] at hh
          | @agg xs ys hl _ ih =>
            intro hh
            have : xs = ys := by
              apply List.ext_getElem? ; intro i
              by_cases hi : i < xs.length
              · have e1 := List.getElem?_eq_getElem hi
                have e2 := List.getElem?_eq_getElem (show i < ys.length by omega)
                have := ih i _ _ e1 e2 (withinL_get (by simpa [pureV, within] using hh) e1)
                rw [e1, e2, this]
              · rw [List.getElem?_eq_none (by omega), List.getElem?_eq_none (by omega)]
            rw [this]
          | @tup xs ys hl _ ih =>
            intro hh
            have : xs = ys := by
              apply List.ext_getElem? ; intro i
              by_cases hi : i < xs.length
              · have e1 := List.getElem?_eq_getElem hi
                have e2 := List.getElem?_eq_getElem (show i < ys.length by omega)
                have := ih i _ _ e1 e2 (withinL_get (by simpa [pureV, within] using hh) e1)
                rw [e1, e2, this]
              · rw [List.getElem?_eq_none (by omega), List.getElem?_eq_none (by omega)]
            rw [this]
        exact key this hpx
      refine (h (avo A σ L) w (fun _ => none) cargs (by omega) (fun i y u hy hu => ?_) hA1 (fun g cells hg => Env.pureG hG hg (r.globals g cells hg) hav)).mono ?_
      · have hi : i < (xs ++ caps).length := by rw [hlen]; exact (List.getElem?_eq_some_iff.1 hy).1
        have hxi := List.getElem?_eq_getElem hi
        have := hpure i _ y hxi hy
        subst this
        exact (hcv i _ u hxi hu).pure (withinL_get hp hxi) hav
      · rintro e w' ⟨x, c, L', σ', rfl, ⟨rfl, rfl⟩, hvr, hbr, hgr⟩
        have hg : Grow top w σ L w' σ L := ⟨hgr.size, fun _ _ _ h => h, fun β hb hn => ⟨hn, (hgr.keep β hb (by rintro ⟨l, c, a, s, h1, _⟩; simp [lget] at h1)).2⟩, hgr.out⟩
        refine ⟨σ, c, rfl, ?_, ?_, hg⟩
        · have hnl : ∀ l y, σ' l = some y → False := fun l y hy => by have := hbr.dom l y hy; simp [lget] at this
          refine hvr.mono (fun l y hy => (hnl l y hy).elim) (Nat.le_refl _) fun β _ hn => ⟨fun ha => hn (.inl ha), rfl⟩
        · have hall : ∀ β, avOf σ L β → w'.heap[β]? = w.heap[β]? := fun β hβ => (hgr.keep β (r.blocks.lt hβ) (by rintro ⟨l, c, a, s, h1, _⟩; simp [lget] at h1)).2
          refine ⟨?_, r.blocks.inj, r.blocks.dom, fun β hA => ⟨Nat.lt_of_lt_of_le (r.blocks.lo β hA).1 hgr.size, (r.blocks.lo β hA).2⟩⟩
          intro l cells hl
          rcases r.blocks.all l cells hl with h | ⟨β, add, size, c, T, fr, hB⟩
          · exact .inl h
          · exact .inr ⟨β, add, size, c, T, fr, ⟨hB.sig, by rw [hall β ⟨l, cells, _, _, hl, hB.sig⟩]; exact hB.heap, hB.hsz, hB.fits, fun i x hx => let ⟨v, h1, h2⟩ := hB.vals i x hx; ⟨v, h1, h2.grow hg⟩, hB.frs⟩⟩
    · rcases hA with h | h
      · exact (r.blocks.lo β h).1
      · exact r.blocks.lt h
  · have hA1 : BR w (fun _ => none) A [] := ⟨by simp [lget], by simp [lget], by simp, fun β hA => ⟨(r.blocks.lo β hA).1, by rintro ⟨l, c, a, s, h1, _⟩; simp [lget] at h1⟩⟩
    have hav : ∀ β, ¬ avo A σ L β → ¬ avo A (fun _ => none) [] β := by
      rintro β hn (h' | ⟨l, c, a, s, h1, _⟩)
      · exact hn (.inl h')
      · simp [lget] at h1
    have hdis : ∀ β, avOf σ L β → ¬ avo A (fun _ => none) [] β := by
      rintro β h (h' | ⟨l, c, a, s, h1, _⟩)
      · exact (r.blocks.lo β h').2 h
      · simp [lget] at h1
    refine (h A w (fun _ => none) cargs (by omega) (fun i y u hy hu => ?_) hA1 (fun g cells hg => Env.pureG hG hg (r.globals g cells hg) hav)).mono ?_
    · have hi : i < (xs ++ caps).length := by rw [hlen]; exact (List.getElem?_eq_some_iff.1 hy).1
      have hxi := List.getElem?_eq_getElem hi
      exact (houtL (hout i _ y hxi hy)).ok r.blocks (hcv i _ u hxi hu) hav hdis
    · rintro e w' ⟨x, c, L', σ', rfl, ⟨rfl, rfl⟩, hvr, hbr, hgr⟩
      have hg : Grow top w σ L w' σ L := ⟨hgr.size, fun _ _ _ h => h, fun β hb hn => ⟨hn, (hgr.keep β hb (by rintro ⟨l, c, a, s, h1, _⟩; simp [lget] at h1)).2⟩, hgr.out⟩
      refine ⟨σ, c, rfl, hvr.scalar hs, ?_, hg⟩
      have hall : ∀ β, avOf σ L β → w'.heap[β]? = w.heap[β]? := fun β hβ => (hgr.keep β (r.blocks.lt hβ) (by rintro ⟨l, c, a, s, h1, _⟩; simp [lget] at h1)).2
      refine ⟨?_, r.blocks.inj, r.blocks.dom, fun β hA => ⟨Nat.lt_of_lt_of_le (r.blocks.lo β hA).1 hgr.size, (r.blocks.lo β hA).2⟩⟩
      intro l cells hl
      rcases r.blocks.all l cells hl with h | ⟨β, add, size, c, T, fr, hB⟩
      · exact .inl h
      · exact .inr ⟨β, add, size, c, T, fr, ⟨hB.sig, by rw [hall β ⟨l, cells, _, _, hl, hB.sig⟩]; exact hB.heap, hB.hsz, hB.fits, fun i x hx => let ⟨v, h1, h2⟩ := hB.vals i x hx; ⟨v, h1, h2.grow hg⟩, hB.frs⟩⟩
end

section
variable {E : Env} {K : Nat → Prop} {n : Nat} {al : Al} {L : Lb} {Q : Exit → Al → Lb → Prop} {ops : Array Oper} {rest : List Oper}

/-- A call of a function that may write what it is handed, or hand back what may be written. -/
theorem AWl_call {d : Option Tmp} {ty : TypeId} {pos : String} {after : Array Edge} {g : Option (Nat × Bool)} {fo : Operand} {args : Array Operand} {ts : Array TypeId} {f : FuncId} {caps xs : List PV} (L1 : Lb) {R : PV → Lb → Prop}
    (hf : xev E.G al fo = some (.fn f caps)) (hx : xevs E.G al args.toList = some xs) (hrun : ∀ args w, (callFunc f args).run E.P w = .ok (.enter f args) w) (hG : GOK E)
    (h : ACalls E f (xs ++ caps) L1 R) (hsub : ∀ l y, lget L1 l = some y → lget L l = some y) (hw : withinL (hasL L1) (xs ++ caps) = true) (hc : ∀ l cells, lget L1 l = some (some cells) → withinL (hasL L1) cells = true)
    (hd : ∀ t, d = some t → t < n) (hg : wants ops al ⟨d, .call ⟨.value fo, args, ts⟩, ty, pos, after, g⟩ = some true)
    (k : ∀ x L1', R x L1' → (∀ l, lget L1' l ≠ none → lget L1 l ≠ none ∨ lget L l = none) ∧ (∀ l, lget L1 l ≠ none → lget L1' l ≠ none) ∧ AWl E K n ops rest Q (oset d x al) (L1' ++ L)) :
    AWl E K n ops (⟨d, .call ⟨.value fo, args, ts⟩, ty, pos, after, g⟩ :: rest) Q al L := by
  intro A w σ a r t
  obtain ⟨cargs, hr, hl, hcv⟩ := run_call (d := d) (ty := ty) (pos := pos) (after := after) (g := g) (ts := ts) r (fun _ _ h => h) hf hx hrun
  simp only [wpList]
  rw [if_pos (wants_ok r hg)]
  refine .inl ?_
  unfold Oper.wp
  rw [hr]
  refine (h.frame hsub hw hc r (by omega) hcv hG).mono ?_
  rintro e w' ⟨x, c, L1', rfl, hR, hk⟩
  obtain ⟨k1, k2, k3⟩ := k x L1' hR
  obtain ⟨σ', h1, h2, h3⟩ := hk k1 k2
  have r' := (r.grow h2 h3).put (d := d) (fun u hu => by rw [t]; exact hd u hu) h1
  exact wpList_mono (fun e a w h => Post.trans (h3.weaken fun _ _ => trivial) h) _ _ _ (k3 A w' σ' _ r' (by rw [size_put]; exact t))
end
end Go.SH
