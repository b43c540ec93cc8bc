/- What a written-out walk uses: one row a region, a meeting of ways, a loop. -/
import Derived.Test.YtfadcigdmddndaaDoorShP
set_option linter.unusedVariables false
set_option linter.unusedSimpArgs false
namespace Go.SH

section
variable {E : Env} {K : Nat → Prop} {n : Nat} {al : Al} {L : Lb} {Q : Exit → Al → Lb → Prop} {ops : Array Oper} {rest : List Oper}

theorem keepS_ok {ts : List Nat} {al al' : Al} (h : keepS ts al = al') : ∀ p ∈ al', lget al p.1 = some p.2 := by
  subst h
  intro p hp
  simp only [keepS, List.mem_filterMap, Option.map_eq_some_iff] at hp
  obtain ⟨t, _, x, h, rfl⟩ := hp
  exact h

theorem Weak.keep {ts : List Nat} {al' : Al} (h : keepS ts al = al') : Weak E K al L al' L := Weak.sub (keepS_ok h)

def xrunK (P : Program) (G : List (Nat × List PV)) (n : Nat) (ops : Array Oper) (ts : List Nat) (al : Al) (L : Lb) : Option (Al × Lb) :=
  (xrun P G n ops ops.size ops.toList al L).map fun s => (keepS ts s.1, s.2)

/-- A region that runs by itself. -/
theorem AW_regK {id : Nat} (ts : List Nat) (al' : Al) (L' : Lb) (h : xrunK E.P E.G n ops ts al L = some (al', L')) (hq : Q .normal al' L') : AW E K n (.region id ops false) Q al L := by
  simp only [xrunK, Option.map_eq_some_iff, Prod.mk.injEq] at h
  obtain ⟨⟨al1, L1⟩, h1, h2, rfl⟩ := h
  refine AW_post (AW_reg (Q := fun e al L => e = .normal ∧ al = al1 ∧ L = L1) h1 ⟨rfl, rfl, rfl⟩) ?_
  rintro e al L ⟨rfl, rfl, rfl⟩
  exact ⟨al', L, Weak.keep h2, hq⟩

/-- The end of a region's operations. -/
theorem AWl_nilK (ts : List Nat) (al' : Al) (h : keepS ts al = al') (hq : Q .normal al' L) : AWl E K n ops [] Q al L := AWl_weak (Weak.keep h) (AWl_nil hq)

theorem AWl_keep (ts : List Nat) (al' : Al) (h : keepS ts al = al') (k : AWl E K n ops rest Q al' L) : AWl E K n ops rest Q al L := AWl_weak (Weak.keep h) k
theorem AW_keep {c : Code} (ts : List Nat) (al' : Al) (h : keepS ts al = al') (k : AW E K n c Q al' L) : AW E K n c Q al L := AW_weak (Weak.keep h) k

/-- One operation by a law of its own. -/
theorem AWl_o {o : Oper} {x : PV} {wl : Lb} (h : AOp E o al L x wl) (hd : dstOK n o.dst = true) (h3 : wl.all (fun p => (lget L p.1).isSome || (lget L p.1).isNone) = true) (hg : wants ops al o = some true)
    (k : AWl E K n ops rest Q (oset o.dst x al) (lupd L wl)) : AWl E K n ops (o :: rest) Q al L := by
  refine AWl_op h (dstOK_ok hd) (fun _ _ h => h) (fun _ _ h => h) ?_ hg k
  intro p hp
  cases h1 : lget L p.1 with
  | none => exact .inr rfl
  | some y => exact .inl (by simp)

def Mid (ts : List Nat) (al' : Al) (L' : Lb) : Exit → Al → Lb → Prop := fun e al L => e = .normal ∧ keepS ts al = al' ∧ L = L'

/-- Ways that meet again. -/
theorem AW_meet {x y : Code} (ts : List Nat) (al' : Al) (L' : Lb) (h : AW E K n x (athen (fun al L => keepS ts al = al' ∧ L = L') Q) al L) (k : AW E K n y Q al' L') : AW E K n (.seq x y) Q al L := by
  refine AW_seq (AW_post h ?_)
  intro e al1 L1 q
  cases e with
  | normal => obtain ⟨h1, rfl⟩ := q; exact ⟨al', L1, Weak.keep h1, k⟩
  | _ => exact ⟨al1, L1, Weak.refl, q⟩

theorem AW_condT {t : Nat} {x y : Code} (hc : lget al t = some (.bool true)) (h : AW E K n x Q al L) : AW E K n (.cond (.tmp t) x y) Q al L := AW_cond hc (fun _ => h) (by simp)
theorem AW_condF {t : Nat} {x y : Code} (hc : lget al t = some (.bool false)) (h : AW E K n y Q al L) : AW E K n (.cond (.tmp t) x y) Q al L := AW_cond hc (by simp) (fun _ => h)

/-- A loop whose heads' states are told by 's'. -/
theorem AW_loopS {c : Code} {S : Type} (Sal : S → Al) (Sl : S → Lb) (Inv : S → Prop) (μ : S → Nat) (s0 : S) (h0 : Inv s0) (hal : al = Sal s0) (hL : L = Sl s0)
    (round : ∀ s, Inv s → AW E K n c (athen (fun al' L' => ∃ s', Inv s' ∧ μ s' < μ s ∧ al' = Sal s' ∧ L' = Sl s') Q) (Sal s) (Sl s)) : AW E K n (.loop c) Q al L := by
  intro A w σ a r t b k cs
  have key : ∀ m s w σ a, μ s = m → Inv s → Rel E A w σ (Sal s) (Sl s) a → a.tmps.size = n →
      ∃ e a' w', Post E K A w σ (Sl s) n Q e a' w' ∧ Arrives E.P (lone (b.at a (.code c :: .inLoop c :: k)) cs w) b k cs e a' w' := by
    intro m
    induction m using Nat.strongRecOn with
    | _ m ih =>
      intro s w σ a hm hI hr ht
      obtain ⟨e, a₁, w₁, ⟨al₁, L₁, σ₁, q, r₁, g₁, t₁⟩, harr⟩ := round s hI A w σ a hr ht b (.inLoop c :: k) cs
      cases e with
      | normal =>
        obtain ⟨s', hI₁, hlt, rfl, rfl⟩ := q
        obtain ⟨e₂, a₂, w₂, hq₂, harr₂⟩ := ih (μ s') (hm ▸ hlt) s' w₁ σ₁ a₁ rfl hI₁ r₁ t₁
        exact ⟨e₂, a₂, w₂, Post.trans g₁ hq₂, .of_steps (Steps.trans harr (.one step_inLoop)) harr₂⟩
      | exit id => exact ⟨_, a₁, w₁, ⟨al₁, L₁, σ₁, q, r₁, g₁, t₁⟩, .pass (x := .inLoop c) rfl (fun _ _ => .inl (by simp)) harr⟩
      | goto l => exact ⟨_, a₁, w₁, ⟨al₁, L₁, σ₁, q, r₁, g₁, t₁⟩, .pass (x := .inLoop c) rfl (fun _ _ => .inl (by simp)) harr⟩
      | ret => exact ⟨_, a₁, w₁, ⟨al₁, L₁, σ₁, q, r₁, g₁, t₁⟩, .pass (x := .inLoop c) rfl (fun _ _ => .inl (by simp)) harr⟩
      | panic ch => exact ⟨_, a₁, w₁, ⟨al₁, L₁, σ₁, q, r₁, g₁, t₁⟩, .pass (x := .inLoop c) rfl (fun _ _ => .inl (by simp)) harr⟩
      | outgrown => exact ⟨_, a₁, w₁, ⟨al₁, L₁, σ₁, q, r₁, g₁, t₁⟩, .pass (x := .inLoop c) rfl (fun _ _ => .inl (by simp)) harr⟩
  subst hal; subst hL
  obtain ⟨e, a', w', hq, harr⟩ := key _ s0 w σ a rfl h0 r t
  exact ⟨e, a', w', hq, .of_steps (.one step_loop) harr⟩

/-- Labels that nothing names any more are forgotten. -/
theorem Weak.trim {al' : Al} {L' : Lb} (hs : ∀ p ∈ al', lget al p.1 = some p.2) (hL : ∀ l y, lget L' l = some y → lget L l = some y) (hK : ∀ l, K l → lget L' l ≠ none ∨ lget L l = none)
    (hw : al'.all (fun p => within (hasL L') p.2) = true) (hc : L'.all (fun p => match p.2 with | some cells => withinL (hasL L') cells | none => true) = true) (hG : GOK E) : Weak E K al L al' L' := by
  intro A w σ a r
  let σ1 : Sig := fun l => if hasL L' l then σ l else none
  have hS : ∀ l, hasL L' l = true → σ1 l = σ l := fun l h => by simp [σ1, h]
  have hav : ∀ β, avOf σ1 L' β → avOf σ L β := by
    rintro β ⟨l, cells, x, s, h1, h2⟩
    rw [hS l (by simp [hasL, h1])] at h2
    exact ⟨l, cells, x, s, hL _ _ h1, h2⟩
  have havo : ∀ β, ¬ avo A σ L β → ¬ avo A σ1 L' β := by
    rintro β hn (h | h)
    · exact hn (.inl h)
    · exact hn (.inr (hav β h))
  refine ⟨σ1, ⟨fun t x hx => ?_, ⟨fun l cells hl => ?_, ?_, ?_, ?_⟩, fun g cells hg => Env.pureG hG hg (r.globals g cells hg) havo, r.nodefer⟩, ⟨Nat.le_refl _, ?_, fun β _ hn => ⟨fun ha => hn (hav β ha), rfl⟩, rfl, rfl, rfl⟩⟩
  · have hm := mem_of_lget hx
    obtain ⟨v, h1, h2⟩ := r.tmps t x (hs _ hm)
    exact ⟨v, h1, h2.restrict hS havo (List.all_eq_true.1 hw _ hm)⟩
  · have hm := mem_of_lget hl
    have hwc := List.all_eq_true.1 hc _ hm
    simp only at hwc
    have hh : hasL L' l = true := by simp [hasL, hl]
    rcases r.blocks.all l cells (hL _ _ hl) with ⟨h1, h2⟩ | ⟨β, add, size, c, T, fr, hB⟩
    · exact .inl ⟨by rw [hS l hh]; exact h1, h2⟩
    · exact .inr ⟨β, add, size, c, T, fr, ⟨by rw [hS l hh]; exact hB.sig, hB.heap, hB.hsz, hB.fits, fun i x hx => let ⟨v, h1, h2⟩ := hB.vals i x hx; ⟨v, h1, h2.restrict hS havo (withinL_get hwc hx)⟩, hB.frs⟩⟩
  · intro l l' c c' β a s a' s' h1 h2 h3 h4
    rw [hS l (by simp [hasL, h1])] at h3
    rw [hS l' (by simp [hasL, h2])] at h4
    exact r.blocks.inj l l' c c' β a s a' s' (hL _ _ h1) (hL _ _ h2) h3 h4
  · intro l x h1
    by_cases hh : hasL L' l = true
    · simp only [hasL, Option.isSome_iff_ne_none] at hh; exact hh
    · simp [σ1, hh] at h1
  · intro β hA
    obtain ⟨h1, h2⟩ := r.blocks.lo β hA
    exact ⟨h1, fun ha => h2 (hav β ha)⟩
  · intro l y hk hy
    rcases hK l hk with h | h
    · rw [hS l (by simpa [hasL, Option.isSome_iff_ne_none] using h)]; exact hy
    · exact absurd h (r.blocks.dom l y hy)

/-- A slice that may be nil, under a label of its own. -/
theorem Weak.nil {t l sz : Nat} (ht : lget al t = some .nils) (hl : lget L l = none) : Weak E K al L ((t, .rw l 0 0 sz none) :: al) (lset L l (some [])) := by
  intro A w σ a r
  obtain ⟨b1, b2⟩ := r.blocks.virtual hl
  have r' := r.grow b1 b2
  refine ⟨σ, ⟨fun s x hx => ?_, r'.blocks, r'.globals, r'.nodefer⟩, b2.weaken fun _ _ => trivial⟩
  simp only [lget] at hx
  split at hx
  · rename_i h; subst h; simp at hx; subst hx
    obtain ⟨v, h1, h2⟩ := r.tmps t _ ht
    cases h2
    exact ⟨_, h1, .rwE none (by simp)⟩
  · exact r'.tmps s x hx

/-- A slice of this call's own, told from here on by what it holds: it is written no more. -/
theorem Weak.freeze {t l : Nat} {x y : PV} {cells : List PV} (ht : lget al t = some x) (hl : lget L l = some (some cells)) (ho : Out [(l, some cells)] x y) : Weak E K al L ((t, y) :: al) (lset L l none) := by
  intro A w σ a r
  obtain ⟨b1, b2⟩ := r.blocks.drop l
  have r' := r.grow b1 b2
  refine ⟨σ, ⟨fun s z hz => ?_, r'.blocks, r'.globals, r'.nodefer⟩, b2.weaken fun _ _ => trivial⟩
  simp only [lget] at hz
  split at hz
  · rename_i h; subst h; simp at hz; subst hz
    obtain ⟨v, h1, h2⟩ := r.tmps t _ ht
    refine ⟨v, h1, ?_⟩
    -- only the block of l is looked at
    have key : ∀ {x y : PV}, Out [(l, some cells)] x y → ∀ {v : Value}, VR w σ (avo A σ L) x v → VR w σ (avo A σ (lset L l none)) y v := by
      intro x y ho
      have sub : ∀ β, avOf σ (lset L l none) β → avOf σ L β := by
        rintro β ⟨k, c, a, s, hk, hs⟩
        rw [lget_lset] at hk
        by_cases hkl : l = k
        · rw [if_pos hkl] at hk; simp at hk
        · rw [if_neg hkl] at hk; exact ⟨k, c, a, s, hk, hs⟩
      have sub2 : ∀ β, ¬ avo A σ L β → ¬ avo A σ (lset L l none) β := by
        rintro β hn (h | h)
        · exact hn (.inl h)
        · exact hn (.inr (sub β h))
      have own : ∀ β a s, σ l = some (β, a, s) → ¬ avo A σ (lset L l none) β := by
        rintro β a s hs (h | ⟨k, c, a', s', hk, hs'⟩)
        · exact (r.blocks.lo β h).2 ⟨l, cells, a, s, hl, hs⟩
        · rw [lget_lset] at hk
          by_cases hkl : l = k
          · rw [if_pos hkl] at hk; simp at hk
          · rw [if_neg hkl] at hk
            exact hkl (r.blocks.inj l k cells c β a s a' s' hl hk hs hs')
      induction ho with
      | pure hp => exact fun h => h.pure hp sub2
      | @rw l' off n sz co cells' part hl' hp hin hpure =>
        intro v h
        have hll : l' = l ∧ cells' = cells := by
          simp only [lget] at hl'
          split at hl'
          · rename_i e; simp at hl'; exact ⟨e.symm, hl'.symm⟩
          · simp at hl'
        obtain ⟨rfl, rfl⟩ := hll
        cases h with
        | rwE a hc =>
          have : part = [] := by rw [← hp]; simp
          subst this
          exact .roE a 0 (by simp)
        | @rw _ _ _ _ _ β add size cap hs hn hc hsz =>
          rcases r.blocks.all l' cells' hl with ⟨h3, h4⟩ | ⟨β', add', size', c, T, fr, hB⟩
          · rw [hs] at h3; simp at h3
          · have := hB.sig; rw [hs] at this; simp at this
            obtain ⟨rfl, rfl, rfl⟩ := this
            have hlen : part.length = n * sz := by rw [← hp]; simp; omega
            have hlt : β < w.heap.size := (Array.getElem?_eq_some_iff.1 hB.heap).1
            have get : ∀ i x, part[i]? = some x → cells'[off + i]? = some x := by
              intro i x hx
              rw [← hp, List.getElem?_take] at hx
              split at hx
              · rw [List.getElem?_drop] at hx; exact hx
              · simp at hx
            let f : Nat → Value := fun i => (c[add + off + i]?).getD undef
            refine .ro ((List.range (n * sz)).map f) ⟨hlt, own β add size hs, fun i v hv => ?_⟩ (by simp [hlen]) (fun i x v hx hv => ?_) hn (by simp)
            · have hi : i < n * sz := by have := (List.getElem?_eq_some_iff.1 hv).1; simpa using this
              have hi2 : i < part.length := by omega
              obtain ⟨u, h5, h6⟩ := hB.vals _ _ (get i _ (List.getElem?_eq_getElem hi2))
              rw [cell_of_heap hB.heap]
              rw [← Nat.add_assoc] at h5
              simp [List.getElem?_range hi, f, h5] at hv
              rw [h5, hv]
            · have hi : i < n * sz := by have := (List.getElem?_eq_some_iff.1 hv).1; simpa using this
              obtain ⟨u, h5, h6⟩ := hB.vals _ _ (get i x hx)
              rw [← Nat.add_assoc] at h5
              simp [List.getElem?_range hi, f, h5] at hv
              rw [← hv]
              exact h6.pure (withinL_get hpure hx) sub2
      | @agg xs ys hl' _ ih =>
        intro v h
        cases h with
        | agg cs hl2 hv =>
          refine .agg cs (by omega) fun i y v hy hv' => ?_
          have hi : i < xs.length := by rw [hl']; exact (List.getElem?_eq_some_iff.1 hy).1
          exact ih i _ y (List.getElem?_eq_getElem hi) hy (hv i _ v (List.getElem?_eq_getElem hi) hv')
      | @tup xs ys hl' _ ih =>
        intro v h
        cases h with
        | tup cs hl2 hv =>
          refine .tup cs (by omega) fun i y v hy hv' => ?_
          have hi : i < xs.length := by rw [hl']; exact (List.getElem?_eq_some_iff.1 hy).1
          exact ih i _ y (List.getElem?_eq_getElem hi) hy (hv i _ v (List.getElem?_eq_getElem hi) hv')
    exact key ho h2
  · exact r'.tmps s z hz

/-! what is handed back -/
theorem rets1 {fn : Func} {e : Exit} {x v : PV} (he : e = .ret ∨ e = .normal) (hx : xres E.P al L fn.results.toList = some [x]) (ho : Out L x v) : Rets E fn v e al L := by
  refine ⟨by rcases he with rfl | rfl <;> trivial, [x], [v], hx, rfl, ?_, rfl⟩
  intro i a b h1 h2
  cases i with
  | zero => simp at h1 h2; subst h1; subst h2; exact ho
  | succ i => simp at h1

theorem rets2 {fn : Func} {e : Exit} {x y v u : PV} (he : e = .ret ∨ e = .normal) (hx : xres E.P al L fn.results.toList = some [x, y]) (ho : Out L x v) (ho' : Out L y u) : Rets E fn (.tup [v, u]) e al L := by
  refine ⟨by rcases he with rfl | rfl <;> trivial, [x, y], [v, u], hx, rfl, ?_, rfl⟩
  intro i a b h1 h2
  cases i with
  | zero => simp at h1 h2; subst h1; subst h2; exact ho
  | succ i => cases i with
    | zero => simp at h1 h2; subst h1; subst h2; exact ho'
    | succ i => simp at h1

theorem rets3 {fn : Func} {e : Exit} {x y z v u t : PV} (he : e = .ret ∨ e = .normal) (hx : xres E.P al L fn.results.toList = some [x, y, z]) (ho : Out L x v) (ho' : Out L y u) (ho'' : Out L z t) : Rets E fn (.tup [v, u, t]) e al L := by
  refine ⟨by rcases he with rfl | rfl <;> trivial, [x, y, z], [v, u, t], hx, rfl, ?_, rfl⟩
  intro i a b h1 h2
  cases i with
  | zero => simp at h1 h2; subst h1; subst h2; exact ho
  | succ i => cases i with
    | zero => simp at h1 h2; subst h1; subst h2; exact ho'
    | succ i => cases i with
      | zero => simp at h1 h2; subst h1; subst h2; exact ho''
      | succ i => simp at h1

theorem Out.eq {L : Lb} {x v : PV} (h : x = v) (hp : pureV x = true) : Out L x v := h ▸ .pure hp

end

/-! a call of a plain function, its arguments plain, or told by what they hold -/
inductive Outs (L : Lb) : List PV → List PV → Prop where
  | nil : Outs L [] []
  | cons {x y : PV} {xs ys : List PV} (h : Out L x y) (hs : Outs L xs ys) : Outs L (x :: xs) (y :: ys)

theorem Outs.len {L : Lb} {xs ys : List PV} (h : Outs L xs ys) : xs.length = ys.length := by
  induction h with
  | nil => rfl
  | cons _ _ ih => simp [ih]
theorem Outs.get {L : Lb} {xs ys : List PV} (h : Outs L xs ys) : ∀ (i : Nat) (x y : PV), xs[i]? = some x → ys[i]? = some y → Out L x y := by
  induction h with
  | nil => simp
  | cons h _ ih =>
    intro i x y hx hy
    cases i with
    | zero => simp at hx hy; subst hx; subst hy; exact h
    | succ i => exact ih i x y (by simpa using hx) (by simpa using hy)
theorem Outs.refl {L : Lb} : ∀ {xs : List PV}, withinL (fun _ => false) xs = true → Outs L xs xs
  | [], _ => .nil
  | x :: xs, h => by simp [withinL] at h; exact .cons (.pure h.1) (Outs.refl h.2)

section
variable {E : Env} {d : Option Tmp} {ty : TypeId} {pos : String} {after : Array Edge} {g : Option (Nat × Bool)} {ra : Al} {rl : Lb}

/-- Plain arguments. -/
theorem AOp_callP {fo : Operand} {args : Array Operand} {ts : Array TypeId} {f : FuncId} {caps xs : List PV} {v : PV} (hG : GOK E) (hrun : ∀ args w, (callFunc f args).run E.P w = .ok (.enter f args) w)
    (hf : xev E.G ra fo = some (.fn f caps)) (hx : xevs E.G ra args.toList = some xs) (h : Pure E f (xs ++ caps) v) (hp : withinL (fun _ => false) (xs ++ caps) = true) : AOp E ⟨d, .call ⟨.value fo, args, ts⟩, ty, pos, after, g⟩ ra rl v [] :=
  AOp_call hf hx hrun hG rfl (Outs.refl hp).get h (.inl hp)

/-- Arguments of this function's own, a result of numbers and the like. -/
theorem AOp_callB {fo : Operand} {args : Array Operand} {ts : Array TypeId} {f : FuncId} {caps xs ys : List PV} {v : PV} (hG : GOK E) (hrun : ∀ args w, (callFunc f args).run E.P w = .ok (.enter f args) w)
    (hf : xev E.G ra fo = some (.fn f caps)) (hx : xevs E.G ra args.toList = some xs) (ho : Outs rl (xs ++ caps) ys) (h : Pure E f ys v) (hv : noRo v = true) : AOp E ⟨d, .call ⟨.value fo, args, ts⟩, ty, pos, after, g⟩ ra rl v [] :=
  AOp_call hf hx hrun hG ho.len ho.get h (.inr hv)
end

end Go.SH

namespace Go.SH
/-! statements of open order, written out -/
inductive AOps (E : Env) : List Oper → List Fp → Prop where
  | nil : AOps E [] []
  | x {o : Oper} {f : Fp} {os : List Oper} {fs : List Fp} (lab : Nat) (hl : lget f.rl lab = none) (h : xop E.P E.G o f.ra f.rl lab = some (f.x, f.wl)) (r : AOps E os fs) : AOps E (o :: os) (f :: fs)
  | o {o : Oper} {f : Fp} {os : List Oper} {fs : List Fp} (h : AOp E o f.ra f.rl f.x f.wl) (r : AOps E os fs) : AOps E (o :: os) (f :: fs)
  | skip {o : Oper} {f : Fp} {os : List Oper} {fs : List Fp} (h : f.run = false) (r : AOps E os fs) : AOps E (o :: os) (f :: fs)

theorem AOps.get {E : Env} {os : List Oper} {fs : List Fp} (h : AOps E os fs) : os.length = fs.length ∧ ∀ (i : Nat) (o : Oper) (f : Fp), os[i]? = some o → fs[i]? = some f → f.run = true → AOp E o f.ra f.rl f.x f.wl := by
  induction h with
  | nil => simp
  | x lab hl h _ ih =>
    refine ⟨by simp [ih.1], fun i o f h1 h2 h3 => ?_⟩
    cases i with
    | zero => simp at h1 h2; subst h1; subst h2; exact xop_ok hl h
    | succ i => exact ih.2 i o f (by simpa using h1) (by simpa using h2) h3
  | o h _ ih =>
    refine ⟨by simp [ih.1], fun i o f h1 h2 h3 => ?_⟩
    cases i with
    | zero => simp at h1 h2; subst h1; subst h2; exact h
    | succ i => exact ih.2 i o f (by simpa using h1) (by simpa using h2) h3
  | skip h _ ih =>
    refine ⟨by simp [ih.1], fun i o f h1 h2 h3 => ?_⟩
    cases i with
    | zero => simp at h1 h2; subst h2; rw [h] at h3; simp at h3
    | succ i => exact ih.2 i o f (by simpa using h1) (by simpa using h2) h3

/-- A test whose outcome is known. -/
theorem AOps.xb {E : Env} {o : Oper} {ra : Al} {rl : Lb} {c b : Bool} {os : List Oper} {fs : List Fp} (hc : c = b) (h : xop E.P E.G o ra rl 0 = some (.bool c, [])) (hl : lget rl 0 = none) (r : AOps E os fs) :
    AOps E (o :: os) (⟨ra, rl, .bool b, [], true, false⟩ :: fs) := by
  subst hc
  exact .x 0 hl h r

def drawOK (n : Nat) (ops : Array Oper) : List Oper → List Fp → Bool
  | o :: os, f :: fs => guardOK ops o f && nodupK f.wl && dstOK n o.dst && drawOK n ops os fs
  | _, _ => true

theorem drawOK_ok {n : Nat} {ops : Array Oper} : ∀ {os : List Oper} {fs : List Fp}, drawOK n ops os fs = true → ∀ (i : Nat) (o : Oper) (f : Fp), os[i]? = some o → fs[i]? = some f → guardOK ops o f = true ∧ nodupK f.wl = true ∧ ∀ t, o.dst = some t → t < n
  | [], _, _, i, o, f, h1, _ => by simp at h1
  | _ :: _, [], _, i, o, f, _, h2 => by simp at h2
  | o' :: os, f' :: fs, h, i, o, f, h1, h2 => by
    simp [drawOK] at h
    cases i with
    | zero => simp at h1 h2; subst h1; subst h2; exact ⟨h.1.1.1, h.1.1.2, dstOK_ok h.1.2⟩
    | succ i => exact drawOK_ok h.2 i o f (by simpa using h1) (by simpa using h2)

theorem AW_drawK {E : Env} {K : Nat → Prop} {n : Nat} {al : Al} {L : Lb} {Q : Exit → Al → Lb → Prop} {id : Nat} {ops : Array Oper} (hm : E.P.follows .mixedOrders = true) (fs : List Fp) (ts : List Nat) (al' : Al) (L' : Lb)
    (hops : AOps E ops.toList fs) (hok : drawOK n ops ops.toList fs = true) (hedge : edgesOK ops = true) (hind : indep ops fs = true) (htext : textVals ops ops.toList fs al L = textWant ops ops.toList fs)
    (hk : keepS ts (textAl ops.toList fs al) = al') (hL : textL ops.toList fs L = L') (hq : Q .normal al' L') : AW E K n (.region id ops true) Q al L := by
  obtain ⟨h1, h2⟩ := hops.get
  refine AW_post (AW_draw (Q := fun e al1 L1 => e = .normal ∧ (∀ t, lget al1 t = lget (textAl ops.toList fs al) t) ∧ ∀ l, lget L1 l = lget (textL ops.toList fs L) l) hm fs (by simpa using h1.symm)
    (fun i o f ho hf hr => h2 i o f (by simpa using ho) hf hr) (fun i o f ho hf => drawOK_ok hok i o f (by simpa using ho) hf) hedge hind htext (fun al1 L1 e1 e2 => ⟨rfl, e1, e2⟩)) ?_
  rintro e al1 L1 ⟨rfl, e1, e2⟩
  refine ⟨al', L', (Weak.sub fun p hp => ?_).trans (Weak.eqL fun l => ?_), hq⟩
  · rw [e1]; exact keepS_ok hk p hp
  · rw [e2, hL]
end Go.SH
