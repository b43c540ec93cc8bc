/- That a run of the code on symbolic values tells what the code does: loops round by round, calls. -/
import Derived.Test.YtfadcigdmddndaaDoorShY
import Derived.Test.YtfadcigdmddndaaDoorShR
import Derived.Test.YtfadcigdmddndaaDoorShQ
set_option linter.unusedVariables false
set_option linter.unusedSimpArgs false
namespace Go.SH

section
variable {E : Env} {K : Nat → Prop} {n : Nat} {al : Al} {L : Lb} {Q : Exit → Al → Lb → Prop}

/-- What a loop does from the head of a round on. -/
def AWin (E : Env) (K : Nat → Prop) (n : Nat) (c : Code) (Q : Exit → Al → Lb → Prop) (al : Al) (L : Lb) : Prop :=
  ∀ A w σ a, Rel E A w σ al L a → a.tmps.size = n → ∀ b k cs, ∃ e a' w', Post E K A w σ L n Q e a' w' ∧ Arrives E.P (lone (b.at a (.code c :: .inLoop c :: k)) cs w) b k cs e a' w'

theorem AW_loopI {c : Code} (h : AWin E K n c Q al L) : AW E K n (.loop c) Q al L := by
  intro A w σ a r t b k cs
  obtain ⟨e, a', w', hq, harr⟩ := h A w σ a r t b k cs
  exact ⟨e, a', w', hq, .of_steps (.one step_loop) harr⟩

/-- One round of a loop. -/
theorem AWin_round {c : Code} (h : AW E K n c (athen (AWin E K n c Q) Q) al L) : AWin E K n c Q al L := by
  intro A w σ a r t b k cs
  obtain ⟨e, a₁, w₁, ⟨al₁, L₁, σ₁, q, r₁, g₁, t₁⟩, harr⟩ := h A w σ a r t b (.inLoop c :: k) cs
  cases e with
  | normal =>
    obtain ⟨e₂, a₂, w₂, hq₂, harr₂⟩ := q A w₁ σ₁ a₁ r₁ t₁ b k cs
    exact ⟨e₂, a₂, w₂, Post.trans g₁ hq₂, .of_steps (Steps.trans harr (.one step_inLoop)) harr₂⟩
  | exit id => exact ⟨_, a₁, w₁, ⟨al₁, L₁, σ₁, q, r₁, g₁, t₁⟩, .pass (x := .inLoop c) rfl (fun _ _ => .inl (by simp)) harr⟩
  | goto l => exact ⟨_, a₁, w₁, ⟨al₁, L₁, σ₁, q, r₁, g₁, t₁⟩, .pass (x := .inLoop c) rfl (fun _ _ => .inl (by simp)) harr⟩
  | ret => exact ⟨_, a₁, w₁, ⟨al₁, L₁, σ₁, q, r₁, g₁, t₁⟩, .pass (x := .inLoop c) rfl (fun _ _ => .inl (by simp)) harr⟩
  | panic ch => exact ⟨_, a₁, w₁, ⟨al₁, L₁, σ₁, q, r₁, g₁, t₁⟩, .pass (x := .inLoop c) rfl (fun _ _ => .inl (by simp)) harr⟩
  | outgrown => exact ⟨_, a₁, w₁, ⟨al₁, L₁, σ₁, q, r₁, g₁, t₁⟩, .pass (x := .inLoop c) rfl (fun _ _ => .inl (by simp)) harr⟩

theorem AWin_weak {c : Code} {al' : Al} {L' : Lb} (hw : Weak E K al L al' L') (h : AWin E K n c Q al' L') : AWin E K n c Q al L := by
  intro A w σ a r t b k cs
  obtain ⟨σ', r', g⟩ := hw A w σ a r
  obtain ⟨e, a', w', hq, harr⟩ := h A w σ' a r' t b k cs
  exact ⟨e, a', w', Post.trans g hq, harr⟩

/-- A call in the state as it is. -/
theorem AWl_callF {ops : Array Oper} {rest : List Oper} {d : Option Tmp} {ty : TypeId} {pos : String} {after : Array Edge} {g : Option (Nat × Bool)} {fo : Operand} {args : Array Operand} {ts : Array TypeId} {f : FuncId} {caps xs : List PV} {R : PV → Lb → Prop}
    (hf : xev E.G al fo = some (.fn f caps)) (hx : xevs E.G al args.toList = some xs) (hrun : ∀ args w, (callFunc f args).run E.P w = .ok (.enter f args) w)
    (h : ACalls E f (xs ++ caps) L R) (hd : ∀ t, d = some t → t < n) (hg : wants ops al ⟨d, .call ⟨.value fo, args, ts⟩, ty, pos, after, g⟩ = some true)
    (k : ∀ x L', R x L' → AWl E K n ops rest Q (oset d x al) L') : AWl E K n ops (⟨d, .call ⟨.value fo, args, ts⟩, ty, pos, after, g⟩ :: rest) Q al L := by
  intro A w σ a r t
  obtain ⟨cargs, hr, hl, hcv⟩ := run_call (d := d) (ty := ty) (pos := pos) (after := after) (g := g) (ts := ts) r (fun _ _ h => h) hf hx hrun
  simp only [wpList]
  rw [if_pos (wants_ok r hg)]
  refine .inl ?_
  unfold Oper.wp
  rw [hr]
  refine (h A w σ cargs (by omega) hcv r.blocks r.globals).mono ?_
  rintro e w' ⟨x, c, L', σ', rfl, hR, hv, hb, hgr⟩
  have hgt : Grow top w σ L w' σ' L' := ⟨hgr.size, fun l y _ hy => hgr.sig l y (r.blocks.dom l y hy) hy, hgr.keep, hgr.out⟩
  have r' := (r.grow hb hgt).put (d := d) (fun u hu => by rw [t]; exact hd u hu) hv
  exact wpList_mono (fun e a w h => Post.trans (hgt.weaken fun _ _ => trivial) h) _ _ _ (k x L' hR A w' σ' _ r' (by rw [size_put]; exact t))
end

/-- What a call leaves, without the labels that nothing names. -/
theorem ACalls.trim {E : Env} (hG : GOK E) {f : FuncId} {args : List PV} {L : Lb} {v : PV} {R : Lb → Prop} {LL : Lb} (h : ACalls E f args L fun r L' => r = v ∧ R L')
    (hk : ∀ L', R L' → (∀ l y, lget LL l = some y → lget L' l = some y) ∧ ∀ l, lget L l ≠ none → lget LL l ≠ none)
    (hv : within (hasL LL) v = true) (hc : LL.all (fun p => match p.2 with | some cells => withinL (hasL LL) cells | none => true) = true) : ACalls E f args L fun r L' => r = v ∧ L' = LL := by
  intro A w σ cargs hl hvr hb hg
  refine (h A w σ cargs hl hvr hb hg).mono ?_
  rintro e w' ⟨r, c, L', σ', rfl, ⟨rfl, hR⟩, hv', hb', hgr⟩
  obtain ⟨k1, k2⟩ := hk L' hR
  have hgt : Grow top w σ L w' σ' L' := ⟨hgr.size, fun l y _ hy => hgr.sig l y (hb.dom l y hy) hy, hgr.keep, hgr.out⟩
  have rel : Rel E A w' σ' [(0, r)] L' { tmps := #[c], defers := [] } := ⟨fun t x hx => by
    simp only [lget] at hx
    split at hx
    · rename_i ht; subst ht; simp at hx; subst hx; exact ⟨c, rfl, hv'⟩
    · simp at hx, hb', fun g cells hgc => (hg g cells hgc).grow hgt, rfl⟩
  obtain ⟨σ'', rel', g'⟩ := Weak.trim (K := fun l => lget L l ≠ none) (al' := [(0, r)]) (L' := LL) (fun p hp => by simp at hp; subst hp; simp [lget]) k1 (fun l hl => .inl (k2 l hl)) (by simpa using hv) hc hG A w' σ' _ rel
  obtain ⟨u, hu1, hu2⟩ := rel'.tmps 0 r (by simp [lget])
  simp at hu1; subst hu1
  exact ⟨r, c, LL, σ'', rfl, ⟨rfl, rfl⟩, hu2, rel'.blocks, hgr.trans g'⟩

section
variable {E : Env} {d : Option Tmp} {ty : TypeId} {pos : String} {after : Array Edge} {g : Option (Nat × Bool)} {ra : Al} {rl : Lb}
/-- A call where the order is open: it looks at the blocks 'rl' alone. -/
theorem AOp_callG {fo : Operand} {args : Array Operand} {ts : Array TypeId} {f : FuncId} {caps xs : List PV} {v : PV} {LL wl : Lb} (hG : GOK E) (hf : xev E.G ra fo = some (.fn f caps)) (hx : xevs E.G ra args.toList = some xs)
    (hrun : ∀ args w, (callFunc f args).run E.P w = .ok (.enter f args) w) (h : ACalls E f (xs ++ caps) rl fun r L' => r = v ∧ L' = LL)
    (hw : withinL (hasL rl) (xs ++ caps) = true) (hc : ∀ l cells, lget rl l = some (some cells) → withinL (hasL rl) cells = true)
    (hkeys : ∀ l, lget rl l ≠ none → lget LL l ≠ none) (hnew : ∀ l y, lget LL l = some y → lget rl l = none → ∃ p ∈ wl, p.1 = l)
    (heq : ∀ (L : Lb) (l : Nat), (∀ l y, lget rl l = some y → lget L l = some y) → lget (lupd L wl) l = lget (LL ++ L) l) : AOp E ⟨d, .call ⟨.value fo, args, ts⟩, ty, pos, after, g⟩ ra rl v wl := by
  intro A w σ al L a r h1 h2 h3
  obtain ⟨cargs, hr, hl, hcv⟩ := run_call (d := d) (ty := ty) (pos := pos) (after := after) (g := g) (ts := ts) r h1 hf hx hrun
  unfold Oper.wp
  rw [hr]
  refine (h.frame h2 hw hc r (by omega) hcv hG).mono ?_
  rintro e w' ⟨x, c, L1', rfl, ⟨rfl, rfl⟩, hk⟩
  obtain ⟨σ', e1, e2, e3⟩ := hk (fun l hl => by
    by_cases hr : lget rl l = none
    · cases hy : lget L1' l with
      | none => exact absurd hy hl
      | some y =>
        obtain ⟨p, hp, rfl⟩ := hnew l y hy hr
        rcases h3 p hp with h | h
        · exact .inl h
        · exact .inr h
    · exact .inl hr) hkeys
  have hq := fun l => heq L l h2
  have hgg : Grow top w' σ' (L1' ++ L) w' σ' (lupd L wl) := ⟨Nat.le_refl _, fun _ _ _ h => h, fun β _ hn => ⟨fun ha => hn ((avOf_congr hq β).1 ha), rfl⟩, rfl, rfl, rfl⟩
  refine ⟨σ', c, rfl, e1.grow hgg, ⟨?_, ?_, ?_, ?_⟩, e3.trans hgg⟩
  · intro l cells hl
    rw [hq] at hl
    rcases e2.all l cells hl with h1 | ⟨β, add, size, c, T, fr, hB⟩
    · exact .inl h1
    · exact .inr ⟨β, add, size, c, T, fr, ⟨hB.sig, hB.heap, hB.hsz, hB.fits, fun i x hx => let ⟨v, h1, h2⟩ := hB.vals i x hx; ⟨v, h1, h2.grow hgg⟩, hB.frs⟩⟩
  · intro l l' c c' β a s a' s' h1 h2; rw [hq] at h1 h2; exact e2.inj l l' c c' β a s a' s' h1 h2
  · intro l x hx; rw [hq]; exact e2.dom l x hx
  · intro β hA; obtain ⟨h1, h2⟩ := e2.lo β hA; exact ⟨h1, fun ha => h2 ((avOf_congr hq β).1 ha)⟩
end
end Go.SH
