/- That a run of the code on symbolic values tells what the code does. -/
import Derived.Test.YtfadcigdmddndaaDoorShXc
set_option linter.unusedVariables false
set_option linter.unusedSimpArgs false
namespace Go.SH

theorem Weak.subG {E : Env} {K : Nat → Prop} {al al' : Al} {L : Lb} (hs : ∀ t x, lget al' t = some x → lget al t = some x) : Weak E K al L al' L := fun _ w σ _ r =>
  ⟨σ, ⟨fun t x hx => r.tmps t x (hs t x hx), r.blocks, r.globals, r.nodefer⟩, Grow.refl _ _ _ _⟩

theorem draw_end {E : Env} (hm : E.P.follows .mixedOrders = true) {n id : Nat} {ops : Array Oper} {fs : List Fp} {al0 al : Al} {L0 L : Lb} {K : Nat → Prop} (h : DInv E ops ops.toList fs al0 L0 al L) (he : edgesOK ops = true) (hS : indepS ops = true) (hd : drawS n ops = true)
    (hp : pureL fs = true ∨ (nodupAll fs = true ∧ indepD ops fs = true)) : AW E K n (.region id ops true) (fun e1 al1 L1 => e1 = .normal ∧ al1 = al ∧ L1 = L) al0 L0 := by
  have hlen : fs.length = ops.size := by have := h.len; simp at this; omega
  have g1 : ∀ (i : Nat) (o : Oper), ops[i]? = some o → ops.toList[i]? = some o := fun i o h => by simpa using h
  have hst : ∀ (i : Nat) (o : Oper), ops[i]? = some o → (dstOK n o.dst && (match o.guard with | some _ => (gslot ops o).isSome | none => true)) = true := fun i o ho =>
    List.all_eq_true.1 hd o (List.mem_of_getElem? (g1 i o ho))
  refine AW_post (AW_draw (Q := fun e al1 L1 => e = .normal ∧ (∀ t, lget al1 t = lget al t) ∧ ∀ l, lget L1 l = lget L l) hm fs hlen (fun i o f ho hf hr => h.op i o f (g1 i o ho) hf hr) (fun i o f ho hf => ⟨?_, ?_, ?_⟩) he
    (indep_of hlen hS (hp.imp (fun h => h) (·.2)) fun i o f ho hf => h.ra i o f (g1 i o ho) hf) h.tv (fun al1 L1 e1 e2 => ⟨rfl, fun t => by rw [e1, ← h.hal], fun l => by rw [e2, ← h.hL]⟩)) ?_
  · have h1 := h.gd i o f (g1 i o ho) hf
    have h2 := hst i o ho
    unfold guardOK
    cases hg : o.guard with
    | none => rw [hg] at h1; exact h1
    | some q => rw [hg] at h1 h2; simp only [Bool.and_eq_true] at h2 ⊢; exact ⟨h2.2, h1⟩
  · rcases hp with hp | hp
    · have := List.all_eq_true.1 hp f (List.mem_of_getElem? hf)
      split at this
      · rename_i hw; rw [hw]; rfl
      · simp at this
    · exact List.all_eq_true.1 hp.1 f (List.mem_of_getElem? hf)
  · intro t ht
    have h2 := hst i o ho
    simp only [Bool.and_eq_true] at h2
    exact dstOK_ok h2.1 t ht
  · rintro e al1 L1 ⟨rfl, e1, e2⟩
    exact ⟨al, L, (Weak.subG fun t x hx => by rw [e1]; exact hx).trans (Weak.eqL fun l => (e2 l).symm), rfl, rfl, rfl⟩

/-! ### trees from step to step -/
def TrB (m : Tr) (nx : Nat) : Prop := ∀ l, tget m l ≠ none → l < nx
structure StOK (m : Tr) (nx lo : Nat) (m' : Tr) (nx' : Nat) : Prop where
  le : nx ≤ nx'
  mx : nx' ≤ maxL
  trb : TrB m' nx'
  low : ∀ l, l < lo → tget m' l = tget m l
  dom : ∀ l, l < nx → tget m l = none → tget m' l = none
theorem StOK.refl {m : Tr} {nx lo : Nat} (h : nx ≤ maxL) (hb : TrB m nx) : StOK m nx lo m nx := ⟨Nat.le_refl _, h, hb, fun _ _ => rfl, fun _ _ h => h⟩
theorem StOK.trans {m m' m'' : Tr} {nx nx' nx'' lo : Nat} (h : StOK m nx lo m' nx') (h' : StOK m' nx' lo m'' nx'') : StOK m nx lo m'' nx'' :=
  ⟨Nat.le_trans h.le h'.le, h'.mx, h'.trb, fun l hl => (h'.low l hl).trans (h.low l hl), fun l hl hn => h'.dom l (Nat.lt_of_lt_of_le hl h.le) (h.dom l hl hn)⟩

theorem of1_all {G : List (Nat × List PV)} {al : Al} {m : Tr} (x : Operand) : AllM m (of1 G al m x) := by
  intro p hp
  unfold of1 at hp
  split at hp
  · split at hp
    · rename_i l off _ cs hcs; simp at hp; subst hp; exact ⟨cs, rfl, hcs⟩
    · simp at hp
  · split at hp
    · rename_i l _ _ _ _ _ cs hcs; simp at hp; subst hp; exact ⟨cs, rfl, hcs⟩
    · simp at hp
  · simp at hp
theorem AllM.app {m : Tr} {a b : Lb} (ha : AllM m a) (hb : AllM m b) : AllM m (a ++ b) := fun p hp => (List.mem_append.1 hp).elim (ha p) (hb p)
theorem rlOf_all {G : List (Nat × List PV)} {al : Al} {m : Tr} (o : Op) : AllM m (rlOf G al m o) := by
  unfold rlOf
  split <;> first | exact of1_all _ | exact AllM.app (of1_all _) (of1_all _) | (intro p hp; simp at hp)

theorem AllM.lt {m : Tr} {nx : Nat} {rl : Lb} (h : AllM m rl) (hb : TrB m nx) {p : Nat × Option (List PV)} (hp : p ∈ rl) : p.1 < nx := by
  obtain ⟨cs, _, h2⟩ := h p hp
  exact hb p.1 (by rw [h2]; simp)
theorem AllM.none {m : Tr} {nx : Nat} {rl : Lb} (h : AllM m rl) (hb : TrB m nx) : ∀ l, nx ≤ l → lget rl l = none := by
  intro l hl
  cases hy : lget rl l with
  | none => rfl
  | some y => have := h.lt hb (mem_of_lget hy); simp at this; omega

/-- What is written: an old block that may be written, or the new one. -/
theorem wl_of {m : Tr} {nx lo : Nat} {rl wl : Lb} (hrl : AllM m rl) (hb : TrB m nx) (hw : wlOK rl nx lo wl = true) : ∀ p ∈ wl, nx < maxL ∧ (p.1 = nx ∨ (hasL rl p.1 = true ∧ lo ≤ p.1 ∧ p.1 < nx)) := by
  intro p hp
  have := List.all_eq_true.1 hw p hp
  simp only [Bool.and_eq_true, Bool.or_eq_true] at this
  obtain ⟨h1, h2⟩ := this
  refine ⟨by simp [Nat.blt] at h1; omega, ?_⟩
  rcases h2 with h2 | ⟨h2, h3⟩
  · exact .inl (by rwa [Nat.beq_eq] at h2)
  · refine .inr ⟨h2, by simpa using h3, ?_⟩
    obtain ⟨q, hq, e⟩ := hasL_mem.1 h2
    have := hrl.lt hb hq; omega

theorem nxt_le (nx : Nat) (wl : Lb) : nx ≤ nxt nx wl := by cases wl <;> simp [nxt]
theorem StOK.upd {m : Tr} {nx lo : Nat} {rl wl : Lb} (hle : lo ≤ nx) (hmx : nx ≤ maxL) (hrl : AllM m rl) (hb : TrB m nx) (hw : wlOK rl nx lo wl = true) : StOK m nx lo (tupd m wl) (nxt nx wl) := by
  have hall := wl_of hrl hb hw
  have hlt : ∀ p ∈ wl, p.1 < maxL := fun p hp => by rcases hall p hp with ⟨h1, h2 | h2⟩ <;> omega
  have hne : wl ≠ [] → nx + 1 ≤ maxL ∧ nxt nx wl = nx + 1 := by
    intro h
    cases wl with
    | nil => exact absurd rfl h
    | cons p r => have := (hall p (by simp)).1; exact ⟨this, rfl⟩
  refine ⟨nxt_le nx wl, ?_, ?_, ?_, ?_⟩
  · cases wl with
    | nil => exact hmx
    | cons p r => exact (hne (by simp)).1
  · intro l hl
    rcases tget_tupd wl m l hlt with ⟨p, hp, rfl, _⟩ | ⟨_, h2⟩
    · have h1 := hne (by intro h; rw [h] at hp; simp at hp)
      rcases hall p hp with ⟨_, h2 | h2⟩ <;> omega
    · rw [h2] at hl; exact Nat.lt_of_lt_of_le (hb l hl) (nxt_le nx wl)
  · intro l hl
    rcases tget_tupd wl m l hlt with ⟨p, hp, rfl, _⟩ | ⟨_, h2⟩
    · rcases hall p hp with ⟨_, h2 | h2⟩ <;> omega
    · exact h2
  · intro l hl hn
    rcases tget_tupd wl m l hlt with ⟨p, hp, rfl, _⟩ | ⟨_, h2⟩
    · rcases hall p hp with ⟨_, h2 | ⟨h2, _⟩⟩
      · omega
      · obtain ⟨q, hq, e⟩ := hasL_mem.1 h2
        obtain ⟨cs, _, h3⟩ := hrl q hq
        rw [e, hn] at h3; simp at h3
    · rw [h2]; exact hn
theorem upd_state {m : Tr} {nx lo : Nat} {rl wl L : Lb} (hrl : AllM m rl) (hb : TrB m nx) (hw : wlOK rl nx lo wl = true) (h1 : MR m L) (h2 : FrL nx L) : MR (tupd m wl) (lupd L wl) ∧ FrL (nxt nx wl) (lupd L wl) := by
  have hall := wl_of hrl hb hw
  refine ⟨h1.upd fun p hp => ?_, FrL.upd (nxt_le nx wl) h2 fun p hp => ?_⟩
  · rcases hall p hp with ⟨h1, h2 | h2⟩ <;> omega
  · cases wl with
    | nil => simp at hp
    | cons q r => rcases hall p hp with ⟨_, h2 | h2⟩ <;> (show p.1 < nx + 1) <;> omega

/-! ### slots -/
theorem raOf_mem {al : Al} : ∀ {ts : List Nat} {p : Nat × PV}, p ∈ raOf al ts → lget al p.1 = some p.2 ∧ p.1 ∈ ts
  | [], p, h => by simp [raOf] at h
  | t :: r, p, h => by
    unfold raOf at h
    split at h
    · rename_i x hx
      rcases List.mem_cons.1 h with rfl | h
      · exact ⟨hx, by simp⟩
      · obtain ⟨h1, h2⟩ := raOf_mem h; exact ⟨h1, by simp [h2]⟩
    · obtain ⟨h1, h2⟩ := raOf_mem h; exact ⟨h1, by simp [h2]⟩
theorem raOf_sub {al : Al} {ts : List Nat} {t : Nat} {x : PV} (h : lget (raOf al ts) t = some x) : lget al t = some x := (raOf_mem (mem_of_lget h)).1
theorem raOf_get {al : Al} : ∀ {ts : List Nat} {t : Nat}, t ∈ ts → lget (raOf al ts) t = lget al t
  | [], t, h => by simp at h
  | s :: r, t, h => by
    by_cases hst : s = t
    · subst hst
      unfold raOf
      cases hx : lget al s with
      | some x => simp [lget]
      | none =>
        simp only
        cases hy : lget (raOf al r) s with
        | none => rfl
        | some y => rw [raOf_sub hy] at hx; simp at hx
    · have ht : t ∈ r := by rcases List.mem_cons.1 h with h | h; exact absurd h.symm hst; exact h
      unfold raOf
      cases hx : lget al s with
      | some x => simp only [lget]; rw [if_neg hst]; exact raOf_get ht
      | none => exact raOf_get ht
theorem slots_mem : ∀ {xs : List Operand} {t : Nat}, Operand.tmp t ∈ xs → t ∈ slotsOf xs
  | [], t, h => by simp at h
  | x :: r, t, h => by
    rcases List.mem_cons.1 h with rfl | h
    · simp [slotsOf]
    · have := slots_mem h
      cases x <;> simp [slotsOf, this]
theorem xev_ra {G : List (Nat × List PV)} {al : Al} {xs : List Operand} {x : Operand} (h : x ∈ xs) : xev G (raOf al (slotsOf xs)) x = xev G al x := by
  cases x with
  | tmp t => exact raOf_get (slots_mem h)
  | _ => rfl
theorem xevs_ra {G : List (Nat × List PV)} {al : Al} {xs : List Operand} : ∀ {ys : List Operand}, (∀ y ∈ ys, y ∈ xs) → xevs G (raOf al (slotsOf xs)) ys = xevs G al ys
  | [], _ => rfl
  | y :: r, h => by
    unfold xevs
    rw [xev_ra (h y (by simp)), xevs_ra fun z hz => h z (by simp [hz])]

theorem wants_gval {ops : Array Oper} {al : Al} {o : Oper} {run : Bool} (h : wants ops al o = some run) : (∀ d, gslot ops o = some d → lget al d = some (gval o run (gdOf ops al o))) ∧ (run = true → gdOf ops al o = false) ∧ (o.guard = none → run = true) := by
  unfold wants at h
  unfold gslot gval gdOf
  cases hg : o.guard with
  | none => rw [hg] at h; simp at h; simp [h]
  | some q =>
    obtain ⟨j, want⟩ := q
    rw [hg] at h
    simp only at h ⊢
    have hh : (ops[j]?).bind (·.dst) = none ∨ ∃ d, (ops[j]?).bind (·.dst) = some d := by cases (ops[j]?).bind (·.dst) <;> simp
    rcases hh with hd | ⟨d, hd⟩
    · simp [hd] at h
    · have hx' : lget al d = none ∨ ∃ x, lget al d = some x := by cases lget al d <;> simp
      rcases hx' with hx | ⟨x, hx⟩
      · simp [hd, hx] at h
      · simp only [hd, hx] at h ⊢
        cases x <;> simp at h
        · subst h
          refine ⟨fun d' hd' => ?_, by simp, by simp⟩
          simp at hd'; subst hd'
          rw [hx]; simp
        · rename_i b
          subst h
          refine ⟨fun d' hd' => ?_, by simp, by simp⟩
          simp at hd'; subst hd'
          rw [hx]; cases b <;> cases want <;> rfl

/-- What is looked at is as it is told. -/
theorem fpR_ok {ops : Array Oper} {al : Al} {L : Lb} {o : Oper} {f : Fp} (hw : wants ops al o = some f.run) (hgd : f.gd = gdOf ops al o) (hra : ∀ p ∈ f.ra, lget al p.1 = some p.2) (hrl : ∀ p ∈ f.rl, lget L p.1 = some p.2)
    (hnew : ∀ l ∈ fnew f, lget L l = none) : ∀ p ∈ fpR ops o f, memOf al L p.1 = p.2 := by
  intro p hp
  unfold fpR at hp
  rw [List.mem_append] at hp
  rcases hp with hp | hp
  · cases hd : gslot ops o with
    | none => rw [hd] at hp; simp at hp
    | some d =>
      rw [hd] at hp
      simp at hp; subst hp
      simp only [memOf]
      rw [(wants_gval hw).1 d hd, hgd]
  · split at hp
    · rw [List.mem_append, List.mem_append] at hp
      rcases hp with (hp | hp) | hp
      · simp only [List.mem_map] at hp
        obtain ⟨q, hq, rfl⟩ := hp
        simp only [memOf]; rw [hra q hq]
      · simp only [List.mem_map] at hp
        obtain ⟨q, hq, rfl⟩ := hp
        simp only [memOf]; rw [hrl q hq]
      · simp only [List.mem_map] at hp
        obtain ⟨l, hl, rfl⟩ := hp
        simp only [memOf]; rw [hnew l hl]
    · simp at hp
end Go.SH
