/- That a run of the code on symbolic values tells what the code does: statements of open order, run; the whole. -/
import Derived.Test.YtfadcigdmddndaaDoorShXe
set_option linter.unusedVariables false
set_option linter.unusedSimpArgs false
namespace Go.SH

theorem fresh_mem {nx : Nat} {rl : Lb} {p : Nat × Option (List PV)} : p ∈ fresh nx rl ↔ p ∈ rl ∧ nx ≤ p.1 := by
  unfold fresh; rw [List.mem_filter]; simp
theorem AllM.fresh {m : Tr} {nx : Nat} {rl : Lb} (h : AllM m rl) : AllM m (fresh nx rl) := fun p hp => h p (fresh_mem.1 hp).1
theorem hasL_fresh {nx : Nat} {rl : Lb} {l : Nat} : hasL (fresh nx rl) l = true ↔ hasL rl l = true ∧ nx ≤ l := by
  rw [hasL_mem, hasL_mem]
  constructor
  · rintro ⟨p, hp, rfl⟩; obtain ⟨h1, h2⟩ := fresh_mem.1 hp; exact ⟨⟨p, h1, rfl⟩, h2⟩
  · rintro ⟨⟨p, hp, rfl⟩, h⟩; exact ⟨p, fresh_mem.2 ⟨hp, h⟩, rfl⟩
theorem hasL_get {rl : Lb} {l : Nat} : hasL rl l = true ↔ lget rl l ≠ none := by simp [hasL, Option.isSome_iff_ne_none]
theorem keysL_mem {rl : Lb} {l : Nat} : l ∈ keysL rl ↔ hasL rl l = true := by
  rw [hasL_mem]; unfold keysL; simp

/-- What is reached from some blocks on is told by the tree of those blocks. -/
theorem tree_StOK {m : Tr} {nx : Nat} {rl : Lb} (h : AllM m rl) (hb : TrB m nx) (hmx : nx ≤ maxL) : TrB (tree rl) nx := by
  have hlt : ∀ p ∈ rl, p.1 < maxL := fun p hp => Nat.lt_of_lt_of_le (h.lt hb hp) hmx
  intro l hl
  rw [tree_ok h hlt] at hl
  split at hl
  · exact hb l hl
  · simp at hl

section
variable {E : Env}

/-- A call in a statement of open order: what it looks at, what it makes. -/
theorem draw_call (hP : POK E) {f : FuncId} {args : List PV} {m m' : Tr} {nx nx' lo : Nat} {rl rl' wl : Lb} {v : PV} (hmx : nx ≤ maxL) (htb : TrB m nx) (hrl : reach m 100000 (labsL args) [] = some rl) (hrl' : reach m' 100000 (labs v ++ keysL rl) [] = some rl')
    (s1 : StOK (tree rl) nx lo m' nx') (hc : ∀ L, MR (tree rl) L → FrL nx L → ACalls E f args L fun r L' => r = v ∧ MR m' L' ∧ FrL nx' L') (hwl : (wl = fresh nx rl' ∧ nx ≤ lo) ∨ wl = rl') :
    AllM m rl ∧ AllM m' wl ∧ (∀ p ∈ wl, p.1 < nx') ∧ (∀ p ∈ wl, hasL rl p.1 = false → nx ≤ p.1) ∧ (ACalls E f args rl fun r L' => r = v ∧ L' = rl') ∧ withinL (hasL rl) args = true ∧ (∀ l cells, lget rl l = some (some cells) → withinL (hasL rl) cells = true) ∧
    (∀ l, lget rl l ≠ none → lget rl' l ≠ none) ∧ (∀ l y, lget rl' l = some y → lget rl l = none → ∃ p ∈ wl, p.1 = l) ∧ (∀ (L : Lb) (l : Nat), (∀ l y, lget rl l = some y → lget L l = some y) → lget (lupd L wl) l = lget (rl' ++ L) l) := by
  obtain ⟨r1, r2, r3, r4⟩ := reach_ok m _ _ _ _ hrl (fun p hp => by simp at hp) (fun p hp => by simp at hp)
  obtain ⟨q1, q2, q3, q4⟩ := reach_ok m' _ _ _ _ hrl' (fun p hp => by simp at hp) (fun p hp => by simp at hp)
  have hlt : ∀ p ∈ rl, p.1 < maxL := fun p hp => Nat.lt_of_lt_of_le (r1.lt htb hp) hmx
  have hkeys : ∀ l, hasL rl l = true → hasL rl' l = true := fun l hl => q3 l (List.mem_append.2 (.inr (keysL_mem.2 hl)))
  have hlow : ∀ l, l < nx → tget m' l ≠ none → hasL rl l = true := by
    intro l hl hn
    cases hh : hasL rl l with
    | true => rfl
    | false =>
      exfalso
      exact hn (s1.dom l hl (by rw [tree_ok r1 hlt, if_neg (by rw [hh]; simp)]))
  have hnewk : ∀ l, hasL rl' l = true → hasL rl l = false → nx ≤ l := by
    intro l h1 h2
    rcases Nat.lt_or_ge l nx with h | h
    · obtain ⟨p, hp, rfl⟩ := hasL_mem.1 h1
      obtain ⟨cs, _, e⟩ := q1 p hp
      rw [hlow p.1 h (by rw [e]; simp)] at h2; simp at h2
    · exact h
  have hwlM : AllM m' wl := by
    rcases hwl with ⟨rfl, _⟩ | rfl
    · exact q1.fresh
    · exact q1
  have hwl' : ∀ p ∈ wl, hasL rl' p.1 = true := by
    rcases hwl with ⟨rfl, _⟩ | rfl
    · exact fun p hp => hasL_mem.2 ⟨p, (fresh_mem.1 hp).1, rfl⟩
    · exact fun p hp => hasL_mem.2 ⟨p, hp, rfl⟩
  refine ⟨r1, hwlM, fun p hp => hwlM.lt s1.trb hp, fun p hp hn => hnewk p.1 (hwl' p hp) hn, ?_, withinL_labs _ _ r3, fun l cells hl => ?_, fun l hl => hasL_get.1 (hkeys l (hasL_get.2 hl)), fun l y hl hn => ?_, fun L l hsub => ?_⟩
  · refine ACalls.trim hP.g (R := fun L' => MR m' L' ∧ FrL nx' L') (hc rl (tree_MR r1 hlt) (r1.none htb)) (fun L' ⟨h1, h2⟩ => ⟨fun l y hl => q1.sub h1 hl, fun l hl => hasL_get.1 (hkeys l (hasL_get.2 hl))⟩)
      (within_labs _ _ fun k hk => q3 k (List.mem_append.2 (.inl hk))) ?_
    rw [List.all_eq_true]
    intro p hp
    obtain ⟨cs, e, _⟩ := q1 p hp
    rw [e]
    exact withinL_labs _ _ fun k hk => q4 p hp cs e k hk
  · exact withinL_labs _ _ fun k hk => r4 _ (mem_of_lget hl) cells rfl k hk
  · have h1 : hasL rl' l = true := by simp [hasL, hl]
    have h2 : hasL rl l = false := by simp [hasL, hn]
    have h3 := hnewk l h1 h2
    rcases hwl with ⟨rfl, _⟩ | rfl
    · exact hasL_mem.1 (hasL_fresh.2 ⟨h1, h3⟩)
    · exact hasL_mem.1 h1
  · rw [over_eq q1]
    rcases hwl with ⟨rfl, hlo⟩ | rfl
    · rw [upd_eq q1.fresh]
      by_cases h1 : hasL rl' l = true
      · rw [if_pos h1]
        by_cases h2 : nx ≤ l
        · rw [if_pos (hasL_fresh.2 ⟨h1, h2⟩)]
        · rw [if_neg (fun h => h2 (hasL_fresh.1 h).2)]
          obtain ⟨p, hp, rfl⟩ := hasL_mem.1 h1
          obtain ⟨cs, _, e⟩ := q1 p hp
          have e2 := s1.low p.1 (by omega)
          rw [e] at e2
          rw [e]
          exact hsub _ _ (tree_MR r1 hlt _ _ e2.symm)
      · rw [if_neg h1, if_neg (fun h => h1 (hasL_fresh.1 h).1)]
    · rw [upd_eq q1]

theorem tupd_StOK {m m' : Tr} {nx nx' lo : Nat} {rl wl : Lb} (hlo : lo ≤ nx) (htb : TrB m nx) (hM : AllM m rl) (hmx : nx ≤ maxL) (s1 : StOK (tree rl) nx lo m' nx') (hW : AllM m' wl) (hlt : ∀ p ∈ wl, p.1 < nx') (hnew : ∀ p ∈ wl, hasL rl p.1 = false → nx ≤ p.1) : StOK m nx lo (tupd m wl) nx' := by
  have hb : ∀ p ∈ wl, p.1 < maxL := fun p hp => Nat.lt_of_lt_of_le (hlt p hp) s1.mx
  have hbr : ∀ p ∈ rl, p.1 < maxL := fun p hp => Nat.lt_of_lt_of_le (hM.lt htb hp) hmx
  refine ⟨s1.le, s1.mx, fun l hl => ?_, fun l hl => ?_, fun l hl hn => ?_⟩
  · rcases tget_tupd wl m l hb with ⟨p, hp, rfl, _⟩ | ⟨_, h2⟩
    · exact hlt p hp
    · rw [h2] at hl; exact Nat.lt_of_lt_of_le (htb l hl) s1.le
  · rcases tget_tupd wl m l hb with ⟨p, hp, rfl, h2⟩ | ⟨_, h2⟩
    · rw [h2]
      obtain ⟨cs, e1, e2⟩ := hW p hp
      have e3 := s1.low p.1 hl
      rw [tree_ok hM hbr, e2] at e3
      split at e3
      · rw [e1, ← e3]
      · simp at e3
    · exact h2
  · rcases tget_tupd wl m l hb with ⟨p, hp, rfl, h2⟩ | ⟨_, h2⟩
    · exfalso
      cases hh : hasL rl p.1 with
      | false => have := hnew p hp hh; omega
      | true =>
        obtain ⟨q, hq, e⟩ := hasL_mem.1 hh
        obtain ⟨cs, _, e2⟩ := hM q hq
        rw [e, hn] at e2; simp at e2
    · rw [h2]; exact hn

theorem StOK.lower {m m' : Tr} {nx nx' lo lo' : Nat} (h : StOK m nx lo m' nx') (hl : lo' ≤ lo) : StOK m nx lo' m' nx' := ⟨h.le, h.mx, h.trb, fun l hk => h.low l (by omega), h.dom⟩

theorem fnew_mem {f : Fp} {l : Nat} (h : l ∈ fnew f) : lget f.rl l = none ∧ ∃ p ∈ f.wl, p.1 = l := by
  unfold fnew at h
  simp only [List.mem_map, List.mem_filter] at h
  obtain ⟨p, ⟨h1, h2⟩, rfl⟩ := h
  exact ⟨by simpa using h2, p, h1, rfl⟩

theorem ok_draw (ih : Task → Option Outc) (hP : POK E) (hI : ∀ t o, ih t = some o → Good E t o) {n : Nat} {ops : Array Oper} {rest : List Oper} {fs : List Fp} {al : Al} {m : Tr} {nx lo : Nat} {o : Outc} (h : Xstep E.P E.G ih (.draw n ops rest fs al m nx lo) = some o) :
    Good E (.draw n ops rest fs al m nx lo) o := by
  intro hlo hmx htb
  cases rest with
  | nil =>
    simp only [Xstep] at h
    cases hs : edgesOK ops && (indepS ops && drawS n ops) with
    | false => rw [hs] at h; simp at h
    | true =>
      cases hp : pureL fs || (nodupAll fs && indepD ops fs.reverse) with
      | false => rw [hs, hp] at h; simp at h
      | true =>
        rw [hs, hp] at h
        simp only [cond_true, Option.some.injEq] at h; subst h
        simp only [Bool.and_eq_true] at hs
        refine ⟨_, _, _, rfl, .refl hmx htb, fun id K al0 L0 pre L hpre hD h1 h2 => ?_⟩
        rw [List.append_nil] at hpre
        subst hpre
        refine (draw_end hP.mixed hD hs.1 hs.2.1 hs.2.2 ?_).mono fun e1 al1 L1 ⟨a, b, c⟩ => ?_
        · simp only [Bool.or_eq_true, Bool.and_eq_true] at hp
          rcases hp with hp | ⟨hp, hq⟩
          · left; unfold pureL at hp ⊢; rw [List.all_reverse]; exact hp
          · right; exact ⟨by unfold nodupAll at hp ⊢; rw [List.all_reverse]; exact hp, hq⟩
        · subst a; subst b; subst c; exact ⟨rfl, rfl, h1, h2⟩
  | cons op rest =>
    obtain ⟨d, op, ty, pos, after, g⟩ := op
    simp only [Xstep] at h
    split at h
    · rename_i hw
      split at h
      · rename_i fo args ts
        split at h
        · rename_i f caps xs hf hx
          split at h
          · rename_i rl hrl
            have hgd : gdOf ops al ⟨d, .call ⟨.value fo, args, ts⟩, ty, pos, after, g⟩ = false := (wants_gval hw).2.1 rfl
            -- a call that was run, and how it goes on
            have go : ∀ {v : PV} {m' : Tr} {nx' : Nat} {rl' wl : Lb} {lo' : Nat}, lo ≤ lo' → Good E (.fn f (xs ++ caps) (tree rl) nx lo') (.ret v m' nx') → lo' ≤ nx → reach m' 100000 (labs v ++ keysL rl) [] = some rl' → ((wl = fresh nx rl' ∧ nx ≤ lo') ∨ wl = rl') →
                Good E (.draw n ops rest (⟨raOf al (slotsOf (opnds (.call ⟨.value fo, args, ts⟩))), rl, v, wl, true, false⟩ :: fs) (oset d v al) (tupd m wl) nx' lo) o →
                ∃ al' m' nx', o = .st .normal al' m' nx' ∧ StOK m nx lo m' nx' ∧
                  ∀ id K al0 L0 pre L, ops.toList = pre ++ (⟨d, .call ⟨.value fo, args, ts⟩, ty, pos, after, g⟩ :: rest) → DInv E ops pre fs.reverse al0 L0 al L → MR m L → FrL nx L → AW E K n (.region id ops true) (EndS .normal al' m' nx') al0 L0 := by
              intro v m' nx' rl' wl lo' hll hG hlo' hrl' hwl hN
              obtain ⟨r1, _, _, _⟩ := reach_ok m _ _ _ _ hrl (fun p hp => by simp at hp) (fun p hp => by simp at hp)
              obtain ⟨v2, m2, nx2, e, s1, hrun, hc⟩ := hG hlo' hmx (tree_StOK r1 htb hmx)
              simp only [Outc.ret.injEq] at e
              obtain ⟨rfl, rfl, rfl⟩ := e
              obtain ⟨_, c2, c3, c4, c5, c6, c7, c8, c9, c10⟩ := draw_call hP hmx htb hrl hrl' s1 hc hwl
              have s2 := tupd_StOK (lo := lo) hlo htb r1 hmx (s1.lower hll) c2 c3 c4
              obtain ⟨al3, m3, nx3, rfl, s3, hk⟩ := hN (Nat.le_trans hlo s2.le) s2.mx s2.trb
              refine ⟨al3, m3, nx3, rfl, s2.trans s3, fun id K al0 L0 pre L hpre hD h1 h2 => ?_⟩
              have hA : AOp E ⟨d, .call ⟨.value fo, args, ts⟩, ty, pos, after, g⟩ (raOf al (slotsOf (opnds (.call ⟨.value fo, args, ts⟩)))) rl v wl :=
                AOp_callG hP.g ((xev_ra (by simp [opnds])).trans hf) ((xevs_ra (fun y hy => by simp [opnds, hy])).trans hx) hrun c5 c6 c7 c8 c9 c10
              have hD' := hD.snoc (o := ⟨d, .call ⟨.value fo, args, ts⟩, ty, pos, after, g⟩) (f := ⟨raOf al (slotsOf (opnds (.call ⟨.value fo, args, ts⟩))), rl, v, wl, true, false⟩)
                (fpR_ok hw hgd.symm (fun p hp => (raOf_mem hp).1) (fun p hp => by obtain ⟨cs, e1, e2⟩ := r1 p hp; rw [e1]; exact h1 _ _ e2) fun l hl => by
                  obtain ⟨e1, p, hp, rfl⟩ := fnew_mem hl
                  exact h2 p.1 (c4 p hp (by simp [hasL, e1])))
                (fun _ => hA) (by cases g <;> rfl) fun p hp => (raOf_mem hp).2
              refine hk id K al0 L0 (pre ++ [⟨d, .call ⟨.value fo, args, ts⟩, ty, pos, after, g⟩]) (lupd L wl) (by rw [hpre]; simp) ?_ (h1.upd fun p hp => Nat.lt_of_lt_of_le (c3 p hp) s1.mx) (FrL.upd s1.le h2 c3)
              rw [List.reverse_cons]
              exact hD'
            split at h
            · rename_i v m' nx' hfn
              split at h
              · rename_i rl' hrl'
                exact go hlo (hI _ _ hfn) (Nat.le_refl _) hrl' (.inl ⟨rfl, Nat.le_refl _⟩) (hI _ _ h)
              · simp at h
            · split at h
              · rename_i v m' nx' hfn
                split at h
                · rename_i rl' hrl'
                  exact go (Nat.le_refl _) (hI _ _ hfn) hlo hrl' (.inr rfl) (hI _ _ h)
                · simp at h
              · simp at h
          · simp at h
        · simp at h
      · split at h
        · rename_i x wl hx
          have hgd : gdOf ops al ⟨d, op, ty, pos, after, g⟩ = false := (wants_gval hw).2.1 rfl
          cases hwl : wlOK (rlOf E.G (raOf al (slotsOf (opnds op))) m op) nx lo wl with
          | false => rw [hwl] at h; simp at h
          | true =>
            rw [hwl, cond_true] at h
            have hrl : AllM m (rlOf E.G (raOf al (slotsOf (opnds op))) m op) := rlOf_all op
            have s1 := StOK.upd hlo hmx hrl htb hwl
            obtain ⟨al3, m3, nx3, rfl, s2, hk⟩ := hI _ _ h (Nat.le_trans hlo s1.le) s1.mx s1.trb
            refine ⟨al3, m3, nx3, rfl, s1.trans s2, fun id K al0 L0 pre L hpre hD h1 h2 => ?_⟩
            obtain ⟨u1, u2⟩ := upd_state hrl htb hwl h1 h2
            have hD' := hD.snoc (o := ⟨d, op, ty, pos, after, g⟩) (f := ⟨raOf al (slotsOf (opnds op)), rlOf E.G (raOf al (slotsOf (opnds op))) m op, x, wl, true, false⟩)
              (fpR_ok hw hgd.symm (fun p hp => (raOf_mem hp).1) (fun p hp => by obtain ⟨cs, e1, e2⟩ := hrl p hp; rw [e1]; exact h1 _ _ e2) fun l hl => by
                obtain ⟨e1, p, hp, rfl⟩ := fnew_mem hl
                rcases wl_of hrl htb hwl p hp with ⟨_, e | ⟨e, _⟩⟩
                · rw [e]; exact h2 nx (Nat.le_refl _)
                · rw [hasL_get] at e; exact absurd e1 e)
              (fun _ => xop2_ok (hrl.none htb nx (Nat.le_refl _)) hx) (by cases g <;> rfl) fun p hp => (raOf_mem hp).2
            refine hk id K al0 L0 (pre ++ [⟨d, op, ty, pos, after, g⟩]) (lupd L wl) (by rw [hpre]; simp) ?_ u1 u2
            rw [List.reverse_cons]
            exact hD'
        · simp at h
    · rename_i hw
      obtain ⟨al3, m3, nx3, rfl, s2, hk⟩ := hI _ _ h hlo hmx htb
      refine ⟨al3, m3, nx3, rfl, s2, fun id K al0 L0 pre L hpre hD h1 h2 => ?_⟩
      have hg : g ≠ none := fun h => by have := (wants_gval hw).2.2 h; simp at this
      have hD' := hD.snoc (o := ⟨d, op, ty, pos, after, g⟩) (f := ⟨[], [], .dead, [], false, gdOf ops al ⟨d, op, ty, pos, after, g⟩⟩)
        (fpR_ok hw rfl (fun p hp => by simp at hp) (fun p hp => by simp at hp) fun l hl => by obtain ⟨_, p, hp, _⟩ := fnew_mem hl; simp at hp)
        (fun h => by simp at h) (by cases g with | none => exact absurd rfl hg | some q => simp) fun p hp => by simp at hp
      refine hk id K al0 L0 (pre ++ [⟨d, op, ty, pos, after, g⟩]) L (by rw [hpre]; simp) ?_ h1 h2
      rw [List.reverse_cons]
      exact hD'
    · simp at h

/-- WHAT X TELLS IS WHAT THE CODE DOES. -/
theorem X_ok (hP : POK E) : ∀ (k : Nat) (t : Task) (o : Outc), X E.P E.G k t = some o → Good E t o
  | 0, t, o, h => by simp [X] at h
  | k + 1, .code n c al m nx lo, o, h => ok_code _ hP (X_ok hP k) h
  | k + 1, .ops n ops rest al m nx lo, o, h => ok_ops _ hP (X_ok hP k) h
  | k + 1, .draw n ops rest fs al m nx lo, o, h => ok_draw _ hP (X_ok hP k) h
  | k + 1, .fn f args m nx lo, o, h => ok_fn _ hP (X_ok hP k) h

/-- A function that is run on plain values. -/
theorem X_fn (hP : POK E) {k : Nat} {f : FuncId} {args : List PV} {v : PV} {m : Tr} {nx : Nat} (h : X E.P E.G k (.fn f args .nil 0 0) = some (.ret v m nx)) : ∃ R : Lb → Prop, ACalls E f args [] fun r L' => r = v ∧ R L' := by
  obtain ⟨v2, m2, nx2, e, _, _, hc⟩ := X_ok hP k _ _ h (Nat.le_refl _) (Nat.zero_le _) (fun l hl => by simp [tget] at hl)
  simp only [Outc.ret.injEq] at e
  obtain ⟨rfl, rfl, rfl⟩ := e
  exact ⟨_, hc [] (fun l cells hl => by simp [tget] at hl) fun l _ => rfl⟩
end
end Go.SH
