/- That a run of the code on symbolic values tells what the code does: what is reached; which operations come ahead of which. -/
import Derived.Test.YtfadcigdmddndaaDoorShXa
set_option linter.unusedVariables false
set_option linter.unusedSimpArgs false
namespace Go.SH

theorem within_labs (S : Nat → Bool) (x : PV) : (∀ k ∈ labs x, S k = true) → within S x = true := by
  apply PV.rec (motive_1 := fun x => (∀ k ∈ labs x, S k = true) → within S x = true) (motive_2 := fun xs => (∀ k ∈ labsL xs, S k = true) → withinL S xs = true)
  all_goals intros
  all_goals simp_all [within, withinL, labs, labsL]
  all_goals (rename_i h1 h2 h3; exact ⟨h1 fun k hk => h3 k (.inl hk), h2 fun k hk => h3 k (.inr hk)⟩)
theorem withinL_labs (S : Nat → Bool) : ∀ (xs : List PV), (∀ k ∈ labsL xs, S k = true) → withinL S xs = true
  | [], _ => rfl
  | x :: xs, h => by
    simp only [labsL, List.mem_append] at h
    simp only [withinL, Bool.and_eq_true]
    exact ⟨within_labs S x fun k hk => h k (.inl hk), withinL_labs S xs fun k hk => h k (.inr hk)⟩

/-- Blocks as a tree tells them. -/
def AllM (m : Tr) (rl : Lb) : Prop := ∀ p ∈ rl, ∃ cs, p.2 = some cs ∧ tget m p.1 = some cs
theorem AllM.get {m : Tr} {rl : Lb} (h : AllM m rl) {l : Nat} {y : Option (List PV)} (hl : lget rl l = some y) : ∃ cs, y = some cs ∧ tget m l = some cs := h _ (mem_of_lget hl)
theorem AllM.sub {m : Tr} {rl L : Lb} (h : AllM m rl) (hm : MR m L) {l : Nat} {y : Option (List PV)} (hl : lget rl l = some y) : lget L l = some y := by
  obtain ⟨cs, rfl, h2⟩ := h.get hl
  exact hm l cs h2
theorem hasL_mem {rl : Lb} {l : Nat} : hasL rl l = true ↔ ∃ p ∈ rl, p.1 = l := by
  constructor
  · intro h
    simp only [hasL, Option.isSome_iff_ne_none] at h
    exact key_mem h
  · rintro ⟨p, hp, rfl⟩
    induction rl with
    | nil => simp at hp
    | cons q r ih =>
      obtain ⟨k, y⟩ := q
      simp only [hasL, lget]
      by_cases hk : k = p.1
      · simp [hk]
      · rw [if_neg hk]
        rcases List.mem_cons.1 hp with rfl | hp
        · exact absurd rfl hk
        · exact ih hp

theorem reach_ok (m : Tr) : ∀ (f : Nat) (todo : List Nat) (acc r : Lb), reach m f todo acc = some r → AllM m acc → (∀ p ∈ acc, ∀ cs, p.2 = some cs → ∀ k ∈ labsL cs, hasL acc k = true ∨ k ∈ todo) →
    AllM m r ∧ (∀ l, hasL acc l = true → hasL r l = true) ∧ (∀ l ∈ todo, hasL r l = true) ∧ ∀ p ∈ r, ∀ cs, p.2 = some cs → ∀ k ∈ labsL cs, hasL r k = true
  | 0, _, _, _, h, _, _ => by simp [reach] at h
  | f + 1, [], acc, r, h, ha, hc => by
    simp [reach] at h; subst h
    exact ⟨ha, fun l h => h, by simp, fun p hp cs hcs k hk => (hc p hp cs hcs k hk).resolve_right (by simp)⟩
  | f + 1, l :: todo, acc, r, h, ha, hc => by
    unfold reach at h
    cases hl : hasL acc l with
    | true =>
      rw [hl, cond_true] at h
      obtain ⟨h1, h2, h3, h4⟩ := reach_ok m f todo acc r h ha fun p hp cs hcs k hk => by
        rcases hc p hp cs hcs k hk with h | h
        · exact .inl h
        · rcases List.mem_cons.1 h with rfl | h
          · exact .inl hl
          · exact .inr h
      exact ⟨h1, h2, fun k hk => by
        rcases List.mem_cons.1 hk with rfl | hk
        · exact h2 _ hl
        · exact h3 k hk, h4⟩
    | false =>
      rw [hl, cond_false] at h
      split at h
      · rename_i cs hcs
        obtain ⟨h1, h2, h3, h4⟩ := reach_ok m f (labsL cs ++ todo) ((l, some cs) :: acc) r h
          (fun p hp => by
            rcases List.mem_cons.1 hp with rfl | hp
            · exact ⟨cs, rfl, hcs⟩
            · exact ha p hp)
          (fun p hp cs' hcs' k hk => by
            rcases List.mem_cons.1 hp with rfl | hp
            · simp at hcs'; subst hcs'
              exact .inr (List.mem_append.2 (.inl hk))
            · rcases hc p hp cs' hcs' k hk with h | h
              · left
                obtain ⟨q, hq, hq2⟩ := hasL_mem.1 h
                exact hasL_mem.2 ⟨q, List.mem_cons_of_mem _ hq, hq2⟩
              · rcases List.mem_cons.1 h with rfl | h
                · exact .inl (hasL_mem.2 ⟨(k, some cs), List.mem_cons_self, rfl⟩)
                · exact .inr (List.mem_append.2 (.inr h)))
        refine ⟨h1, fun k hk => ?_, fun k hk => ?_, h4⟩
        · obtain ⟨q, hq, hq2⟩ := hasL_mem.1 hk
          exact h2 k (hasL_mem.2 ⟨q, List.mem_cons_of_mem _ hq, hq2⟩)
        · rcases List.mem_cons.1 hk with rfl | hk
          · exact h2 _ (hasL_mem.2 ⟨(k, some cs), List.mem_cons_self, rfl⟩)
          · exact h3 k (List.mem_append.2 (.inr hk))
      · simp at h

theorem tget_tupd : ∀ (wl : Lb) (m : Tr) (l : Nat), (∀ p ∈ wl, p.1 < maxL) → (∃ p ∈ wl, p.1 = l ∧ tget (tupd m wl) l = p.2) ∨ ((∀ p ∈ wl, p.1 ≠ l) ∧ tget (tupd m wl) l = tget m l)
  | [], m, l, _ => .inr ⟨by simp, rfl⟩
  | (k, y) :: r, m, l, h => by
    have hk := h (k, y) (by simp)
    rcases tget_tupd r (tput m k y) l (fun p hp => h p (by simp [hp])) with ⟨p, hp, h1, h2⟩ | ⟨h1, h2⟩
    · exact .inl ⟨p, by simp [hp], h1, h2⟩
    · by_cases e : l = k
      · subst e
        refine .inl ⟨(l, y), by simp, rfl, ?_⟩
        show tget (tupd (tput m l y) r) l = y
        rw [h2, tget_tput hk, if_pos rfl]
      · refine .inr ⟨fun p hp => ?_, ?_⟩
        · rcases List.mem_cons.1 hp with rfl | hp
          · exact fun h => e h.symm
          · exact h1 p hp
        · show tget (tupd (tput m k y) r) l = _
          rw [h2, tget_tput hk, if_neg e]

theorem lget_lupdM : ∀ (wl L : Lb) (l : Nat), (∃ p ∈ wl, p.1 = l ∧ lget (lupd L wl) l = some p.2) ∨ ((∀ p ∈ wl, p.1 ≠ l) ∧ lget (lupd L wl) l = lget L l)
  | [], L, l => .inr ⟨by simp, rfl⟩
  | (k, y) :: r, L, l => by
    rcases lget_lupdM r (lset L k y) l with ⟨p, hp, h1, h2⟩ | ⟨h1, h2⟩
    · exact .inl ⟨p, by simp [hp], h1, h2⟩
    · by_cases e : k = l
      · subst e
        refine .inl ⟨(k, y), by simp, rfl, ?_⟩
        show lget (lupd (lset L k y) r) k = _
        rw [h2, lget_lset, if_pos rfl]
      · refine .inr ⟨fun p hp => ?_, ?_⟩
        · rcases List.mem_cons.1 hp with rfl | hp
          · exact e
          · exact h1 p hp
        · show lget (lupd (lset L k y) r) l = _
          rw [h2, lget_lset, if_neg e]

theorem tree_ok {m : Tr} {rl : Lb} (h : AllM m rl) (hb : ∀ p ∈ rl, p.1 < maxL) (l : Nat) : tget (tree rl) l = if hasL rl l = true then tget m l else none := by
  rcases tget_tupd rl .nil l hb with ⟨p, hp, h1, h2⟩ | ⟨h1, h2⟩
  · obtain ⟨cs, e1, e2⟩ := h p hp
    rw [if_pos (hasL_mem.2 ⟨p, hp, h1⟩)]
    show tget (tupd .nil rl) l = _
    rw [h2, e1, ← h1, e2]
  · rw [if_neg (fun hh => by obtain ⟨p, hp, e⟩ := hasL_mem.1 hh; exact h1 p hp e)]
    show tget (tupd .nil rl) l = _
    rw [h2]; rfl
theorem tree_MR {m : Tr} {rl : Lb} (h : AllM m rl) (hb : ∀ p ∈ rl, p.1 < maxL) : MR (tree rl) rl := by
  intro l cells hl
  rw [tree_ok h hb] at hl
  split at hl
  · rename_i hh
    simp only [hasL, Option.isSome_iff_exists] at hh
    obtain ⟨y, hy⟩ := hh
    obtain ⟨cs, rfl, h2⟩ := h.get hy
    rw [h2] at hl; simp at hl; subst hl; exact hy
  · simp at hl

/-- Which way a list of blocks that a tree tells is laid over others does not matter. -/
theorem over_eq {m : Tr} {LL : Lb} (h : AllM m LL) (L : Lb) (l : Nat) : lget (LL ++ L) l = if hasL LL l = true then some (tget m l) else lget L l := by
  rw [lget_append]
  cases hy : lget LL l with
  | some y =>
    obtain ⟨cs, rfl, h2⟩ := h.get hy
    rw [if_pos (by simp [hasL, hy]), h2]
  | none => rw [if_neg (by simp [hasL, hy])]
theorem upd_eq {m : Tr} {LL : Lb} (h : AllM m LL) (L : Lb) (l : Nat) : lget (lupd L LL) l = if hasL LL l = true then some (tget m l) else lget L l := by
  rcases lget_lupdM LL L l with ⟨p, hp, h1, h2⟩ | ⟨h1, h2⟩
  · obtain ⟨cs, e1, e2⟩ := h p hp
    rw [if_pos (hasL_mem.2 ⟨p, hp, h1⟩), h2, e1, ← h1, e2]
  · rw [if_neg (fun hh => by obtain ⟨p, hp, e⟩ := hasL_mem.1 hh; exact h1 p hp e), h2]

/-! ### what comes ahead of what -/
theorem bitB_ok (m i : Nat) : bitB m i = m.testBit i := by
  unfold bitB
  rw [beq_dec, Nat.testBit_eq_decide_div_mod_eq]
  congr 1
  show ((m >>> i) % 2 = 1) = _
  rw [Nat.shiftRight_eq_div_pow]

theorem maskOf_bit (acc : List Nat) : ∀ (es : List Nat) (i : Nat), (maskOf acc es).testBit i = true → i ∈ es ∨ ∃ k ∈ es, (acc.getD k 0).testBit i = true
  | [], i, h => by simp [maskOf] at h
  | k :: r, i, h => by
    have e : maskOf acc (k :: r) = ((1 <<< k) ||| (acc.getD k 0)) ||| maskOf acc r := rfl
    rw [e, Nat.testBit_or, Nat.testBit_or, Bool.or_eq_true, Bool.or_eq_true] at h
    rcases h with (h | h) | h
    · left
      rw [Nat.one_shiftLeft, Nat.testBit_two_pow] at h
      simp at h
      subst h; simp
    · exact .inr ⟨k, by simp, h⟩
    · rcases maskOf_bit acc r i h with h | ⟨q, hq, h⟩
      · exact .inl (by simp [h])
      · exact .inr ⟨q, by simp [hq], h⟩

theorem masks_len : ∀ (os : List Oper) (acc : List Nat), (masks os acc).length = acc.length + os.length
  | [], acc => by simp [masks]
  | o :: r, acc => by rw [masks, masks_len r]; simp; omega
theorem masks_old : ∀ (os : List Oper) (acc : List Nat) (j : Nat), j < acc.length → (masks os acc)[j]? = acc[j]?
  | [], acc, j, _ => rfl
  | o :: r, acc, j, h => by
    rw [masks, masks_old r _ j (by simp; omega), List.getElem?_append_left h]
theorem masks_at : ∀ (os : List Oper) (acc : List Nat) (j : Nat) (o : Oper), os[j]? = some o → ∃ acc', acc'.length = acc.length + j ∧ (∀ i, i < acc'.length → acc'[i]? = (masks os acc)[i]?) ∧ (masks os acc)[acc.length + j]? = some (maskOf acc' (edgesOf o))
  | [], acc, j, o, h => by simp at h
  | o' :: r, acc, 0, o, h => by
    simp at h; subst h
    refine ⟨acc, by simp, fun i hi => by rw [masks, masks_old r _ i (by simp; omega), List.getElem?_append_left hi], ?_⟩
    rw [masks, masks_old r _ _ (by simp), List.getElem?_append_right (by omega)]; simp
  | o' :: r, acc, j + 1, o, h => by
    simp at h
    obtain ⟨acc', h1, h2, h3⟩ := masks_at r (acc ++ [maskOf acc (edgesOf o')]) j o h
    refine ⟨acc', by rw [h1]; simp; omega, fun i hi => by rw [h2 i hi]; rfl, ?_⟩
    have e : acc.length + (j + 1) = (acc ++ [maskOf acc (edgesOf o')]).length + j := by simp; omega
    rw [e]; exact h3

theorem masks_befs {ops : Array Oper} : ∀ (m j i : Nat), j < m → j < ops.size → ((masks ops.toList []).getD j 0).testBit i = true → i ∈ befs ops m j
  | 0, j, i, h, _, _ => by omega
  | m + 1, j, i, h, hj, hb => by
    have ho : ops.toList[j]? = some ops[j] := by simp [hj]
    obtain ⟨acc', h1, h2, h3⟩ := masks_at ops.toList [] j _ ho
    simp only [List.length_nil, Nat.zero_add] at h1 h3
    rw [List.getD_eq_getElem?_getD, h3, Option.getD_some] at hb
    unfold befs
    have ho2 : ops[j]? = some ops[j] := by simp [hj]
    rw [ho2]
    simp only [List.mem_append, List.mem_flatMap]
    rcases maskOf_bit acc' _ i hb with h' | ⟨k, hk, hb'⟩
    · exact .inl h'
    · right
      have hkl : k < acc'.length := by
        rcases Nat.lt_or_ge k acc'.length with h | h
        · exact h
        · rw [List.getD_eq_getElem?_getD, List.getElem?_eq_none h] at hb'; simp at hb'
      refine ⟨k, hk, masks_befs m k i (by omega) (by omega) ?_⟩
      rw [List.getD_eq_getElem?_getD, ← h2 k hkl, ← List.getD_eq_getElem?_getD]; exact hb'

theorem hasN_ok {l : List Nat} {x : Nat} : hasN l x = true ↔ x ∈ l := by
  unfold hasN
  rw [List.any_eq_true]
  constructor
  · rintro ⟨y, hy, h⟩; rw [Nat.beq_eq] at h; subst h; exact hy
  · intro h; exact ⟨x, h, by rw [Nat.beq_eq]⟩
theorem meetN_no {a b : List Nat} (h : meetN a b = false) {x : Nat} (ha : x ∈ a) (hb : x ∈ b) : False := by
  have : meetN a b = true := by unfold meetN; rw [List.any_eq_true]; exact ⟨x, ha, hasN_ok.2 hb⟩
  rw [h] at this; simp at this

theorem pairsS_ok (mk : List Nat) (j : Nat) (rj wj : List Nat) : ∀ (xs : List (List Nat × List Nat)) (s i : Nat) (ri wi : List Nat), pairsS mk j rj wj xs s = true → xs[i]? = some (ri, wi) →
    bitB (mk.getD j 0) (s + i) = true ∨ (meetN wi (rj ++ wj) = false ∧ meetN wj ri = false)
  | [], s, i, ri, wi, _, h => by simp at h
  | (ri', wi') :: r, s, 0, ri, wi, hp, h => by
    simp at h; obtain ⟨rfl, rfl⟩ := h
    simp only [pairsS, Bool.and_eq_true, Bool.or_eq_true, Bool.not_eq_true', Bool.or_eq_false_iff] at hp
    exact hp.1
  | (ri', wi') :: r, s, i + 1, ri, wi, hp, h => by
    simp only [pairsS, Bool.and_eq_true] at hp
    have := pairsS_ok mk j rj wj r (s + 1) i ri wi hp.2 (by simpa using h)
    rwa [show s + 1 + i = s + (i + 1) by omega] at this
theorem allS_ok (mk : List Nat) : ∀ (xs pre : List (List Nat × List Nat)) (s i j : Nat) (ri wi rj wj : List Nat), allS mk pre xs s = true → pre.length = s → i < s + j → (pre ++ xs)[i]? = some (ri, wi) → xs[j]? = some (rj, wj) →
    bitB (mk.getD (s + j) 0) i = true ∨ (meetN wi (rj ++ wj) = false ∧ meetN wj ri = false)
  | [], pre, s, i, j, ri, wi, rj, wj, _, _, _, _, h => by simp at h
  | (rj', wj') :: r, pre, s, i, 0, ri, wi, rj, wj, ha, hl, hi, h1, h2 => by
    simp at h2; obtain ⟨rfl, rfl⟩ := h2
    simp only [allS, Bool.and_eq_true] at ha
    rw [List.getElem?_append_left (by omega)] at h1
    have := pairsS_ok mk s rj' wj' pre 0 i ri wi ha.1 h1
    simpa using this
  | (rj', wj') :: r, pre, s, i, j + 1, ri, wi, rj, wj, ha, hl, hi, h1, h2 => by
    simp only [allS, Bool.and_eq_true] at ha
    have := allS_ok mk r (pre ++ [(rj', wj')]) (s + 1) i j ri wi rj wj ha.2 (by simp; omega) (by omega) (by rw [List.append_assoc]; exact h1) (by simpa using h2)
    rwa [show s + 1 + j = s + (j + 1) by omega] at this
end Go.SH
