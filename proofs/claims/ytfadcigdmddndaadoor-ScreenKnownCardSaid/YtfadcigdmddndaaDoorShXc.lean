/- That a run of the code on symbolic values tells what the code does: statements of open order. -/
import Derived.Test.YtfadcigdmddndaaDoorShXb
set_option linter.unusedVariables false
set_option linter.unusedSimpArgs false
namespace Go.SH

theorem clash_mem {a b : List Lc} (h : clash a b = true) : ∃ l, l ∈ a ∧ l ∈ b := by
  simp only [clash, List.any_eq_true] at h
  obtain ⟨x, hx, y, hy, he⟩ := h
  simp at he; subst he
  exact ⟨x, hx, hy⟩
theorem memW {o : Oper} {f : Fp} {x : Lc} (h : x ∈ (fpW o f).map (·.1)) : (∃ d, x = .inl d ∧ d ∈ wrS o) ∨ ∃ l, x = .inr l ∧ l ∈ wrL f := by
  unfold fpW at h
  rw [List.map_append, List.mem_append] at h
  rcases h with h | h
  · left
    unfold wrS
    cases hd : o.dst with
    | none => rw [hd] at h; simp at h
    | some d => rw [hd] at h; simp at h; exact ⟨d, h, by simp⟩
  · right
    unfold wrL
    cases hr : f.run with
    | false => rw [hr] at h; simp at h
    | true =>
      rw [hr] at h
      simp only [if_true, List.map_map, List.mem_map, Function.comp] at h
      obtain ⟨p, hp, rfl⟩ := h
      exact ⟨p.1, rfl, by simp only [if_true]; exact List.mem_map_of_mem hp⟩
theorem memR {ops : Array Oper} {o : Oper} {f : Fp} {x : Lc} (hra : ∀ p ∈ f.ra, p.1 ∈ slotsOf (opnds o.op)) (h : x ∈ (fpR ops o f).map (·.1)) : (∃ d, x = .inl d ∧ d ∈ rdS ops o) ∨ ∃ l, x = .inr l ∧ l ∈ rdL f := by
  unfold fpR at h
  rw [List.map_append, List.mem_append] at h
  rcases h with h | h
  · left
    unfold rdS
    cases hd : gslot ops o with
    | none => rw [hd] at h; simp at h
    | some d => rw [hd] at h; simp at h; exact ⟨d, h, by simp⟩
  · cases hr : f.run with
    | false => rw [hr] at h; simp at h
    | true =>
      rw [hr] at h
      simp only [if_true, List.map_append, List.map_map, List.mem_append, List.mem_map, Function.comp] at h
      rcases h with (⟨p, hp, rfl⟩ | ⟨p, hp, rfl⟩) | ⟨l, hl, rfl⟩
      · exact .inl ⟨p.1, rfl, by unfold rdS; exact List.mem_append.2 (.inr (hra p hp))⟩
      · exact .inr ⟨p.1, rfl, by unfold rdL; rw [if_pos hr]; exact List.mem_append.2 (.inl (List.mem_map_of_mem hp))⟩
      · exact .inr ⟨l, rfl, by unfold rdL; rw [if_pos hr]; exact List.mem_append.2 (.inr hl)⟩

theorem indep_of {ops : Array Oper} {fs : List Fp} (hlen : fs.length = ops.size) (hS : indepS ops = true) (hD : pureL fs = true ∨ indepD ops fs = true)
    (hra : ∀ (i : Nat) (o : Oper) (f : Fp), ops[i]? = some o → fs[i]? = some f → ∀ p ∈ f.ra, p.1 ∈ slotsOf (opnds o.op)) : indep ops fs = true := by
  unfold indep
  simp only [List.all_eq_true, List.mem_range]
  intro j hj i hi
  have hin : i < ops.size := by omega
  have h1 : ops[i]? = some ops[i] := by simp [hin]
  have h2 : fs[i]? = some fs[i] := by simp [hlen, hin]
  have h3 : ops[j]? = some ops[j] := by simp [hj]
  have h4 : fs[j]? = some fs[j] := by simp [hlen, hj]
  have ri := hra i _ _ h1 h2
  have rj := hra j _ _ h3 h4
  have s1 : (ops.toList.map fun o => (rdS ops o, wrS o))[i]? = some (rdS ops ops[i], wrS ops[i]) := by simp [hin]
  have s2 : (ops.toList.map fun o => (rdS ops o, wrS o))[j]? = some (rdS ops ops[j], wrS ops[j]) := by simp [hj]
  have st := allS_ok _ _ [] 0 i j _ _ _ _ hS rfl (by omega) (by rw [List.nil_append]; exact s1) s2
  rw [Nat.zero_add] at st
  have dy : bitB ((masks ops.toList []).getD j 0) i = true ∨ (meetN (wrL fs[i]) (rdL fs[j] ++ wrL fs[j]) = false ∧ meetN (wrL fs[j]) (rdL fs[i]) = false) := by
    rcases hD with hD | hD
    · right
      have nil : ∀ f ∈ fs, wrL f = [] := by
        intro f hf
        have := List.all_eq_true.1 hD f hf
        unfold wrL
        split
        · split at this
          · rename_i hw; rw [hw]; rfl
          · simp at this
        · rfl
      rw [nil _ (List.getElem_mem _), nil _ (List.getElem_mem _)]
      exact ⟨rfl, rfl⟩
    · have d1 : (fs.map fun f => (rdL f, wrL f))[i]? = some (rdL fs[i], wrL fs[i]) := by simp [hlen, hin]
      have d2 : (fs.map fun f => (rdL f, wrL f))[j]? = some (rdL fs[j], wrL fs[j]) := by simp [hlen, hj]
      have := allS_ok _ _ [] 0 i j _ _ _ _ hD rfl (by omega) (by rw [List.nil_append]; exact d1) d2
      rwa [Nat.zero_add] at this
  simp only [List.getD_eq_getElem?_getD, List.getElem?_map, List.getElem?_range hin, List.getElem?_range hj, Option.map_some, Option.getD_some, h1, h2, h3, h4]
  generalize ops[i] = oi at *
  generalize ops[j] = oj at *
  generalize fs[i] = fi at *
  generalize fs[j] = fj at *
  by_cases hb : bitB ((masks ops.toList []).getD j 0) i = true
  · have := masks_befs ops.size j i hj hj (by rw [← bitB_ok]; exact hb)
    simp [List.contains_iff_mem, this]
  · obtain ⟨s3, s4⟩ := st.resolve_left hb
    obtain ⟨d3, d4⟩ := dy.resolve_left hb
    rw [Bool.or_eq_true]
    right
    rw [Bool.not_eq_true', Bool.or_eq_false_iff]
    constructor
    · cases hc : clash ((fpW oi fi).map (·.1)) ((fpR ops oj fj).map (·.1) ++ (fpW oj fj).map (·.1)) with
      | false => rfl
      | true =>
        exfalso
        obtain ⟨x, hx, hy⟩ := clash_mem hc
        rcases memW hx with ⟨d, rfl, hd⟩ | ⟨l, rfl, hl⟩
        · rcases List.mem_append.1 hy with hy | hy
          · rcases memR rj hy with ⟨d', e, hd'⟩ | ⟨l, e, _⟩
            · simp at e; subst e; exact meetN_no s3 hd (List.mem_append.2 (.inl hd'))
            · simp at e
          · rcases memW hy with ⟨d', e, hd'⟩ | ⟨l, e, _⟩
            · simp at e; subst e; exact meetN_no s3 hd (List.mem_append.2 (.inr hd'))
            · simp at e
        · rcases List.mem_append.1 hy with hy | hy
          · rcases memR rj hy with ⟨d', e, hd'⟩ | ⟨l', e, hl'⟩
            · simp at e
            · simp at e; subst e; exact meetN_no d3 hl (List.mem_append.2 (.inl hl'))
          · rcases memW hy with ⟨d', e, hd'⟩ | ⟨l', e, hl'⟩
            · simp at e
            · simp at e; subst e; exact meetN_no d3 hl (List.mem_append.2 (.inr hl'))
    · cases hc : clash ((fpW oj fj).map (·.1)) ((fpR ops oi fi).map (·.1)) with
      | false => rfl
      | true =>
        exfalso
        obtain ⟨x, hx, hy⟩ := clash_mem hc
        rcases memW hx with ⟨d, rfl, hd⟩ | ⟨l, rfl, hl⟩
        · rcases memR ri hy with ⟨d', e, hd'⟩ | ⟨l, e, _⟩
          · simp at e; subst e; exact meetN_no s4 hd hd'
          · simp at e
        · rcases memR ri hy with ⟨d', e, hd'⟩ | ⟨l', e, hl'⟩
          · simp at e
          · simp at e; subst e; exact meetN_no d4 hl hl'

/-! the text's order, one operation further -/
theorem textAl_app : ∀ (os : List Oper) (fs : List Fp) (o : Oper) (f : Fp) (al : Al), os.length = fs.length → textAl (os ++ [o]) (fs ++ [f]) al = stepAl o f (textAl os fs al)
  | [], [], o, f, al, _ => rfl
  | [], _ :: _, o, f, al, h => by simp at h
  | _ :: _, [], o, f, al, h => by simp at h
  | o' :: os, f' :: fs, o, f, al, h => textAl_app os fs o f _ (by simpa using h)
theorem textL_app : ∀ (os : List Oper) (fs : List Fp) (o : Oper) (f : Fp) (L : Lb), os.length = fs.length → textL (os ++ [o]) (fs ++ [f]) L = stepL f (textL os fs L)
  | [], [], o, f, L, _ => rfl
  | [], _ :: _, o, f, L, h => by simp at h
  | _ :: _, [], o, f, L, h => by simp at h
  | o' :: os, f' :: fs, o, f, L, h => textL_app os fs o f _ (by simpa using h)
theorem textVals_app (ops : Array Oper) : ∀ (os : List Oper) (fs : List Fp) (o : Oper) (f : Fp) (al : Al) (L : Lb), os.length = fs.length →
    textVals ops (os ++ [o]) (fs ++ [f]) al L = textVals ops os fs al L ++ [(fpR ops o f).map fun p => memOf (textAl os fs al) (textL os fs L) p.1]
  | [], [], o, f, al, L, _ => rfl
  | [], _ :: _, o, f, al, L, h => by simp at h
  | _ :: _, [], o, f, al, L, h => by simp at h
  | o' :: os, f' :: fs, o, f, al, L, h => by
    simp only [List.cons_append, textVals, textAl, textL]
    rw [textVals_app ops os fs o f _ _ (by simpa using h)]
theorem textWant_app (ops : Array Oper) : ∀ (os : List Oper) (fs : List Fp) (o : Oper) (f : Fp), os.length = fs.length → textWant ops (os ++ [o]) (fs ++ [f]) = textWant ops os fs ++ [(fpR ops o f).map (·.2)]
  | [], [], o, f, _ => rfl
  | [], _ :: _, o, f, h => by simp at h
  | _ :: _, [], o, f, h => by simp at h
  | o' :: os, f' :: fs, o, f, h => by
    simp only [List.cons_append, textWant]
    rw [textWant_app ops os fs o f (by simpa using h)]

/-- So far as a statement of open order is run, in the text's order. -/
structure DInv (E : Env) (ops : Array Oper) (pre : List Oper) (fs : List Fp) (al0 : Al) (L0 : Lb) (al : Al) (L : Lb) : Prop where
  len : pre.length = fs.length
  hal : al = textAl pre fs al0
  hL : L = textL pre fs L0
  tv : textVals ops pre fs al0 L0 = textWant ops pre fs
  op : ∀ (i : Nat) (o : Oper) (f : Fp), pre[i]? = some o → fs[i]? = some f → f.run = true → AOp E o f.ra f.rl f.x f.wl
  gd : ∀ (i : Nat) (o : Oper) (f : Fp), pre[i]? = some o → fs[i]? = some f → (match o.guard with | some _ => (!f.gd || !f.run) | none => f.run) = true
  ra : ∀ (i : Nat) (o : Oper) (f : Fp), pre[i]? = some o → fs[i]? = some f → ∀ p ∈ f.ra, p.1 ∈ slotsOf (opnds o.op)

theorem snoc_get {α : Type} {xs : List α} {x y : α} {i : Nat} (h : (xs ++ [x])[i]? = some y) : (i < xs.length ∧ xs[i]? = some y) ∨ (i = xs.length ∧ y = x) := by
  rcases Nat.lt_or_ge i xs.length with hi | hi
  · rw [List.getElem?_append_left hi] at h; exact .inl ⟨hi, h⟩
  · rw [List.getElem?_append_right hi] at h
    cases hk : i - xs.length with
    | zero => rw [hk] at h; simp at h; exact .inr ⟨by omega, h.symm⟩
    | succ k => rw [hk] at h; simp at h

theorem DInv.snoc {E : Env} {ops : Array Oper} {pre : List Oper} {fs : List Fp} {al0 al : Al} {L0 L : Lb} (h : DInv E ops pre fs al0 L0 al L) {o : Oper} {f : Fp}
    (hr : ∀ p ∈ fpR ops o f, memOf al L p.1 = p.2) (hop : f.run = true → AOp E o f.ra f.rl f.x f.wl) (hgd : (match o.guard with | some _ => (!f.gd || !f.run) | none => f.run) = true) (hra : ∀ p ∈ f.ra, p.1 ∈ slotsOf (opnds o.op)) :
    DInv E ops (pre ++ [o]) (fs ++ [f]) al0 L0 (stepAl o f al) (stepL f L) := by
  refine ⟨by simp [h.len], by rw [textAl_app _ _ _ _ _ h.len, h.hal], by rw [textL_app _ _ _ _ _ h.len, h.hL], ?_, ?_, ?_, ?_⟩
  · rw [textVals_app _ _ _ _ _ _ _ h.len, textWant_app _ _ _ _ _ h.len, h.tv, ← h.hal, ← h.hL]
    congr 2
    exact List.map_congr_left hr
  · intro i o' f' h1 h2 h3
    rcases snoc_get h1 with ⟨a, b⟩ | ⟨a, rfl⟩ <;> rcases snoc_get h2 with ⟨c, d⟩ | ⟨c, rfl⟩
    · exact h.op i _ _ b d h3
    · have := h.len; omega
    · have := h.len; omega
    · exact hop h3
  · intro i o' f' h1 h2
    rcases snoc_get h1 with ⟨a, b⟩ | ⟨a, rfl⟩ <;> rcases snoc_get h2 with ⟨c, d⟩ | ⟨c, rfl⟩
    · exact h.gd i _ _ b d
    · have := h.len; omega
    · have := h.len; omega
    · exact hgd
  · intro i o' f' h1 h2
    rcases snoc_get h1 with ⟨a, b⟩ | ⟨a, rfl⟩ <;> rcases snoc_get h2 with ⟨c, d⟩ | ⟨c, rfl⟩
    · exact h.ra i _ _ b d
    · have := h.len; omega
    · have := h.len; omega
    · exact hra
end Go.SH
