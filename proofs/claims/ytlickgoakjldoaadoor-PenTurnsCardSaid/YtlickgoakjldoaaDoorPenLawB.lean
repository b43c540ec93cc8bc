/- The plain laws of the pens: PenApplies. -/
import Derived.Test.YtlickgoakjldoaaDoorPenLawA
set_option linter.unusedVariables false
set_option linter.unusedSimpArgs false
namespace Go.SH

theorem andO (c d : Bool) : (bif c then some d else some false) = some (c && d) := by cases c <;> rfl
theorem orO (c d : Bool) : (bif c then some true else some d) = some (c || d) := by cases c <;> rfl
/-- What is done with a plane and a colour that were read. -/
def putO (a : Bool) (c i : Int) (b f k : Int) : Option (((Int × Int × Int) ⊕ (Int × Int × Int)) ⊕ (Int × Int × Int × Int)) :=
  (bif (decide (c ≥ 0) && a) then (some c) else (some k) : Option (Int)).bind fun x134 =>
  bif (decide (c ≥ 0) && !a) then (some (.inr (i, b, c, x134))) else (some (.inr (i, b, f, x134)))
theorem putO_neg (a : Bool) (i b f k : Int) : putO a (-1) i b f k = some (.inr (i, b, f, k)) := rfl
theorem putO_pos (a : Bool) (c i b f k : Int) (h : 0 ≤ c) : putO a c i b f k = some (.inr (i, paint (bif a then 40 else 30) c (b, f, k))) := by
  unfold putO paint
  have : decide (c ≥ 0) = true := dec_t h
  rw [this]
  cases a <;> rfl

theorem ref_step {l : List Int} {i : Nat} {n : Int} (p : T3) (hp : Fine p) (h : l[i]? = some n) (hb : l.length < 4611686018427387904) : orielref12_Apply_loop1 l (i : Int) p.1 p.2.1 p.2.2 =
    some (match act p n (l.drop (i + 1)) with | none => .inl (.inr p) | some (q, t) => .inr (((i + 1 + t.toNat : Nat) : Int), q)) := by
  have hlt : i < l.length := (List.getElem?_eq_some_iff.1 h).1
  have e1 : decide ((i : Int) < (l.length : Int)) = true := dec_t (by omega)
  have e2 : IntKind.i64.wrap ((i : Int) + 1) = ((i + 1 : Nat) : Int) := by rw [w64]; omega
  have e3 : IntKind.i64.wrap (((i + 1 : Nat) : Int) + 2) = ((i + 1 + 2 : Nat) : Int) := by rw [w64]; omega
  have e4 : IntKind.i64.wrap (((i + 1 : Nat) : Int) + 4) = ((i + 1 + 4 : Nat) : Int) := by rw [w64]; omega
  have hq : 0 ≤ ((i + 1 : Nat) : Int) ∧ ((i + 1 : Nat) : Int).toNat ≤ l.length ∧ l.length ≤ l.length := by omega
  have ht : ((i + 1 : Nat) : Int).toNat = i + 1 := rfl
  have h3 := ref3_eq p n hp
  unfold orielref12_Apply_loop1
  rw [e1, cond_true, getI_nat, h, Option.bind_some, e2, e3, e4]
  by_cases h0 : n = 0
  · subst h0; rfl
  have h0' : (n == 0) = false := by simpa using h0
  rw [h0', cond_false, h3 h0, Option.bind_some, req_pos hq, ht, sub_end]
  simp only [andO, orO, Option.bind_some]
  have eC := refCol_eq (α := (Bool × Int × Int) ⊕ (((Int × Int × Int) ⊕ (Int × Int × Int)) ⊕ (Int × Int × Int × Int))) (l.drop (i + 1)) (fun c => some (.inl ((n == 48), c, ((i + 1 + 2 : Nat) : Int)))) (fun c => some (.inl ((n == 48), c, ((i + 1 + 4 : Nat) : Int)))) (some (.inr (.inl (.inr p))))
  have hflat : ¬ ((30 ≤ n ∧ n < 50) ∨ (90 ≤ n ∧ n < 98) ∨ (100 ≤ n ∧ n < 108)) → some (.inr (((i + 1 : Nat) : Int), (if 1 ≤ n ∧ n < 30 then (one p n).1 else p.1), p.2.1, p.2.2)) =
      some (match act p n (l.drop (i + 1)) with | none => (.inl (.inr p) : ((Int × Int × Int) ⊕ (Int × Int × Int)) ⊕ (Int × Int × Int × Int)) | some (q, t) => .inr (((i + 1 + t.toNat : Nat) : Int), q)) := by
    intro hn
    rw [act_one p (by omega)]
    simp only
    by_cases h : 1 ≤ n ∧ n < 30
    · rw [if_pos h]
      have := one_bits p h
      rw [this]; rfl
    · rw [if_neg h]
      have : one p n = p := by unfold one; rw [act_no p (by omega)]
      rw [this]; rfl
  by_cases hn : (30 ≤ n ∧ n < 50) ∨ (90 ≤ n ∧ n < 98) ∨ (100 ≤ n ∧ n < 108)
  · rw [if_neg (by omega)]
    by_cases h8 : n = 38 ∨ n = 48
    · have A1 : (decide (n ≥ 30) && decide (n ≤ 37)) = false := by simp; omega
      have A2 : (decide (n ≥ 90) && decide (n ≤ 97)) = false := by simp; omega
      have A3 : (n == 39) = false := by simp; omega
      have A4 : (decide (n ≥ 40) && decide (n ≤ 47)) = false := by simp; omega
      have A5 : (decide (n ≥ 100) && decide (n ≤ 107)) = false := by simp; omega
      have A6 : (n == 49) = false := by simp; omega
      have A7 : ((n == 38) || (n == 48)) = true := by simp; omega
      rw [A1, A2, A3, A4, A5, A6, A7]
      simp only [cond_false, cond_true]
      refine (congrArg (fun o => Option.bind o _) eC).trans ?_
      rw [act_col p h8]
      have hc := colS_r (l.drop (i + 1))
      rcases colS_t (l.drop (i + 1)) with ct | ct | ct
      · rw [if_pos ct, ct]; rfl
      · rw [if_neg (by omega), if_pos ct, ct]
        refine (putO_pos _ _ _ _ _ _ hc.1).trans ?_
        rcases h8 with rfl | rfl <;> rfl
      · rw [if_neg (by omega), if_neg (by omega), ct]
        refine (putO_pos _ _ _ _ _ _ hc.1).trans ?_
        rcases h8 with rfl | rfl <;> rfl
    · have hh := hue_r hn (by omega)
      rw [act_hue p hn (by omega)]
      have hw : ∀ (a : Bool) (c : Int), (bif a then (40 : Int) else 30) = (hue n).1 → c = (hue n).2 → putO a c ((i + 1 : Nat) : Int) p.1 p.2.1 p.2.2 = some (.inr (((i + 1 : Nat) : Int), paint (hue n).1 (hue n).2 p)) := by
        intro a c ha hc
        rw [putO_pos _ _ _ _ _ _ (by omega), ha, hc]
      by_cases c1 : n = 39
      · subst c1; exact hw false 0 rfl rfl
      by_cases c2 : n = 49
      · subst c2; exact hw true 0 rfl rfl
      have A3 : (n == 39) = false := by simp; omega
      have A6 : (n == 49) = false := by simp; omega
      have A7 : ((n == 38) || (n == 48)) = false := by simp; omega
      rw [A3, A6, A7]
      by_cases d1 : n < 40
      · have A1 : (decide (n ≥ 30) && decide (n ≤ 37)) = true := by simp; omega
        rw [A1]
        simp only [cond_true]
        have ec : IntKind.i64.wrap (IntKind.i64.wrap (n - 30) + 1) = n - 29 := by simp only [w64]; omega
        rw [ec]
        exact hw false (n - 29) (by unfold hue; rw [if_neg c1, if_neg c2, if_pos d1]; rfl) (by unfold hue; rw [if_neg c1, if_neg c2, if_pos d1])
      have A1 : (decide (n ≥ 30) && decide (n ≤ 37)) = false := by simp; omega
      rw [A1]
      by_cases d2 : n < 50
      · have A2 : (decide (n ≥ 90) && decide (n ≤ 97)) = false := by simp; omega
        have A4 : (decide (n ≥ 40) && decide (n ≤ 47)) = true := by simp; omega
        rw [A2, A4]
        simp only [cond_true, cond_false]
        have ec : IntKind.i64.wrap (IntKind.i64.wrap (n - 40) + 1) = n - 39 := by simp only [w64]; omega
        rw [ec]
        exact hw true (n - 39) (by unfold hue; rw [if_neg c1, if_neg c2, if_neg d1, if_pos d2]; rfl) (by unfold hue; rw [if_neg c1, if_neg c2, if_neg d1, if_pos d2])
      by_cases d3 : n < 98
      · have A2 : (decide (n ≥ 90) && decide (n ≤ 97)) = true := by simp; omega
        rw [A2]
        simp only [cond_true, cond_false]
        have ec : IntKind.i64.wrap (IntKind.i64.wrap (n - 90) + 9) = n - 81 := by simp only [w64]; omega
        rw [ec]
        exact hw false (n - 81) (by unfold hue; rw [if_neg c1, if_neg c2, if_neg d1, if_neg d2, if_pos d3]; rfl) (by unfold hue; rw [if_neg c1, if_neg c2, if_neg d1, if_neg d2, if_pos d3])
      · have A2 : (decide (n ≥ 90) && decide (n ≤ 97)) = false := by simp; omega
        have A4 : (decide (n ≥ 40) && decide (n ≤ 47)) = false := by simp; omega
        have A5 : (decide (n ≥ 100) && decide (n ≤ 107)) = true := by simp; omega
        rw [A2, A4, A5]
        simp only [cond_true, cond_false]
        have ec : IntKind.i64.wrap (IntKind.i64.wrap (n - 100) + 9) = n - 91 := by simp only [w64]; omega
        rw [ec]
        exact hw true (n - 91) (by unfold hue; rw [if_neg c1, if_neg c2, if_neg d1, if_neg d2, if_neg d3]; rfl) (by unfold hue; rw [if_neg c1, if_neg c2, if_neg d1, if_neg d2, if_neg d3])
  · have A1 : (decide (n ≥ 30) && decide (n ≤ 37)) = false := by simp; omega
    have A2 : (decide (n ≥ 90) && decide (n ≤ 97)) = false := by simp; omega
    have A3 : (n == 39) = false := by simp; omega
    have A4 : (decide (n ≥ 40) && decide (n ≤ 47)) = false := by simp; omega
    have A5 : (decide (n ≥ 100) && decide (n ≤ 107)) = false := by simp; omega
    have A6 : (n == 49) = false := by simp; omega
    have A7 : ((n == 38) || (n == 48)) = false := by simp; omega
    rw [A1, A2, A3, A4, A5, A6, A7]
    simp only [cond_false]
    exact (putO_neg false _ _ _ _).trans (hflat hn)

theorem ref_loop (l : List Int) (hb : l.length < 4611686018427387904) : ∀ (m i : Nat) (p : T3), Fine p → l.length - i ≤ m → i ≤ l.length + 4 →
    ∃ z, loopO (fun z => match z with | (x71, x72, x73, x74) => orielref12_Apply_loop1 l x71 x72 x73 x74) ((i : Int), p) = some z ∧ mrg z = applyL p (l.drop i) := by
  intro m
  have hend : ∀ (i : Nat) (p : T3), l.length ≤ i → ∃ z, loopO (fun z => match z with | (x71, x72, x73, x74) => orielref12_Apply_loop1 l x71 x72 x73 x74) ((i : Int), p) = some z ∧ mrg z = applyL p (l.drop i) := by
    intro i p hi
    refine ⟨.inl p, ?_, ?_⟩
    · refine loopO_done ?_
      obtain ⟨b, f, k⟩ := p
      unfold orielref12_Apply_loop1
      simp only
      rw [dec_f (by omega)]; rfl
    · rw [List.drop_eq_nil_of_le (by omega)]; simp [mrg, applyL]
  induction m with
  | zero => intro i p hp hm hi; exact hend i p (by omega)
  | succ m ih =>
    intro i p hp hm hi
    by_cases hlt : i < l.length
    · have hs := ref_step p hp (List.getElem?_eq_getElem hlt) hb
      have hd := List.drop_eq_getElem_cons hlt
      rw [loopO_eq]
      obtain ⟨b, f, k⟩ := p
      simp only at hs ⊢
      rw [hs, hd, applyL]
      cases ha : act (b, f, k) l[i] (l.drop (i + 1)) with
      | none => exact ⟨.inr (b, f, k), rfl, rfl⟩
      | some qt =>
        obtain ⟨q, t⟩ := qt
        have ht := act_t ha
        obtain ⟨z, h1, h2⟩ := ih (i + 1 + t.toNat) q (act_fine hp ha) (by omega) (by omega)
        refine ⟨z, h1, ?_⟩
        rw [h2]; simp only [List.drop_drop]
    · exact hend i p (by omega)

theorem refApply_eq (a b c : Int) (l : List Int) (hb : l.length < 4611686018427387904) : orielref12_Apply a b c l = some (bif l.isEmpty then (0, 0, 0) else applyL (fineS (a, b, c)) l) := by
  unfold orielref12_Apply
  have h0 : (((orielref12_May a b c).bind fun x1 => bif (!x1) then (some true) else (some (((l.length : Int) : Int) == 0)) : Option (Bool)).bind fun x2 => bif x2 then (some (0, 0, 0)) else (some (a, b, c)) : Option (Int × Int × Int)) = some (bif l.isEmpty then (0, 0, 0) else fineS (a, b, c)) := by
    rw [refMay_eq]
    unfold fineS
    cases l with
    | nil => cases mayB a b c <;> rfl
    | cons n r =>
      have e : (((n :: r).length : Int) == 0) = false := by simp; omega
      rw [e]
      cases h : mayB a b c <;> simp [h]
  rw [h0, Option.bind_some]
  cases l with
  | nil => exact congrArg (fun o => Option.bind o _) (loopO_done (r := Sum.inl (0, 0, 0)) rfl)
  | cons n r =>
    simp only [List.isEmpty_cons, cond_false]
    obtain ⟨z, h1, h2⟩ := ref_loop (n :: r) hb (n :: r).length 0 (fineS (a, b, c)) (fineS_fine _) (by omega) (by omega)
    generalize fineS (a, b, c) = p at *
    obtain ⟨x, y, w⟩ := p
    simp only [Int.natCast_zero, List.drop_zero] at h1 h2
    simp only
    rw [h1, ← h2]
    cases z <;> rfl

theorem applies_loop (l : List Int) (hl : l.length < 4611686018427387904) : ∀ (m i : Nat), l.length - i = m → i ≤ l.length →
    loopO (fun x7 => oriellaw12_PenApplies_loop1 l x7) (i : Int) = some (.inl ()) := by
  intro m
  induction m with
  | zero =>
    intro i hm hi
    have : i = l.length := by omega
    subst this
    refine loopO_done ?_
    unfold oriellaw12_PenApplies_loop1
    rw [dec_f (by omega)]; rfl
  | succ m ih =>
    intro i hm hi
    have hlt : i < l.length := by omega
    have hs : oriellaw12_PenApplies_loop1 l (i : Int) = some (.inr ((i + 1 : Nat) : Int)) := by
      have e2 : IntKind.i64.wrap ((i : Int) + 1) = ((i + 1 : Nat) : Int) := by rw [w64]; omega
      unfold oriellaw12_PenApplies_loop1
      rw [dec_t (by omega), cond_true, List.nil_append, getI_nat, List.getElem?_eq_getElem hlt, Option.bind_some, Option.bind_some, e2]
      simp
    rw [loopO_eq, hs]
    exact ih (i + 1) (by omega) (by omega)

theorem PenApplies_eq (a b c : Int) (l : List Int) : oriellaw12_PenApplies a b c l = some true := by
  unfold oriellaw12_PenApplies
  rw [known_eq, Option.bind_some, Bool.not_true, cond_false]
  by_cases h1 : ((l.length : Int)) > 2000
  · rw [dec_t h1, cond_true]
  have hb : l.length < 4611686018427387904 := by omega
  rw [dec_f h1, cond_false, List.nil_append, req_pos (lenq _ (by omega)), pen_Apply_eq _ _ _ _ hb, refApply_eq _ _ _ _ hb]
  have hl := applies_loop l hb _ 0 rfl (Nat.zero_le _)
  simp only [Int.natCast_zero] at hl
  have hf : Fine (bif l.isEmpty then (0, 0, 0) else applyL (fineS (a, b, c)) l) := by
    cases l.isEmpty
    · exact applyL_fine _ l _ (Nat.le_refl _) (fineS_fine _)
    · rfl
  have e0 : (bif mayB a b c then (a, b, c) else (0, 0, 0)) = fineS (a, b, c) := rfl
  rw [e0]
  generalize (bif l.isEmpty then (0, 0, 0) else applyL (fineS (a, b, c)) l) = q at *
  obtain ⟨x, y, z⟩ := q
  simp only [Option.bind_some]
  rw [hl]
  simp only [Option.bind_some, BEq.rfl, Bool.and_self, cond_true, pen_May_eq, refMay_eq]
  exact congrArg some hf
end Go.SH
