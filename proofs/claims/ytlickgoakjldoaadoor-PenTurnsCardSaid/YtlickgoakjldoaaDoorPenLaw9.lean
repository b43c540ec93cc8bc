/- The plain laws of the pens: PenTurns. -/
import Derived.Test.YtlickgoakjldoaaDoorPenLaw8
set_option linter.unusedVariables false
set_option linter.unusedSimpArgs false
namespace Go.SH

theorem refMay_eq (a b c : Int) : orielref12_May a b c = some (mayB a b c) := by
  unfold orielref12_May mayB
  simp only [ge_iff_le]
  cases decide (0 ≤ a) <;> cases decide (a ≤ 255) <;> cases decide (0 ≤ b) <;> cases decide (b ≤ 256) <;> cases decide (0 ≤ c) <;> cases decide (c ≤ 256) <;> rfl
theorem refColour_eq (c base : Int) (hb : 0 ≤ base ∧ base ≤ 100) (hc : 0 ≤ c ∧ c ≤ 256) : orielref12_colour c base (base + 60) (base + 8) = some (showS base c) := by
  have e1 : IntKind.i64.wrap (c - 1) = c - 1 := by rw [w64]; omega
  have e2 : IntKind.i64.wrap (IntKind.i64.wrap (base + c) - 1) = base + (c - 1) := by simp only [w64]; omega
  have e5 : IntKind.i64.wrap (IntKind.i64.wrap (base + 60 + c) - 9) = base + 60 + (c - 1) - 8 := by simp only [w64]; omega
  unfold orielref12_colour showS
  rw [e1, e2, e5]
  cases decide (c ≤ 8) <;> cases decide (c ≤ 16) <;> rfl

theorem rd1 : ∀ b : Fin 256, ∀ k : Fin 8, (Int.tmod (Int.fdiv (b.val : Int) (2 ^ (min (IntKind.u64.wrap (k.val : Int)).toNat 64))) 2 == 1) = B b.val k.val := by decide +kernel
theorem rd0 : ∀ b : Fin 256, ∀ k : Fin 8, (Int.tmod (Int.fdiv (b.val : Int) (2 ^ (min (IntKind.u64.wrap (k.val : Int)).toNat 64))) 2 == 0) = !B b.val k.val := by decide +kernel
theorem rd_ok : ∀ k : Fin 8, 0 ≤ IntKind.u64.wrap (k.val : Int) := by decide +kernel
theorem By.rd1 {b : Int} (h : By b) {k : Nat} (hk : k < 8) : (Int.tmod (Int.fdiv b (2 ^ (min (IntKind.u64.wrap (k : Int)).toNat 64))) 2 == 1) = B b k := by
  obtain ⟨n, rfl⟩ := h.fin; exact SH.rd1 n ⟨k, hk⟩
theorem By.rd0 {b : Int} (h : By b) {k : Nat} (hk : k < 8) : (Int.tmod (Int.fdiv b (2 ^ (min (IntKind.u64.wrap (k : Int)).toNat 64))) 2 == 0) = !B b k := by
  obtain ⟨n, rfl⟩ := h.fin; exact SH.rd0 n ⟨k, hk⟩

def anyB (a b : Int) : Nat → Nat → Bool
  | 0, _ => false
  | m + 1, k => (B a k && !B b k) || anyB a b m (k + 1)
theorem any_some8 (a b : Int) : anyB a b 8 0 = some8 a b := by simp [anyB, some8]

theorem ref_loop1 {a b : Int} (ha : By a) (hb : By b) : ∀ (m k : Nat) (z : Bool), k + m = 8 →
    loopO (fun z => match z with | (x14, x15) => orielref12_Turn_loop1 a b x14 x15) ((k : Int), z) = some (z || anyB a b m k)
  | 0, k, z, hk => by
    obtain rfl : k = 8 := by omega
    refine (loopO_done (r := z) ?_).trans (by simp [anyB])
    rfl
  | m + 1, k, z, hk => by
    have e2 : IntKind.i64.wrap ((k : Int) + 1) = ((k + 1 : Nat) : Int) := by rw [w64]; omega
    have hs : orielref12_Turn_loop1 a b (k : Int) z = some (.inr (((k + 1 : Nat) : Int), z || (B a k && !B b k))) := by
      unfold orielref12_Turn_loop1
      rw [dec_t (show (k : Int) < 8 by omega), cond_true, e2, req_pos (rd_ok ⟨k, by omega⟩), req_pos (rd_ok ⟨k, by omega⟩), ha.rd1 (by omega), hb.rd0 (by omega)]
      cases B a k <;> cases B b k <;> cases z <;> rfl
    rw [loopO_eq]
    simp only
    rw [hs]
    simp only
    rw [ref_loop1 ha hb m (k + 1) _ (by omega), anyB, Bool.or_assoc]

theorem rbits : ∀ k : Fin 8, orielref12_bits (k.val : Int) = some (([22, 22, 23, 24, 25, 27, 28, 29] : List Int)[k.val]!, num k.val) := by decide +kernel
theorem ref_loop2 {a b : Int} (ha : By a) (hb : By b) : ∀ (m k : Nat) (o : List Int), k + m = 8 → o.length + m ≤ 100 →
    loopO (fun z => match z with | (x33, x34) => orielref12_Turn_loop2 a b x33 x34) ((k : Int), o) = some (o ++ obs a b m k)
  | 0, k, z, hk, _ => by
    obtain rfl : k = 8 := by omega
    refine (loopO_done (r := z) ?_).trans (by simp [obs])
    rfl
  | m + 1, k, o, hk, ho => by
    have e2 : IntKind.i64.wrap ((k : Int) + 1) = ((k + 1 : Nat) : Int) := by rw [w64]; omega
    have hr := rbits ⟨k, by omega⟩
    simp only at hr
    have hs : orielref12_Turn_loop2 a b (k : Int) o = some (.inr (((k + 1 : Nat) : Int), o ++ ob a b k)) := by
      unfold orielref12_Turn_loop2
      rw [dec_t (show (k : Int) < 8 by omega), cond_true, e2, hr, Option.bind_some]
      simp only
      rw [req_pos (rd_ok ⟨k, by omega⟩), req_pos (rd_ok ⟨k, by omega⟩), hb.rd0 (by omega), ha.rd1 (by omega)]
      unfold ob
      cases B a k <;> cases B b k
      · simp
      · simp
      · simp [req, show ((o.length : Int) + 1) * 8 ≤ 140737488355328 by omega]
      · simp
    rw [loopO_eq]
    simp only
    rw [hs]
    simp only
    rw [ref_loop2 ha hb m (k + 1) _ (by omega) (by rw [List.length_append]; unfold ob; cases B a k && !B b k <;> simp <;> omega), obs, List.append_assoc]

theorem fine_ref (a b c : Int) : ((orielref12_May a b c).bind fun x1 => bif (!x1) then (some (0, 0, 0)) else (some (a, b, c)) : Option (Int × Int × Int)) = some (fineS (a, b, c)) := by
  rw [refMay_eq]; unfold fineS; simp only [Option.bind_some]; cases mayB a b c <;> rfl

theorem refTurn_eq (a0 a1 a2 a3 a4 a5 : Int) : orielref12_Turn a0 a1 a2 a3 a4 a5 = some (turnS (fineS (a0, a1, a2)) (fineS (a3, a4, a5))) := by
  have r1 := fineS_fine (a0, a1, a2)
  have r2 := fineS_fine (a3, a4, a5)
  unfold orielref12_Turn
  rw [fine_ref, fine_ref]
  generalize fineS (a0, a1, a2) = p at *
  generalize fineS (a3, a4, a5) = q at *
  have hpr := may_r.1 r1
  have hqr := may_r.1 r2
  have hg := gone_eq r1 r2
  obtain ⟨x1, x2, x3⟩ := p
  obtain ⟨x4, x5, x6⟩ := q
  simp only [Option.bind_some] at *
  unfold turnS
  simp only [Bool.and_true]
  cases hq : (x1 == x4) && (x2 == x5 && x3 == x6) with
  | true => rfl
  | false =>
    simp only [cond_false]
    have h9 : ((bif ((x2 : Int) != 0) then (bif ((x5 : Int) == 0) then (some true) else (bif ((x3 : Int) != 0) then (some ((x6 : Int) == 0)) else (some false))) else (bif ((x3 : Int) != 0) then (some ((x6 : Int) == 0)) else (some false)) : Option (Bool))) = some (lost x2 x5 || lost x3 x6) := by
      unfold lost
      cases x2 != 0 <;> cases x5 == 0 <;> cases x3 != 0 <;> cases x6 == 0 <;> rfl
    have hl := ref_loop1 hpr.1 hqr.1 8 0 (lost x2 x5 || lost x3 x6) rfl
    simp only [Int.natCast_zero] at hl
    rw [any_some8, Bool.or_comm (lost x2 x5 || lost x3 x6), ← hg] at hl
    rw [h9, Option.bind_some, hl, Option.bind_some]
    have key : ∀ (o : List Int) (p' : T3), o.length ≤ 1 → By p'.1 →
        ((loopO (fun z => match z with | (x33, x34) => orielref12_Turn_loop2 x4 p'.1 x33 x34) (0, o)).bind fun x43 =>
          (bif ((p'.2.1 : Int) != x5) then ((orielref12_colour x5 30 90 38).bind fun x44 => req (((x43 ++ x44).length : Int) * 8 ≤ 140737488355328) (some (x43 ++ x44))) else (some x43) : Option ((List Int))).bind fun x45 =>
          (bif ((p'.2.2 : Int) != x6) then ((orielref12_colour x6 40 100 48).bind fun x46 => req (((x45 ++ x46).length : Int) * 8 ≤ 140737488355328) (some (x45 ++ x46))) else (some x45) : Option ((List Int))).bind fun x47 => some x47) =
        some (o ++ tbs x4 p'.1 9 0 ++ (bif x5 != p'.2.1 then showS 30 x5 else []) ++ (bif x6 != p'.2.2 then showS 40 x6 else [])) := by
      intro o p' ho hp'
      have hl := ref_loop2 hqr.1 hp' 8 0 o rfl (by omega)
      simp only [Int.natCast_zero] at hl
      have ht := obs_len x4 p'.1 8 0
      have s1 := show_len 30 x5
      have s2 := show_len 40 x6
      have c1 := refColour_eq x5 30 (by omega) (by omega)
      have c2 := refColour_eq x6 40 (by omega) (by omega)
      have n1 : ((p'.2.1 : Int) != x5) = (x5 != p'.2.1) := bne_comm
      have n2 : ((p'.2.2 : Int) != x6) = (x6 != p'.2.2) := bne_comm
      have k1 : (30 : Int) + 60 = 90 := rfl
      have k2 : (30 : Int) + 8 = 38 := rfl
      have k3 : (40 : Int) + 60 = 100 := rfl
      have k4 : (40 : Int) + 8 = 48 := rfl
      rw [k1, k2] at c1
      rw [k3, k4] at c2
      rw [hl, c1, c2, tbs_obs hqr.1 hp', n1, n2]
      simp only [Option.bind_some]
      cases (x5 != p'.2.1) <;> cases (x6 != p'.2.2) <;> simp only [cond_true, cond_false, Option.bind_some, List.append_nil]
      · rw [req_pos (by simp only [List.length_append]; omega)]; rfl
      · rw [req_pos (by simp only [List.length_append]; omega)]; rfl
      · rw [req_pos (by simp only [List.length_append]; omega), Option.bind_some, req_pos (by simp only [List.length_append]; omega)]; rfl
    cases gone (x1, x2, x3) (x4, x5, x6) with
    | true => exact key [0] (0, 0, 0) (by simp) ⟨Int.le_refl 0, show (0 : Int) ≤ 255 by decide⟩
    | false => exact key [] (x1, x2, x3) (by simp) hpr.1

theorem digits_ref : ∀ n : Fin 257, ((loopF (fun z => match z with | (x1, x2) => orielref12_Digits_loop1 x1 x2) 4 (([] : List UInt8), (n.val : Int))).bind fun (x5, x6) =>
  req (([(UInt8.ofInt (IntKind.i64.wrap (48 + x6)))] : List UInt8).length + x5.length ≤ 9223372036854775807) (
  some (([(UInt8.ofInt (IntKind.i64.wrap (48 + x6)))] : List UInt8) ++ x5))) = some (dg n.val) := by decide +kernel
theorem refDigits_eq (n : Nat) (h : n ≤ 256) : orielref12_Digits (n : Int) = some (dg n) := by
  have := digits_ref ⟨n, by omega⟩
  simp only at this
  obtain ⟨v, h1, h2⟩ := bind_some this
  unfold orielref12_Digits
  rw [loopF_ok h1]
  exact h2

theorem rform_loop (l : List Int) (hr : InR l) (hl : l.length ≤ 1000) : ∀ (m i : Nat) (out : List UInt8), l.length - i = m → i ≤ l.length → out.length + 4 * m ≤ 10000 →
    loopO (fun z => match z with | (x4, x5) => orielref12_Form_loop1 l x4 x5) ((i : Int), out) = some (out ++ js i (l.drop i)) := by
  intro m
  induction m with
  | zero =>
    intro i out hm hi ho
    have : i = l.length := by omega
    subst this
    refine (loopO_done (r := out) ?_).trans (by simp [js])
    simp only [orielref12_Form_loop1, dec_f (show ¬ ((l.length : Int) < (l.length : Int)) by omega), cond_false]
  | succ m ih =>
    intro i out hm hi ho
    have hlt : i < l.length := by omega
    have hs : orielref12_Form_loop1 l (i : Int) out = some (.inr (((i + 1 : Nat) : Int), out ++ ((bif decide (0 < i) then [59] else []) ++ dg l[i].toNat))) := by
      have hx := hr _ (List.getElem_mem hlt)
      have h : l[i]? = some l[i] := List.getElem?_eq_getElem hlt
      generalize l[i] = x at *
      obtain ⟨n, rfl⟩ : ∃ n : Nat, x = (n : Int) := ⟨x.toNat, by omega⟩
      have e1 : decide ((i : Int) < (l.length : Int)) = true := dec_t (by omega)
      have e2 : IntKind.i64.wrap ((i : Int) + 1) = ((i + 1 : Nat) : Int) := by rw [w64]; omega
      have e3 : decide ((i : Int) > 0) = decide (0 < i) := by congr 1; simp
      have hd := dg_len n
      unfold orielref12_Form_loop1
      rw [e1, cond_true, getI_nat, h, e2, e3]
      cases decide (0 < i) with
      | true =>
        rw [cond_true, req_pos (by simp; omega), Option.bind_some, Option.bind_some, refDigits_eq n (by omega), Option.bind_some, req_pos (by simp; omega)]
        simp
      | false =>
        rw [cond_false, Option.bind_some, Option.bind_some, refDigits_eq n (by omega), Option.bind_some, req_pos (by omega)]
        simp
    rw [loopO_eq]
    simp only
    rw [hs]
    simp only
    have hd := dg_len l[i].toNat
    rw [ih (i + 1) _ (by omega) (by omega) (by simp only [List.length_append]; cases decide (0 < i) <;> simp <;> omega), List.drop_eq_getElem_cons hlt]
    simp only [js, List.append_assoc]
theorem dg_ne (n : Nat) : dg n ≠ [] := by unfold dg; split <;> (try split) <;> simp
theorem refForm_eq (a0 a1 a2 a3 a4 a5 : Int) : orielref12_Form a0 a1 a2 a3 a4 a5 = some (formB (turnS (fineS (a0, a1, a2)) (fineS (a3, a4, a5)))) := by
  unfold orielref12_Form
  rw [refTurn_eq, Option.bind_some]
  have hr := turn_r (fineS (a0, a1, a2)) (fineS (a3, a4, a5)) (by have := fineS_r (a3, a4, a5); omega)
  have hl := turn_len (fineS (a0, a1, a2)) (fineS (a3, a4, a5))
  generalize turnS (fineS (a0, a1, a2)) (fineS (a3, a4, a5)) = l at *
  have hL := rform_loop l hr (by omega) _ 0 [] rfl (Nat.zero_le _) (by simp at *; omega)
  have hj := js_len l 0
  simp only [Int.natCast_zero, List.drop_zero, List.nil_append] at hL
  rw [hL, Option.bind_some]
  unfold formB
  cases l with
  | nil => rfl
  | cons x r =>
    have hne : (js 0 (x :: r) == []) = false := by
      have : js 0 (x :: r) ≠ [] := by
        rw [js]; simp [dg_ne]
      simpa using this
    rw [hne, cond_false, List.isEmpty_cons, cond_false, req_pos (by simp at *; omega), req_pos (by simp at *; omega)]

theorem turns_loop (l : List Int) (hl : l.length ≤ 1000) : ∀ (m i : Nat), l.length - i = m → i ≤ l.length →
    loopO (fun x5 => oriellaw12_PenTurns_loop1 l l x5) (i : Int) = some (.inl ()) := by
  intro m
  induction m with
  | zero =>
    intro i hm hi
    have : i = l.length := by omega
    subst this
    refine loopO_done ?_
    unfold oriellaw12_PenTurns_loop1
    rw [dec_f (by omega)]; rfl
  | succ m ih =>
    intro i hm hi
    have hlt : i < l.length := by omega
    have hs : oriellaw12_PenTurns_loop1 l l (i : Int) = some (.inr ((i + 1 : Nat) : Int)) := by
      have e2 : IntKind.i64.wrap ((i : Int) + 1) = ((i + 1 : Nat) : Int) := by rw [w64]; omega
      unfold oriellaw12_PenTurns_loop1
      rw [dec_t (by omega), cond_true, getI_nat, List.getElem?_eq_getElem hlt, Option.bind_some, Option.bind_some, e2]
      simp
    rw [loopO_eq, hs]
    exact ih (i + 1) (by omega) (by omega)

theorem PenTurns_eq (a b c d e f : Int) : oriellaw12_PenTurns a b c d e f = some true := by
  unfold oriellaw12_PenTurns
  rw [Turn_eq, refTurn_eq, Form_eq, refForm_eq, known_eq]
  have hl := turn_len (fineS (a, b, c)) (fineS (d, e, f))
  generalize turnS (fineS (a, b, c)) (fineS (d, e, f)) = l at *
  have h := turns_loop l (by omega) _ 0 rfl (Nat.zero_le _)
  simp only [Int.natCast_zero] at h
  simp only [Option.bind_some]
  rw [h]
  simp
end Go.SH
