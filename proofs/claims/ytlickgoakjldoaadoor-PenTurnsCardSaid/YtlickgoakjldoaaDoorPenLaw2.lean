/- The plain laws of the pens: numbers as text; the rows that are known. -/
import Derived.Test.YtlickgoakjldoaaDoorPenLaw
set_option linter.unusedVariables false
set_option linter.unusedSimpArgs false
namespace Go.SH

theorem loopO_done {S R : Type} {step : S → Option (Sum R S)} {s : S} {r : R} (h : step s = some (.inl r)) : loopO step s = some r := loopO_iff.2 (.done h)
def loopF {S R : Type} (step : S → Option (Sum R S)) : Nat → S → Option R
  | 0, _ => none
  | n + 1, s => match step s with
    | some (.inl r) => some r
    | some (.inr s') => loopF step n s'
    | none => none
theorem loopF_ok {S R : Type} {step : S → Option (Sum R S)} : ∀ {n : Nat} {s : S} {r : R}, loopF step n s = some r → loopO step s = some r
  | 0, s, r, h => by simp [loopF] at h
  | n + 1, s, r, h => by
    simp only [loopF] at h
    split at h
    · rename_i q hq; simp at h; subst h; exact loopO_done hq
    · rename_i s' hs; rw [loopO_eq, hs]; exact loopF_ok h
    · simp at h

/-- Digits. -/
def dg (n : Nat) : List UInt8 := if n < 10 then [UInt8.ofNat (48 + n)] else if n < 100 then [UInt8.ofNat (48 + n / 10), UInt8.ofNat (48 + n % 10)] else [UInt8.ofNat (48 + n / 100), UInt8.ofNat (48 + n / 10 % 10), UInt8.ofNat (48 + n % 10)]

theorem small_all : ∀ i : Fin 100, strconv_small (i.val : Int) = some (dg i.val) := by decide +kernel
theorem digits_all : ∀ i : Fin 157, strconv_numDigits ((100 + i.val : Nat) : Int) = some 3 := by decide +kernel
def zeros24 : List UInt8 := [0, 0, 0, 0, 0, 0, 0, 0, 0, 0, 0, 0, 0, 0, 0, 0, 0, 0, 0, 0, 0, 0, 0, 0]
theorem fmt_loop (n : Int) (z : List UInt8) : loopO (fun z => match z with | (x17, x18, x19) => strconv_formatBase10_v3_loop1 3 x17 x18 x19) (((3 : Nat) : Int), n, z) = some (((3 : Nat) : Int), n, z) :=
  loopO_done rfl
theorem fmt_all : ∀ i : Fin 157, strconv_formatBase10_v3 ((100 + i.val : Nat) : Int) zeros24 3 = some (dg (100 + i.val) ++ zeros24.drop 3) := by
  intro i
  unfold strconv_formatBase10_v3
  rw [fmt_loop]
  revert i
  decide +kernel

theorem w64n (n : Nat) (h : n ≤ 256) : IntKind.i64.wrap (n : Int) = n := by rw [w64]; omega
theorem wu64n (n : Nat) (h : n ≤ 256) : IntKind.u64.wrap (n : Int) = n := by simp [IntKind.wrap, IntKind.signed, IntKind.bits]; omega
theorem dg_len (n : Nat) : (dg n).length ≤ 3 := by unfold dg; split <;> (try split) <;> simp

theorem AppendUint_eq (n : Nat) (h : n ≤ 256) (a : List UInt8) (ha : a.length ≤ 1000000) : strconv_AppendUint_v3 (n : Int) a = some (a ++ dg n) := by
  have hd := dg_len n
  unfold strconv_AppendUint_v3
  by_cases h1 : n < 100
  · have e : decide ((n : Int) < 100) = true := by simp; omega
    have es := small_all ⟨n, h1⟩
    simp only at es
    rw [e, cond_true, w64n n h, es, Option.bind_some, req_pos]
    rw [List.length_append]; omega
  · have e : decide ((n : Int) < 100) = false := by simp; omega
    have ed := digits_all ⟨n - 100, by omega⟩
    have ef := fmt_all ⟨n - 100, by omega⟩
    have en : 100 + (n - 100) = n := by omega
    simp only [en] at ed ef
    have et : ((3 : Int).toNat - 0) = 3 := rfl
    have ed2 : (dg n).length = 3 := by unfold dg; rw [if_neg (by omega), if_neg h1]; simp
    have ez : (zeros24.drop 3).length = 21 := rfl
    rw [e, cond_false, ed, Option.bind_some, et]
    have ef' : strconv_formatBase10_v3 (n : Int) ([0, 0, 0, 0, 0, 0, 0, 0, 0, 0, 0, 0, 0, 0, 0, 0, 0, 0, 0, 0, 0, 0, 0, 0] : List UInt8) 3 = some (dg n ++ zeros24.drop 3) := ef
    rw [ef', req_pos (by decide), Option.bind_some, req_pos (by decide), req_pos (by rw [List.length_append, ed2, ez]), req_pos (by rw [List.length_append, ed2, ez]; decide), List.take_left' ed2, req_pos (by rw [List.length_append, ed2]; omega)]

theorem AppendInt_eq (n : Nat) (h : n ≤ 256) (a : List UInt8) (ha : a.length ≤ 1000000) : strconv_AppendInt_v6 (n : Int) a = some (a ++ dg n) := by
  unfold strconv_AppendInt_v6 strconv_AppendInt_v7
  have e : decide ((n : Int) < 0) = false := dec_f (by omega)
  rw [e, cond_false, wu64n n h]
  simp only [Option.bind_some]
  rw [AppendUint_eq n h a ha]
  rfl
end Go.SH
