/- Part 5. -/
import Derived.Test.YtfadcigdmddndaaDoorD
import Derived.KernelRfl
set_option linter.unusedVariables false
set_option linter.unusedSimpArgs false
set_option maxRecDepth 100000
namespace Go.SH
noncomputable def orielref15_Erase_loop1 (a0 : List (List (Int × K72c5.T))) (a1 : Int × Int) (a2 : Int × Int) (a3 : K92a5.T) (x23 : Int × (List (List (Int × K72c5.T)))) : Option ((((List (List (Int × K72c5.T))))) ⊕ (Int × (List (List (Int × K72c5.T))))) :=
    (bif decide (x23.1 < (a0.length : Int)) then
        some true
      else
        some false : Option (Bool)).bind fun x24 =>
    bif x24 then
      (getI a0 0).bind fun x25 =>
      ((bif decide (x23.1 ≥ a1.1) then
            bif decide (x23.1 ≤ a2.1) then
              some true
            else
              some false
          else
            some false : Option (Bool)).bind fun x32 =>
        bif x32 then
          (getI a0 0).bind fun x33 =>
          ((bif x23.1 == a1.1 then
                some true
              else
                some false : Option (Bool)).bind fun x35 =>
            bif x35 then
              some a1.2
            else
              some 0 : Option (Int)).bind fun x36 =>
          (bif x23.1 == a2.1 then
              some true
            else
              some false : Option (Bool)).bind fun x37 =>
          bif x37 then
            some (x36, IntKind.i64.wrap (a2.2 + 1))
          else
            some (x36, (x33.length : Int))
        else
          some ((x25.length : Int), 0) : Option (Int × Int)).bind fun x38 =>
      (getI a0 x23.1).bind fun x39 =>
      (orielref14_Erase x39 x38.1 x38.2 a3).bind fun x40 =>
      req (x23.2.length = x23.2.length) <|
      req ((x23.2 ++ [x40]).length * 24 ≤ maxBy) <|
      req ((x23.2 ++ [x40]).length = (x23.2 ++ [x40]).length) (some (.inr (IntKind.i64.wrap (x23.1 + 1), x23.2 ++ [x40])))
    else
      req (x23.2.length = x23.2.length) (some (.inl x23.2))
noncomputable def orielref15_Erase (a0 : List (List (Int × K72c5.T))) (a1 : Int × Int) (a2 : Int × Int) (a3 : K92a5.T) : Option ((List (List (Int × K72c5.T)))) :=
  ((orielref15_place a0 a1).bind fun x3 =>
    bif !x3 then
      some true
    else
      (orielref15_place a0 a2).bind fun x4 =>
      bif !x4 then
        some true
      else
        some false : Option (Bool)).bind fun x5 =>
  bif x5 then
    some a0
  else
    (loopO (orielref15_Erase_loop1 a0 a1 a2 a3) (0, [])).bind fun x41 =>
    req (x41.length = x41.length) (some x41)
noncomputable def orielref17_erase (a0 : Int × Int × K05d1.T) (a1 : Int) (a2 : Int × Int) (a3 : Int × Int) : Option ((Int × Int × K05d1.T)) :=
  ((bif a1 == 0 then
        some true
      else
        some false : Option (Bool)).bind fun x7 =>
    bif x7 then
      (orielref15_Erase a0.2.2.1 (a0.2.2.2.2.1, a0.2.2.2.2.2.1) a3 a0.2.2.2.2.2.2.2.1).bind fun x8 =>
      some x8
    else
      (bif a1 == 1 then
          some true
        else
          some false : Option (Bool)).bind fun x9 =>
      bif x9 then
        (orielref15_Erase a0.2.2.1 a2 (a0.2.2.2.2.1, a0.2.2.2.2.2.1) a0.2.2.2.2.2.2.2.1).bind fun x10 =>
        some x10
      else
        (bif a1 == 2 then
            some true
          else
            some false : Option (Bool)).bind fun x11 =>
        bif x11 then
          (orielref15_Erase a0.2.2.1 a2 a3 a0.2.2.2.2.2.2.2.1).bind fun x12 =>
          some x12
        else
          some a0.2.2.1 : Option ((List (List (Int × K72c5.T))))).bind fun x13 =>
  some (a0.1, a0.2.1, x13, a0.2.2.2)
noncomputable def orielref14_Delete (a0 : List (Int × K72c5.T)) (a1 : Int) (a2 : Int) (a3 : K92a5.T) : Option ((List (Int × K72c5.T))) :=
  (bif decide (a2 < 1) then
      some true
    else
      bif decide (a1 < 0) then
        some true
      else
        bif decide (a1 ≥ (a0.length : Int)) then
          some true
        else
          some false : Option (Bool)).bind fun x1 =>
  bif x1 then
    some a0
  else
    ((bif decide (a2 > (IntKind.i64.wrap ((a0.length : Int) - a1))) then
          some true
        else
          some false : Option (Bool)).bind fun x3 =>
      bif x3 then
        some (IntKind.i64.wrap ((a0.length : Int) - a1))
      else
        some a2 : Option (Int)).bind fun x4 =>
    (orielref14_Tear_668 a0 a1).bind fun x5 =>
    req (x5.length = x5.length) <|
    (orielref14_Tear_ed0 (IntKind.i64.wrap (a1 + x4)) x5).bind fun x6 =>
    req (0 ≤ (0 : Int) ∧ (0 : Int) ≤ a1 ∧ a1 ≤ ((x6.length : Nat) : Int)) <|
    req (0 + a1.toNat ≤ x6.length) <|
    req ((([] : List (Int × K72c5.T)) ++ ((x6.drop 0).take a1.toNat)).length * 48 ≤ maxBy) <|
    req (0 ≤ (IntKind.i64.wrap (a1 + x4)) ∧ (IntKind.i64.wrap (a1 + x4)) ≤ ((x6.length : Nat) : Int) ∧ ((x6.length : Nat) : Int) ≤ ((x6.length : Nat) : Int)) <|
    req ((([] : List (Int × K72c5.T)) ++ ((x6.drop 0).take a1.toNat)).length = (([] : List (Int × K72c5.T)) ++ ((x6.drop 0).take a1.toNat)).length) <|
    req (((IntKind.i64.wrap (a1 + x4)).toNat) + (x6.length - (IntKind.i64.wrap (a1 + x4)).toNat) ≤ x6.length) <|
    req (((([] : List (Int × K72c5.T)) ++ ((x6.drop 0).take a1.toNat)) ++ ((x6.drop ((IntKind.i64.wrap (a1 + x4)).toNat)).take (x6.length - (IntKind.i64.wrap (a1 + x4)).toNat))).length * 48 ≤ maxBy) <|
    (orielref14_Blanks x4 a3).bind fun x7 =>
    req (((([] : List (Int × K72c5.T)) ++ ((x6.drop 0).take a1.toNat)) ++ ((x6.drop ((IntKind.i64.wrap (a1 + x4)).toNat)).take (x6.length - (IntKind.i64.wrap (a1 + x4)).toNat))).length = ((([] : List (Int × K72c5.T)) ++ ((x6.drop 0).take a1.toNat)) ++ ((x6.drop ((IntKind.i64.wrap (a1 + x4)).toNat)).take (x6.length - (IntKind.i64.wrap (a1 + x4)).toNat))).length) <|
    req ((((([] : List (Int × K72c5.T)) ++ ((x6.drop 0).take a1.toNat)) ++ ((x6.drop ((IntKind.i64.wrap (a1 + x4)).toNat)).take (x6.length - (IntKind.i64.wrap (a1 + x4)).toNat))) ++ x7).length * 48 ≤ maxBy) <|
    req ((((([] : List (Int × K72c5.T)) ++ ((x6.drop 0).take a1.toNat)) ++ ((x6.drop ((IntKind.i64.wrap (a1 + x4)).toNat)).take (x6.length - (IntKind.i64.wrap (a1 + x4)).toNat))) ++ x7).length = (((([] : List (Int × K72c5.T)) ++ ((x6.drop 0).take a1.toNat)) ++ ((x6.drop ((IntKind.i64.wrap (a1 + x4)).toNat)).take (x6.length - (IntKind.i64.wrap (a1 + x4)).toNat))) ++ x7).length) (some (((([] : List (Int × K72c5.T)) ++ ((x6.drop 0).take a1.toNat)) ++ ((x6.drop ((IntKind.i64.wrap (a1 + x4)).toNat)).take (x6.length - (IntKind.i64.wrap (a1 + x4)).toNat))) ++ x7))
noncomputable def orielref14_Fit (a0 : List (Int × K72c5.T)) (a1 : Int) : Option ((List (Int × K72c5.T))) :=
  (bif decide (a1 ≤ (a0.length : Int)) then
      some true
    else
      some false : Option (Bool)).bind fun x1 =>
  bif x1 then
    (orielref14_Tear_668 a0 a1).bind fun x2 =>
    req (0 ≤ (0 : Int) ∧ (0 : Int) ≤ a1 ∧ a1 ≤ ((x2.length : Nat) : Int)) <|
    req (0 + a1.toNat ≤ x2.length) (some ((x2.drop 0).take a1.toNat))
  else
    req ((([] : List (Int × K72c5.T)) ++ a0).length * 48 ≤ maxBy) <|
    (orielref14_Blanks (IntKind.i64.wrap (a1 - (a0.length : Int))) (0, 0, 0)).bind fun x3 =>
    req ((([] : List (Int × K72c5.T)) ++ a0).length = (([] : List (Int × K72c5.T)) ++ a0).length) <|
    req (((([] : List (Int × K72c5.T)) ++ a0) ++ x3).length * 48 ≤ maxBy) <|
    req (((([] : List (Int × K72c5.T)) ++ a0) ++ x3).length = ((([] : List (Int × K72c5.T)) ++ a0) ++ x3).length) (some ((([] : List (Int × K72c5.T)) ++ a0) ++ x3))
noncomputable def orielref15_Fit_loop1 (a0 : List (List (Int × K72c5.T))) (a1 : Int) (a2 : Int) (x4 : Int × (List (List (Int × K72c5.T)))) : Option ((((List (List (Int × K72c5.T))))) ⊕ (Int × (List (List (Int × K72c5.T))))) :=
    (bif decide (x4.1 < (a0.length : Int)) then
        bif decide (((x4.2.length : Nat) : Int) < a1) then
          some true
        else
          some false
      else
        some false : Option (Bool)).bind fun x5 =>
    bif x5 then
      (getI a0 x4.1).bind fun x6 =>
      (orielref14_Fit x6 a2).bind fun x7 =>
      req (x4.2.length = x4.2.length) <|
      req ((x4.2 ++ [x7]).length * 24 ≤ maxBy) <|
      req ((x4.2 ++ [x7]).length = (x4.2 ++ [x7]).length) (some (.inr (IntKind.i64.wrap (x4.1 + 1), x4.2 ++ [x7])))
    else
      req (x4.2.length = x4.2.length) (some (.inl x4.2))
noncomputable def orielref15_Fit_loop2 (a1 : Int) (a2 : Int) (x11 : (List (List (Int × K72c5.T)))) : Option ((((List (List (Int × K72c5.T))))) ⊕ ((List (List (Int × K72c5.T))))) :=
    (bif decide (((x11.length : Nat) : Int) < a1) then
        some true
      else
        some false : Option (Bool)).bind fun x12 =>
    bif x12 then
      (orielref14_Blanks a2 (0, 0, 0)).bind fun x13 =>
      req (x11.length = x11.length) <|
      req ((x11 ++ [x13]).length * 24 ≤ maxBy) <|
      req ((x11 ++ [x13]).length = (x11 ++ [x13]).length) (some (.inr (x11 ++ [x13])))
    else
      req (x11.length = x11.length) (some (.inl x11))
noncomputable def orielref15_Fit (a0 : List (List (Int × K72c5.T))) (a1 : Int) (a2 : Int) (a3 : Int) : Option ((List (List (Int × K72c5.T)))) :=
  (loopO (orielref15_Fit_loop1 a0 a1 a2) (a3, [])).bind fun x8 =>
  req (x8.length = x8.length) ((loopO (orielref15_Fit_loop2 a1 a2) x8).bind fun x14 =>
  req (x14.length = x14.length) (some x14))
noncomputable def orielref17_resize (a0 : Int × Int × K05d1.T) (a1 : Int) (a2 : Int) : Option ((Int × Int × K05d1.T)) :=
  (orielref17_bring a1 1 200).bind fun x1 =>
  (orielref17_bring a2 1 200).bind fun x2 =>
  (orielref17_bring (IntKind.i64.wrap ((IntKind.i64.wrap (a0.2.2.2.2.1 + 1)) - x1)) 0 200).bind fun x3 =>
  (((orielref17_Has a0 128).bind fun x11 =>
      bif x11 then
        some true
      else
        some false : Option (Bool)).bind fun x12 =>
    bif x12 then
      (orielref17_bring a0.2.2.2.2.2.2.2.2.2.2.2.1.1.1 0 (IntKind.i64.wrap (a0.1 - 1))).bind fun x13 =>
      (orielref17_bring (IntKind.i64.wrap ((IntKind.i64.wrap (x13 + 1)) - x1)) 0 200).bind fun x14 =>
      (orielref15_Fit a0.2.2.2.1 x1 x2 x14).bind fun x15 =>
      some x15
    else
      some a0.2.2.2.1 : Option ((List (List (Int × K72c5.T))))).bind fun x16 =>
  (orielref15_Fit a0.2.2.1 x1 x2 x3).bind fun x17 =>
  (orielref16_Wider a0.2.2.2.2.2.2.2.2.2.2.2.2.1 a0.2.1 x2).bind fun x18 =>
  (orielref17_bring a0.2.2.2.2.2.1 0 (IntKind.i64.wrap (x2 - 1))).bind fun x19 =>
  some (x1, x2, x17, x16, IntKind.i64.wrap (a0.2.2.2.2.1 - x3), x19, a0.2.2.2.2.2.2.1, a0.2.2.2.2.2.2.2.1, 0, IntKind.i64.wrap (x1 - 1), a0.2.2.2.2.2.2.2.2.2.2.1, a0.2.2.2.2.2.2.2.2.2.2.2.1, x18, a0.2.2.2.2.2.2.2.2.2.2.2.2.2)
noncomputable def orielref17_edit_loop4 (a0 : Int × Int × K05d1.T) (x85 : Int × (List (Int × K72c5.T))) : Option ((((List (Int × K72c5.T)))) ⊕ (Int × (List (Int × K72c5.T)))) :=
    (bif decide (x85.1 < a0.2.1) then
        some true
      else
        some false : Option (Bool)).bind fun x86 =>
    bif x86 then
      req (x85.2.length = x85.2.length) <|
      req ((x85.2 ++ [(69, (0, 0), 0, 0, 0, 0)]).length * 48 ≤ maxBy) <|
      req ((x85.2 ++ [(69, (0, 0), 0, 0, 0, 0)]).length = (x85.2 ++ [(69, (0, 0), 0, 0, 0, 0)]).length) (some (.inr (IntKind.i64.wrap (x85.1 + 1), x85.2 ++ [(69, (0, 0), 0, 0, 0, 0)])))
    else
      req (x85.2.length = x85.2.length) (some (.inl x85.2))
noncomputable def orielref17_edit_loop3 (a0 : Int × Int × K05d1.T) (x82 : Int × (List (List (Int × K72c5.T)))) : Option ((((List (List (Int × K72c5.T))))) ⊕ (Int × (List (List (Int × K72c5.T))))) :=
    (bif decide (x82.1 < a0.1) then
        some true
      else
        some false : Option (Bool)).bind fun x83 =>
    bif x83 then
      (loopO (orielref17_edit_loop4 a0) (0, [])).bind fun x87 =>
      req (x87.length = x87.length) <|
      req (x82.2.length = x82.2.length) <|
      req ((x82.2 ++ [x87]).length * 24 ≤ maxBy) <|
      req ((x82.2 ++ [x87]).length = (x82.2 ++ [x87]).length) (some (.inr (IntKind.i64.wrap (x82.1 + 1), x82.2 ++ [x87])))
    else
      req (x82.2.length = x82.2.length) (some (.inl x82.2))
noncomputable def orielref17_edit (a0 : Int × Int × K05d1.T) (a1 : K86d9.T) : Option ((Int × Int × K05d1.T)) :=
  ((bif a1.1 == 11 then
        some true
      else
        some false : Option (Bool)).bind fun x47 =>
    bif x47 then
      (orielref17_erase a0 a1.2.1 (a0.2.2.2.2.1, 0) (a0.2.2.2.2.1, IntKind.i64.wrap (a0.2.1 - 1))).bind fun x48 =>
      some (x48.1, x48.2.1, x48.2.2.1, x48.2.2.2.1, x48.2.2.2.2.1, x48.2.2.2.2.2.1, x48.2.2.2.2.2.2.1, x48.2.2.2.2.2.2.2.1.1, x48.2.2.2.2.2.2.2.1.2.1, x48.2.2.2.2.2.2.2.1.2.2, x48.2.2.2.2.2.2.2.2.1, x48.2.2.2.2.2.2.2.2.2.1, x48.2.2.2.2.2.2.2.2.2.2.1, x48.2.2.2.2.2.2.2.2.2.2.2.1.1.1, x48.2.2.2.2.2.2.2.2.2.2.2.1.1.2.1, x48.2.2.2.2.2.2.2.2.2.2.2.1.1.2.2.1.1, x48.2.2.2.2.2.2.2.2.2.2.2.1.1.2.2.1.2.1, x48.2.2.2.2.2.2.2.2.2.2.2.1.1.2.2.1.2.2, x48.2.2.2.2.2.2.2.2.2.2.2.1.1.2.2.2.1, x48.2.2.2.2.2.2.2.2.2.2.2.1.1.2.2.2.2, x48.2.2.2.2.2.2.2.2.2.2.2.1.2.1, x48.2.2.2.2.2.2.2.2.2.2.2.1.2.2.1, x48.2.2.2.2.2.2.2.2.2.2.2.1.2.2.2.1.1, x48.2.2.2.2.2.2.2.2.2.2.2.1.2.2.2.1.2.1, x48.2.2.2.2.2.2.2.2.2.2.2.1.2.2.2.1.2.2, x48.2.2.2.2.2.2.2.2.2.2.2.1.2.2.2.2.1, x48.2.2.2.2.2.2.2.2.2.2.2.1.2.2.2.2.2, x48.2.2.2.2.2.2.2.2.2.2.2.2.1.1, x48.2.2.2.2.2.2.2.2.2.2.2.2.1.2.1, x48.2.2.2.2.2.2.2.2.2.2.2.2.1.2.2.1, x48.2.2.2.2.2.2.2.2.2.2.2.2.1.2.2.2, x48.2.2.2.2.2.2.2.2.2.2.2.2.2)
    else
      (bif a1.1 == 12 then
          some true
        else
          some false : Option (Bool)).bind fun x49 =>
      bif x49 then
        (orielref17_erase a0 a1.2.1 (0, 0) (IntKind.i64.wrap (a0.1 - 1), IntKind.i64.wrap (a0.2.1 - 1))).bind fun x50 =>
        some (x50.1, x50.2.1, x50.2.2.1, x50.2.2.2.1, x50.2.2.2.2.1, x50.2.2.2.2.2.1, x50.2.2.2.2.2.2.1, x50.2.2.2.2.2.2.2.1.1, x50.2.2.2.2.2.2.2.1.2.1, x50.2.2.2.2.2.2.2.1.2.2, x50.2.2.2.2.2.2.2.2.1, x50.2.2.2.2.2.2.2.2.2.1, x50.2.2.2.2.2.2.2.2.2.2.1, x50.2.2.2.2.2.2.2.2.2.2.2.1.1.1, x50.2.2.2.2.2.2.2.2.2.2.2.1.1.2.1, x50.2.2.2.2.2.2.2.2.2.2.2.1.1.2.2.1.1, x50.2.2.2.2.2.2.2.2.2.2.2.1.1.2.2.1.2.1, x50.2.2.2.2.2.2.2.2.2.2.2.1.1.2.2.1.2.2, x50.2.2.2.2.2.2.2.2.2.2.2.1.1.2.2.2.1, x50.2.2.2.2.2.2.2.2.2.2.2.1.1.2.2.2.2, x50.2.2.2.2.2.2.2.2.2.2.2.1.2.1, x50.2.2.2.2.2.2.2.2.2.2.2.1.2.2.1, x50.2.2.2.2.2.2.2.2.2.2.2.1.2.2.2.1.1, x50.2.2.2.2.2.2.2.2.2.2.2.1.2.2.2.1.2.1, x50.2.2.2.2.2.2.2.2.2.2.2.1.2.2.2.1.2.2, x50.2.2.2.2.2.2.2.2.2.2.2.1.2.2.2.2.1, x50.2.2.2.2.2.2.2.2.2.2.2.1.2.2.2.2.2, x50.2.2.2.2.2.2.2.2.2.2.2.2.1.1, x50.2.2.2.2.2.2.2.2.2.2.2.2.1.2.1, x50.2.2.2.2.2.2.2.2.2.2.2.2.1.2.2.1, x50.2.2.2.2.2.2.2.2.2.2.2.2.1.2.2.2, x50.2.2.2.2.2.2.2.2.2.2.2.2.2)
      else
        (bif a1.1 == 13 then
            some true
          else
            some false : Option (Bool)).bind fun x51 =>
        bif x51 then
          (getI a0.2.2.1 a0.2.2.2.2.1).bind fun x52 =>
          (orielref14_Insert x52 a0.2.2.2.2.2.1 a1.2.1 a0.2.2.2.2.2.2.2.1).bind fun x53 =>
          (orielref17_row a0 x53).bind fun x54 =>
          some (x54.1, x54.2.1, x54.2.2.1, x54.2.2.2.1, x54.2.2.2.2.1, x54.2.2.2.2.2.1, x54.2.2.2.2.2.2.1, x54.2.2.2.2.2.2.2.1.1, x54.2.2.2.2.2.2.2.1.2.1, x54.2.2.2.2.2.2.2.1.2.2, x54.2.2.2.2.2.2.2.2.1, x54.2.2.2.2.2.2.2.2.2.1, x54.2.2.2.2.2.2.2.2.2.2.1, x54.2.2.2.2.2.2.2.2.2.2.2.1.1.1, x54.2.2.2.2.2.2.2.2.2.2.2.1.1.2.1, x54.2.2.2.2.2.2.2.2.2.2.2.1.1.2.2.1.1, x54.2.2.2.2.2.2.2.2.2.2.2.1.1.2.2.1.2.1, x54.2.2.2.2.2.2.2.2.2.2.2.1.1.2.2.1.2.2, x54.2.2.2.2.2.2.2.2.2.2.2.1.1.2.2.2.1, x54.2.2.2.2.2.2.2.2.2.2.2.1.1.2.2.2.2, x54.2.2.2.2.2.2.2.2.2.2.2.1.2.1, x54.2.2.2.2.2.2.2.2.2.2.2.1.2.2.1, x54.2.2.2.2.2.2.2.2.2.2.2.1.2.2.2.1.1, x54.2.2.2.2.2.2.2.2.2.2.2.1.2.2.2.1.2.1, x54.2.2.2.2.2.2.2.2.2.2.2.1.2.2.2.1.2.2, x54.2.2.2.2.2.2.2.2.2.2.2.1.2.2.2.2.1, x54.2.2.2.2.2.2.2.2.2.2.2.1.2.2.2.2.2, x54.2.2.2.2.2.2.2.2.2.2.2.2.1.1, x54.2.2.2.2.2.2.2.2.2.2.2.2.1.2.1, x54.2.2.2.2.2.2.2.2.2.2.2.2.1.2.2.1, x54.2.2.2.2.2.2.2.2.2.2.2.2.1.2.2.2, x54.2.2.2.2.2.2.2.2.2.2.2.2.2)
        else
          (bif a1.1 == 14 then
              some true
            else
              some false : Option (Bool)).bind fun x55 =>
          bif x55 then
            (getI a0.2.2.1 a0.2.2.2.2.1).bind fun x56 =>
            (orielref14_Delete x56 a0.2.2.2.2.2.1 a1.2.1 a0.2.2.2.2.2.2.2.1).bind fun x57 =>
            (orielref17_row a0 x57).bind fun x58 =>
            some (x58.1, x58.2.1, x58.2.2.1, x58.2.2.2.1, x58.2.2.2.2.1, x58.2.2.2.2.2.1, x58.2.2.2.2.2.2.1, x58.2.2.2.2.2.2.2.1.1, x58.2.2.2.2.2.2.2.1.2.1, x58.2.2.2.2.2.2.2.1.2.2, x58.2.2.2.2.2.2.2.2.1, x58.2.2.2.2.2.2.2.2.2.1, x58.2.2.2.2.2.2.2.2.2.2.1, x58.2.2.2.2.2.2.2.2.2.2.2.1.1.1, x58.2.2.2.2.2.2.2.2.2.2.2.1.1.2.1, x58.2.2.2.2.2.2.2.2.2.2.2.1.1.2.2.1.1, x58.2.2.2.2.2.2.2.2.2.2.2.1.1.2.2.1.2.1, x58.2.2.2.2.2.2.2.2.2.2.2.1.1.2.2.1.2.2, x58.2.2.2.2.2.2.2.2.2.2.2.1.1.2.2.2.1, x58.2.2.2.2.2.2.2.2.2.2.2.1.1.2.2.2.2, x58.2.2.2.2.2.2.2.2.2.2.2.1.2.1, x58.2.2.2.2.2.2.2.2.2.2.2.1.2.2.1, x58.2.2.2.2.2.2.2.2.2.2.2.1.2.2.2.1.1, x58.2.2.2.2.2.2.2.2.2.2.2.1.2.2.2.1.2.1, x58.2.2.2.2.2.2.2.2.2.2.2.1.2.2.2.1.2.2, x58.2.2.2.2.2.2.2.2.2.2.2.1.2.2.2.2.1, x58.2.2.2.2.2.2.2.2.2.2.2.1.2.2.2.2.2, x58.2.2.2.2.2.2.2.2.2.2.2.2.1.1, x58.2.2.2.2.2.2.2.2.2.2.2.2.1.2.1, x58.2.2.2.2.2.2.2.2.2.2.2.2.1.2.2.1, x58.2.2.2.2.2.2.2.2.2.2.2.2.1.2.2.2, x58.2.2.2.2.2.2.2.2.2.2.2.2.2)
          else
            (bif a1.1 == 15 then
                some true
              else
                some false : Option (Bool)).bind fun x59 =>
            bif x59 then
              (getI a0.2.2.1 a0.2.2.2.2.1).bind fun x60 =>
              (orielref14_Erase x60 a0.2.2.2.2.2.1 (IntKind.i64.wrap (a0.2.2.2.2.2.1 + a1.2.1)) a0.2.2.2.2.2.2.2.1).bind fun x61 =>
              (orielref17_row a0 x61).bind fun x62 =>
              some (x62.1, x62.2.1, x62.2.2.1, x62.2.2.2.1, x62.2.2.2.2.1, x62.2.2.2.2.2.1, x62.2.2.2.2.2.2.1, x62.2.2.2.2.2.2.2.1.1, x62.2.2.2.2.2.2.2.1.2.1, x62.2.2.2.2.2.2.2.1.2.2, x62.2.2.2.2.2.2.2.2.1, x62.2.2.2.2.2.2.2.2.2.1, x62.2.2.2.2.2.2.2.2.2.2.1, x62.2.2.2.2.2.2.2.2.2.2.2.1.1.1, x62.2.2.2.2.2.2.2.2.2.2.2.1.1.2.1, x62.2.2.2.2.2.2.2.2.2.2.2.1.1.2.2.1.1, x62.2.2.2.2.2.2.2.2.2.2.2.1.1.2.2.1.2.1, x62.2.2.2.2.2.2.2.2.2.2.2.1.1.2.2.1.2.2, x62.2.2.2.2.2.2.2.2.2.2.2.1.1.2.2.2.1, x62.2.2.2.2.2.2.2.2.2.2.2.1.1.2.2.2.2, x62.2.2.2.2.2.2.2.2.2.2.2.1.2.1, x62.2.2.2.2.2.2.2.2.2.2.2.1.2.2.1, x62.2.2.2.2.2.2.2.2.2.2.2.1.2.2.2.1.1, x62.2.2.2.2.2.2.2.2.2.2.2.1.2.2.2.1.2.1, x62.2.2.2.2.2.2.2.2.2.2.2.1.2.2.2.1.2.2, x62.2.2.2.2.2.2.2.2.2.2.2.1.2.2.2.2.1, x62.2.2.2.2.2.2.2.2.2.2.2.1.2.2.2.2.2, x62.2.2.2.2.2.2.2.2.2.2.2.2.1.1, x62.2.2.2.2.2.2.2.2.2.2.2.2.1.2.1, x62.2.2.2.2.2.2.2.2.2.2.2.2.1.2.2.1, x62.2.2.2.2.2.2.2.2.2.2.2.2.1.2.2.2, x62.2.2.2.2.2.2.2.2.2.2.2.2.2)
            else
              ((bif a1.1 == 16 then
                    some true
                  else
                    some false : Option (Bool)).bind fun x64 =>
                bif x64 then
                  some x64
                else
                  bif a1.1 == 17 then
                    some true
                  else
                    some false : Option (Bool)).bind fun x65 =>
              bif x65 then
                (bif decide (a0.2.2.2.2.1 ≥ a0.2.2.2.2.2.2.2.2.1) then
                    bif decide (a0.2.2.2.2.1 ≤ a0.2.2.2.2.2.2.2.2.2.1) then
                      some true
                    else
                      some false
                  else
                    some false : Option (Bool)).bind fun x66 =>
                bif x66 then
                  ((bif decide (a1.2.1 < 0) then
                        some true
                      else
                        some false : Option (Bool)).bind fun x68 =>
                    bif x68 then
                      some 0
                    else
                      some a1.2.1 : Option (Int)).bind fun x69 =>
                  ((bif a1.1 == 16 then
                        some true
                      else
                        some false : Option (Bool)).bind fun x71 =>
                    bif x71 then
                      some (IntKind.i64.wrap ((0 : Int) - x69))
                    else
                      some x69 : Option (Int)).bind fun x72 =>
                  (orielref15_Scroll a0.2.2.1 a0.2.2.2.2.1 a0.2.2.2.2.2.2.2.2.2.1 x72 a0.2.2.2.2.2.2.2.1).bind fun x73 =>
                  some (a0.1, a0.2.1, x73, a0.2.2.2.1, a0.2.2.2.2.1, 0, a0.2.2.2.2.2.2.1, a0.2.2.2.2.2.2.2.1.1, a0.2.2.2.2.2.2.2.1.2.1, a0.2.2.2.2.2.2.2.1.2.2, a0.2.2.2.2.2.2.2.2.1, a0.2.2.2.2.2.2.2.2.2.1, a0.2.2.2.2.2.2.2.2.2.2.1, a0.2.2.2.2.2.2.2.2.2.2.2.1.1.1, a0.2.2.2.2.2.2.2.2.2.2.2.1.1.2.1, a0.2.2.2.2.2.2.2.2.2.2.2.1.1.2.2.1.1, a0.2.2.2.2.2.2.2.2.2.2.2.1.1.2.2.1.2.1, a0.2.2.2.2.2.2.2.2.2.2.2.1.1.2.2.1.2.2, a0.2.2.2.2.2.2.2.2.2.2.2.1.1.2.2.2.1, a0.2.2.2.2.2.2.2.2.2.2.2.1.1.2.2.2.2, a0.2.2.2.2.2.2.2.2.2.2.2.1.2.1, a0.2.2.2.2.2.2.2.2.2.2.2.1.2.2.1, a0.2.2.2.2.2.2.2.2.2.2.2.1.2.2.2.1.1, a0.2.2.2.2.2.2.2.2.2.2.2.1.2.2.2.1.2.1, a0.2.2.2.2.2.2.2.2.2.2.2.1.2.2.2.1.2.2, a0.2.2.2.2.2.2.2.2.2.2.2.1.2.2.2.2.1, a0.2.2.2.2.2.2.2.2.2.2.2.1.2.2.2.2.2, a0.2.2.2.2.2.2.2.2.2.2.2.2.1.1, a0.2.2.2.2.2.2.2.2.2.2.2.2.1.2.1, a0.2.2.2.2.2.2.2.2.2.2.2.2.1.2.2.1, a0.2.2.2.2.2.2.2.2.2.2.2.2.1.2.2.2, a0.2.2.2.2.2.2.2.2.2.2.2.2.2)
                else
                  some (a0.1, a0.2.1, a0.2.2.1, a0.2.2.2.1, a0.2.2.2.2.1, a0.2.2.2.2.2.1, a0.2.2.2.2.2.2.1, a0.2.2.2.2.2.2.2.1.1, a0.2.2.2.2.2.2.2.1.2.1, a0.2.2.2.2.2.2.2.1.2.2, a0.2.2.2.2.2.2.2.2.1, a0.2.2.2.2.2.2.2.2.2.1, a0.2.2.2.2.2.2.2.2.2.2.1, a0.2.2.2.2.2.2.2.2.2.2.2.1.1.1, a0.2.2.2.2.2.2.2.2.2.2.2.1.1.2.1, a0.2.2.2.2.2.2.2.2.2.2.2.1.1.2.2.1.1, a0.2.2.2.2.2.2.2.2.2.2.2.1.1.2.2.1.2.1, a0.2.2.2.2.2.2.2.2.2.2.2.1.1.2.2.1.2.2, a0.2.2.2.2.2.2.2.2.2.2.2.1.1.2.2.2.1, a0.2.2.2.2.2.2.2.2.2.2.2.1.1.2.2.2.2, a0.2.2.2.2.2.2.2.2.2.2.2.1.2.1, a0.2.2.2.2.2.2.2.2.2.2.2.1.2.2.1, a0.2.2.2.2.2.2.2.2.2.2.2.1.2.2.2.1.1, a0.2.2.2.2.2.2.2.2.2.2.2.1.2.2.2.1.2.1, a0.2.2.2.2.2.2.2.2.2.2.2.1.2.2.2.1.2.2, a0.2.2.2.2.2.2.2.2.2.2.2.1.2.2.2.2.1, a0.2.2.2.2.2.2.2.2.2.2.2.1.2.2.2.2.2, a0.2.2.2.2.2.2.2.2.2.2.2.2.1.1, a0.2.2.2.2.2.2.2.2.2.2.2.2.1.2.1, a0.2.2.2.2.2.2.2.2.2.2.2.2.1.2.2.1, a0.2.2.2.2.2.2.2.2.2.2.2.2.1.2.2.2, a0.2.2.2.2.2.2.2.2.2.2.2.2.2)
              else
                (bif a1.1 == 18 then
                    some true
                  else
                    some false : Option (Bool)).bind fun x74 =>
                bif x74 then
                  (orielref15_Scroll a0.2.2.1 a0.2.2.2.2.2.2.2.2.1 a0.2.2.2.2.2.2.2.2.2.1 a1.2.1 a0.2.2.2.2.2.2.2.1).bind fun x75 =>
                  some (a0.1, a0.2.1, x75, a0.2.2.2.1, a0.2.2.2.2.1, a0.2.2.2.2.2.1, a0.2.2.2.2.2.2.1, a0.2.2.2.2.2.2.2.1.1, a0.2.2.2.2.2.2.2.1.2.1, a0.2.2.2.2.2.2.2.1.2.2, a0.2.2.2.2.2.2.2.2.1, a0.2.2.2.2.2.2.2.2.2.1, a0.2.2.2.2.2.2.2.2.2.2.1, a0.2.2.2.2.2.2.2.2.2.2.2.1.1.1, a0.2.2.2.2.2.2.2.2.2.2.2.1.1.2.1, a0.2.2.2.2.2.2.2.2.2.2.2.1.1.2.2.1.1, a0.2.2.2.2.2.2.2.2.2.2.2.1.1.2.2.1.2.1, a0.2.2.2.2.2.2.2.2.2.2.2.1.1.2.2.1.2.2, a0.2.2.2.2.2.2.2.2.2.2.2.1.1.2.2.2.1, a0.2.2.2.2.2.2.2.2.2.2.2.1.1.2.2.2.2, a0.2.2.2.2.2.2.2.2.2.2.2.1.2.1, a0.2.2.2.2.2.2.2.2.2.2.2.1.2.2.1, a0.2.2.2.2.2.2.2.2.2.2.2.1.2.2.2.1.1, a0.2.2.2.2.2.2.2.2.2.2.2.1.2.2.2.1.2.1, a0.2.2.2.2.2.2.2.2.2.2.2.1.2.2.2.1.2.2, a0.2.2.2.2.2.2.2.2.2.2.2.1.2.2.2.2.1, a0.2.2.2.2.2.2.2.2.2.2.2.1.2.2.2.2.2, a0.2.2.2.2.2.2.2.2.2.2.2.2.1.1, a0.2.2.2.2.2.2.2.2.2.2.2.2.1.2.1, a0.2.2.2.2.2.2.2.2.2.2.2.2.1.2.2.1, a0.2.2.2.2.2.2.2.2.2.2.2.2.1.2.2.2, a0.2.2.2.2.2.2.2.2.2.2.2.2.2)
                else
                  (bif a1.1 == 23 then
                      some true
                    else
                      some false : Option (Bool)).bind fun x76 =>
                  bif x76 then
                    (loopO (orielref17_edit_loop3 a0) (0, [])).bind fun x88 =>
                    req (x88.length = x88.length) <|
                    some (a0.1, a0.2.1, x88, a0.2.2.2.1, 0, 0, a0.2.2.2.2.2.2.1, a0.2.2.2.2.2.2.2.1.1, a0.2.2.2.2.2.2.2.1.2.1, a0.2.2.2.2.2.2.2.1.2.2, 0, IntKind.i64.wrap (a0.1 - 1), a0.2.2.2.2.2.2.2.2.2.2.1, a0.2.2.2.2.2.2.2.2.2.2.2.1.1.1, a0.2.2.2.2.2.2.2.2.2.2.2.1.1.2.1, a0.2.2.2.2.2.2.2.2.2.2.2.1.1.2.2.1.1, a0.2.2.2.2.2.2.2.2.2.2.2.1.1.2.2.1.2.1, a0.2.2.2.2.2.2.2.2.2.2.2.1.1.2.2.1.2.2, a0.2.2.2.2.2.2.2.2.2.2.2.1.1.2.2.2.1, a0.2.2.2.2.2.2.2.2.2.2.2.1.1.2.2.2.2, a0.2.2.2.2.2.2.2.2.2.2.2.1.2.1, a0.2.2.2.2.2.2.2.2.2.2.2.1.2.2.1, a0.2.2.2.2.2.2.2.2.2.2.2.1.2.2.2.1.1, a0.2.2.2.2.2.2.2.2.2.2.2.1.2.2.2.1.2.1, a0.2.2.2.2.2.2.2.2.2.2.2.1.2.2.2.1.2.2, a0.2.2.2.2.2.2.2.2.2.2.2.1.2.2.2.2.1, a0.2.2.2.2.2.2.2.2.2.2.2.1.2.2.2.2.2, a0.2.2.2.2.2.2.2.2.2.2.2.2.1.1, a0.2.2.2.2.2.2.2.2.2.2.2.2.1.2.1, a0.2.2.2.2.2.2.2.2.2.2.2.2.1.2.2.1, a0.2.2.2.2.2.2.2.2.2.2.2.2.1.2.2.2, a0.2.2.2.2.2.2.2.2.2.2.2.2.2)
                  else
                    (bif a1.1 == 24 then
                        some true
                      else
                        some false : Option (Bool)).bind fun x89 =>
                    bif x89 then
                      (orielref17_New a0.1 a0.2.1).bind fun x90 =>
                      some (x90.1, x90.2.1, x90.2.2.1, x90.2.2.2.1, x90.2.2.2.2.1, x90.2.2.2.2.2.1, x90.2.2.2.2.2.2.1, x90.2.2.2.2.2.2.2.1.1, x90.2.2.2.2.2.2.2.1.2.1, x90.2.2.2.2.2.2.2.1.2.2, x90.2.2.2.2.2.2.2.2.1, x90.2.2.2.2.2.2.2.2.2.1, x90.2.2.2.2.2.2.2.2.2.2.1, x90.2.2.2.2.2.2.2.2.2.2.2.1.1.1, x90.2.2.2.2.2.2.2.2.2.2.2.1.1.2.1, x90.2.2.2.2.2.2.2.2.2.2.2.1.1.2.2.1.1, x90.2.2.2.2.2.2.2.2.2.2.2.1.1.2.2.1.2.1, x90.2.2.2.2.2.2.2.2.2.2.2.1.1.2.2.1.2.2, x90.2.2.2.2.2.2.2.2.2.2.2.1.1.2.2.2.1, x90.2.2.2.2.2.2.2.2.2.2.2.1.1.2.2.2.2, x90.2.2.2.2.2.2.2.2.2.2.2.1.2.1, x90.2.2.2.2.2.2.2.2.2.2.2.1.2.2.1, x90.2.2.2.2.2.2.2.2.2.2.2.1.2.2.2.1.1, x90.2.2.2.2.2.2.2.2.2.2.2.1.2.2.2.1.2.1, x90.2.2.2.2.2.2.2.2.2.2.2.1.2.2.2.1.2.2, x90.2.2.2.2.2.2.2.2.2.2.2.1.2.2.2.2.1, x90.2.2.2.2.2.2.2.2.2.2.2.1.2.2.2.2.2, x90.2.2.2.2.2.2.2.2.2.2.2.2.1.1, x90.2.2.2.2.2.2.2.2.2.2.2.2.1.2.1, x90.2.2.2.2.2.2.2.2.2.2.2.2.1.2.2.1, x90.2.2.2.2.2.2.2.2.2.2.2.2.1.2.2.2, x90.2.2.2.2.2.2.2.2.2.2.2.2.2)
                    else
                      (bif a1.1 == 27 then
                          some true
                        else
                          some false : Option (Bool)).bind fun x91 =>
                      bif x91 then
                        (orielref17_resize a0 a1.2.1 a1.2.2.1).bind fun x92 =>
                        some (x92.1, x92.2.1, x92.2.2.1, x92.2.2.2.1, x92.2.2.2.2.1, x92.2.2.2.2.2.1, x92.2.2.2.2.2.2.1, x92.2.2.2.2.2.2.2.1.1, x92.2.2.2.2.2.2.2.1.2.1, x92.2.2.2.2.2.2.2.1.2.2, x92.2.2.2.2.2.2.2.2.1, x92.2.2.2.2.2.2.2.2.2.1, x92.2.2.2.2.2.2.2.2.2.2.1, x92.2.2.2.2.2.2.2.2.2.2.2.1.1.1, x92.2.2.2.2.2.2.2.2.2.2.2.1.1.2.1, x92.2.2.2.2.2.2.2.2.2.2.2.1.1.2.2.1.1, x92.2.2.2.2.2.2.2.2.2.2.2.1.1.2.2.1.2.1, x92.2.2.2.2.2.2.2.2.2.2.2.1.1.2.2.1.2.2, x92.2.2.2.2.2.2.2.2.2.2.2.1.1.2.2.2.1, x92.2.2.2.2.2.2.2.2.2.2.2.1.1.2.2.2.2, x92.2.2.2.2.2.2.2.2.2.2.2.1.2.1, x92.2.2.2.2.2.2.2.2.2.2.2.1.2.2.1, x92.2.2.2.2.2.2.2.2.2.2.2.1.2.2.2.1.1, x92.2.2.2.2.2.2.2.2.2.2.2.1.2.2.2.1.2.1, x92.2.2.2.2.2.2.2.2.2.2.2.1.2.2.2.1.2.2, x92.2.2.2.2.2.2.2.2.2.2.2.1.2.2.2.2.1, x92.2.2.2.2.2.2.2.2.2.2.2.1.2.2.2.2.2, x92.2.2.2.2.2.2.2.2.2.2.2.2.1.1, x92.2.2.2.2.2.2.2.2.2.2.2.2.1.2.1, x92.2.2.2.2.2.2.2.2.2.2.2.2.1.2.2.1, x92.2.2.2.2.2.2.2.2.2.2.2.2.1.2.2.2, x92.2.2.2.2.2.2.2.2.2.2.2.2.2)
                      else
                        some (a0.1, a0.2.1, a0.2.2.1, a0.2.2.2.1, a0.2.2.2.2.1, a0.2.2.2.2.2.1, a0.2.2.2.2.2.2.1, a0.2.2.2.2.2.2.2.1.1, a0.2.2.2.2.2.2.2.1.2.1, a0.2.2.2.2.2.2.2.1.2.2, a0.2.2.2.2.2.2.2.2.1, a0.2.2.2.2.2.2.2.2.2.1, a0.2.2.2.2.2.2.2.2.2.2.1, a0.2.2.2.2.2.2.2.2.2.2.2.1.1.1, a0.2.2.2.2.2.2.2.2.2.2.2.1.1.2.1, a0.2.2.2.2.2.2.2.2.2.2.2.1.1.2.2.1.1, a0.2.2.2.2.2.2.2.2.2.2.2.1.1.2.2.1.2.1, a0.2.2.2.2.2.2.2.2.2.2.2.1.1.2.2.1.2.2, a0.2.2.2.2.2.2.2.2.2.2.2.1.1.2.2.2.1, a0.2.2.2.2.2.2.2.2.2.2.2.1.1.2.2.2.2, a0.2.2.2.2.2.2.2.2.2.2.2.1.2.1, a0.2.2.2.2.2.2.2.2.2.2.2.1.2.2.1, a0.2.2.2.2.2.2.2.2.2.2.2.1.2.2.2.1.1, a0.2.2.2.2.2.2.2.2.2.2.2.1.2.2.2.1.2.1, a0.2.2.2.2.2.2.2.2.2.2.2.1.2.2.2.1.2.2, a0.2.2.2.2.2.2.2.2.2.2.2.1.2.2.2.2.1, a0.2.2.2.2.2.2.2.2.2.2.2.1.2.2.2.2.2, a0.2.2.2.2.2.2.2.2.2.2.2.2.1.1, a0.2.2.2.2.2.2.2.2.2.2.2.2.1.2.1, a0.2.2.2.2.2.2.2.2.2.2.2.2.1.2.2.1, a0.2.2.2.2.2.2.2.2.2.2.2.2.1.2.2.2, a0.2.2.2.2.2.2.2.2.2.2.2.2.2) : Option (Int × Int × (List (List (Int × K72c5.T))) × (List (List (Int × K72c5.T))) × Int × Int × Bool × Int × Int × Int × Int × Int × Int × Int × Int × Int × Int × Int × Bool × Bool × Int × Int × Int × Int × Int × Bool × Bool × Int × Int × Int × Int × List Int)).bind fun x93 =>
  some (x93.1, x93.2.1, x93.2.2.1, x93.2.2.2.1, x93.2.2.2.2.1, x93.2.2.2.2.2.1, x93.2.2.2.2.2.2.1, (x93.2.2.2.2.2.2.2.1, x93.2.2.2.2.2.2.2.2.1, x93.2.2.2.2.2.2.2.2.2.1), x93.2.2.2.2.2.2.2.2.2.2.1, x93.2.2.2.2.2.2.2.2.2.2.2.1, x93.2.2.2.2.2.2.2.2.2.2.2.2.1, ((x93.2.2.2.2.2.2.2.2.2.2.2.2.2.1, x93.2.2.2.2.2.2.2.2.2.2.2.2.2.2.1, (x93.2.2.2.2.2.2.2.2.2.2.2.2.2.2.2.1, x93.2.2.2.2.2.2.2.2.2.2.2.2.2.2.2.2.1, x93.2.2.2.2.2.2.2.2.2.2.2.2.2.2.2.2.2.1), x93.2.2.2.2.2.2.2.2.2.2.2.2.2.2.2.2.2.2.1, x93.2.2.2.2.2.2.2.2.2.2.2.2.2.2.2.2.2.2.2.1), x93.2.2.2.2.2.2.2.2.2.2.2.2.2.2.2.2.2.2.2.2.1, x93.2.2.2.2.2.2.2.2.2.2.2.2.2.2.2.2.2.2.2.2.2.1, (x93.2.2.2.2.2.2.2.2.2.2.2.2.2.2.2.2.2.2.2.2.2.2.1, x93.2.2.2.2.2.2.2.2.2.2.2.2.2.2.2.2.2.2.2.2.2.2.2.1, x93.2.2.2.2.2.2.2.2.2.2.2.2.2.2.2.2.2.2.2.2.2.2.2.2.1), x93.2.2.2.2.2.2.2.2.2.2.2.2.2.2.2.2.2.2.2.2.2.2.2.2.2.1, x93.2.2.2.2.2.2.2.2.2.2.2.2.2.2.2.2.2.2.2.2.2.2.2.2.2.2.1), (x93.2.2.2.2.2.2.2.2.2.2.2.2.2.2.2.2.2.2.2.2.2.2.2.2.2.2.2.1, x93.2.2.2.2.2.2.2.2.2.2.2.2.2.2.2.2.2.2.2.2.2.2.2.2.2.2.2.2.1, x93.2.2.2.2.2.2.2.2.2.2.2.2.2.2.2.2.2.2.2.2.2.2.2.2.2.2.2.2.2.1, x93.2.2.2.2.2.2.2.2.2.2.2.2.2.2.2.2.2.2.2.2.2.2.2.2.2.2.2.2.2.2.1), x93.2.2.2.2.2.2.2.2.2.2.2.2.2.2.2.2.2.2.2.2.2.2.2.2.2.2.2.2.2.2.2)
noncomputable def orielref17_One_loop1 (a1 : K86d9.T) (x30 : Int × List Int) : Option (((List Int)) ⊕ (Int × List Int)) :=
    (bif decide (x30.1 < (a1.2.2.2.2.2.length : Int)) then
        some true
      else
        some false : Option (Bool)).bind fun x31 =>
    bif x31 then
      (((getI a1.2.2.2.2.2 x30.1).bind fun x40 =>
          (orielref13_Of x40).bind fun x41 =>
          bif decide (x41 > 0) then
            bif decide (((x30.2.length : Nat) : Int) < 60) then
              some true
            else
              some false
          else
            some false : Option (Bool)).bind fun x42 =>
        bif x42 then
          (getI a1.2.2.2.2.2 x30.1).bind fun x43 =>
          req (x30.2.length = x30.2.length) <|
          req ((x30.2 ++ [x43]).length * 4 ≤ maxBy) <|
          req ((x30.2 ++ [x43]).length = (x30.2 ++ [x43]).length) (some (x30.2 ++ [x43]))
        else
          req (x30.2.length = x30.2.length) (some x30.2) : Option (List Int)).bind fun x44 =>
      req (x44.length = x44.length) (some (.inr (IntKind.i64.wrap (x30.1 + 1), x44)))
    else
      req (x30.2.length = x30.2.length) (some (.inl x30.2))
noncomputable def orielref17_One (a0 : Int × Int × K05d1.T) (a1 : K86d9.T) : Option ((Int × Int × K05d1.T)) :=
  (bif decide (a1.1 < 1) then
      some true
    else
      bif decide (a1.1 > 27) then
        some true
      else
        some false : Option (Bool)).bind fun x1 =>
  bif x1 then
    some a0
  else
    (bif a1.1 == 20 then
        some true
      else
        some false : Option (Bool)).bind fun x2 =>
    bif x2 then
      (orielref17_setMode a0 a1.2.1 (a1.2.2.1 != 0)).bind fun x3 =>
      some x3
    else
      ((bif a1.1 != 27 then
            some true
          else
            some false : Option (Bool)).bind fun x7 =>
        bif x7 then
          (orielref17_bring a1.2.1 (-1000) 1000).bind fun x8 =>
          (orielref17_bring a1.2.2.1 (-1000) 1000).bind fun x9 =>
          some (x8, x9)
        else
          some (a1.2.1, a1.2.2.1) : Option (Int × Int)).bind fun x10 =>
      (bif a1.1 == 1 then
          some true
        else
          some false : Option (Bool)).bind fun x11 =>
      bif x11 then
        (orielref17_print a0 a1.2.2.2.1).bind fun x12 =>
        some x12
      else
        (bif a1.1 == 25 then
            some true
          else
            some false : Option (Bool)).bind fun x13 =>
        bif x13 then
          (orielref12_Apply a0.2.2.2.2.2.2.2.1 a1.2.2.2.2.1).bind fun x14 =>
          some (a0.1, a0.2.1, a0.2.2.1, a0.2.2.2.1, a0.2.2.2.2.1, a0.2.2.2.2.2.1, a0.2.2.2.2.2.2.1, x14, a0.2.2.2.2.2.2.2.2)
        else
          (bif a1.1 == 26 then
              some true
            else
              some false : Option (Bool)).bind fun x15 =>
          bif x15 then
            (loopO (orielref17_One_loop1 a1) (0, [])).bind fun x45 =>
            req (x45.length = x45.length) <|
            some (a0.1, a0.2.1, a0.2.2.1, a0.2.2.2.1, a0.2.2.2.2.1, a0.2.2.2.2.2.1, a0.2.2.2.2.2.2.1, a0.2.2.2.2.2.2.2.1, a0.2.2.2.2.2.2.2.2.1, a0.2.2.2.2.2.2.2.2.2.1, a0.2.2.2.2.2.2.2.2.2.2.1, a0.2.2.2.2.2.2.2.2.2.2.2.1, a0.2.2.2.2.2.2.2.2.2.2.2.2.1, x45)
          else
            (bif a1.1 == 10 then
                some true
              else
                some false : Option (Bool)).bind fun x46 =>
            bif x46 then
              (((bif x10.1 == 0 then
                      some true
                    else
                      some false : Option (Bool)).bind fun x53 =>
                  bif x53 then
                    some x53
                  else
                    bif x10.1 == 1 then
                      some true
                    else
                      some false : Option (Bool)).bind fun x54 =>
                bif x54 then
                  (orielref16_With a0.2.2.2.2.2.2.2.2.2.2.2.2.1 a0.2.2.2.2.2.1 (x10.1 == 0)).bind fun x55 =>
                  some (x55.1, x55.2.1, x55.2.2.1, x55.2.2.2)
                else
                  (bif x10.1 == 2 then
                      some true
                    else
                      some false : Option (Bool)).bind fun x56 =>
                  bif x56 then
                    some (0, 0, 0, 0)
                  else
                    some (a0.2.2.2.2.2.2.2.2.2.2.2.2.1.1, a0.2.2.2.2.2.2.2.2.2.2.2.2.1.2.1, a0.2.2.2.2.2.2.2.2.2.2.2.2.1.2.2.1, a0.2.2.2.2.2.2.2.2.2.2.2.2.1.2.2.2) : Option (Int × Int × Int × Int)).bind fun x57 =>
              some (a0.1, a0.2.1, a0.2.2.1, a0.2.2.2.1, a0.2.2.2.2.1, a0.2.2.2.2.2.1, a0.2.2.2.2.2.2.1, a0.2.2.2.2.2.2.2.1, a0.2.2.2.2.2.2.2.2.1, a0.2.2.2.2.2.2.2.2.2.1, a0.2.2.2.2.2.2.2.2.2.2.1, a0.2.2.2.2.2.2.2.2.2.2.2.1, x57, a0.2.2.2.2.2.2.2.2.2.2.2.2.2)
            else
              (bif a1.1 == 21 then
                  some true
                else
                  some false : Option (Bool)).bind fun x58 =>
              bif x58 then
                (orielref17_save a0).bind fun x59 =>
                some x59
              else
                (orielref17_cursor (a0.1, a0.2.1, a0.2.2.1, a0.2.2.2.1, a0.2.2.2.2.1, a0.2.2.2.2.2.1, false, a0.2.2.2.2.2.2.2) (a1.1, x10.1, x10.2, a1.2.2.2)).bind fun x60 =>
                (orielref17_edit x60 (a1.1, x10.1, x10.2, a1.2.2.2)).bind fun x61 =>
                some x61
noncomputable def orielref15_May_loop1 (a0 : List (List (Int × K72c5.T))) (x18 : Int) : Option (((Unit) ⊕ (Unit)) ⊕ (Int)) :=
    (bif decide (x18 < (a0.length : Int)) then
        some true
      else
        some false : Option (Bool)).bind fun x19 =>
    bif x19 then
      ((getI a0 x18).bind fun x24 =>
        (getI a0 0).bind fun x25 =>
        bif (x24.length : Int) != (x25.length : Int) then
          some true
        else
          (getI a0 x18).bind fun x26 =>
          (orielref14_May x26).bind fun x27 =>
          bif !x27 then
            some true
          else
            some false : Option (Bool)).bind fun x28 =>
      bif x28 then
        some (.inl (.inl ()))
      else
        some (.inr (IntKind.i64.wrap (x18 + 1)))
    else
      some (.inl (.inr ()))
noncomputable def orielref15_May (a0 : List (List (Int × K72c5.T))) : Option (Bool) :=
  ((orielref15_Side (a0.length : Int)).bind fun x4 =>
    bif !x4 then
      some true
    else
      (getI a0 0).bind fun x5 =>
      (orielref15_Side (x5.length : Int)).bind fun x6 =>
      bif !x6 then
        some true
      else
        some false : Option (Bool)).bind fun x7 =>
  bif x7 then
    some false
  else
    (loopO (orielref15_May_loop1 a0) 0).bind fun o => match o with
    | .inl _ =>
      some false
    | .inr _ =>
      some true
noncomputable def orielref17_size (a0 : List (List (Int × K72c5.T))) (a1 : Int) (a2 : Int) : Option (Bool) :=
  (orielref15_May a0).bind fun x1 =>
  bif x1 then
    bif (a0.length : Int) == a1 then
      (getI a0 0).bind fun x2 =>
      some ((x2.length : Int) == a2)
    else
      some false
  else
    some false
noncomputable def orielref17_May_loop1 (a0 : Int × Int × K05d1.T) (x27 : Int) : Option (((Unit) ⊕ (Unit)) ⊕ (Int)) :=
    (bif decide (x27 < 2) then
        some true
      else
        some false : Option (Bool)).bind fun x28 =>
    bif x28 then
      (bif x27 == 0 then
          some (a0.2.2.2.2.2.2.2.2.2.2.2.1.1.1, a0.2.2.2.2.2.2.2.2.2.2.2.1.1.2.1, a0.2.2.2.2.2.2.2.2.2.2.2.1.1.2.2.1.1, a0.2.2.2.2.2.2.2.2.2.2.2.1.1.2.2.1.2.1, a0.2.2.2.2.2.2.2.2.2.2.2.1.1.2.2.1.2.2, a0.2.2.2.2.2.2.2.2.2.2.2.1.1.2.2.2.1, a0.2.2.2.2.2.2.2.2.2.2.2.1.1.2.2.2.2)
        else
          bif x27 == 1 then
            some (a0.2.2.2.2.2.2.2.2.2.2.2.1.2.1, a0.2.2.2.2.2.2.2.2.2.2.2.1.2.2.1, a0.2.2.2.2.2.2.2.2.2.2.2.1.2.2.2.1.1, a0.2.2.2.2.2.2.2.2.2.2.2.1.2.2.2.1.2.1, a0.2.2.2.2.2.2.2.2.2.2.2.1.2.2.2.1.2.2, a0.2.2.2.2.2.2.2.2.2.2.2.1.2.2.2.2.1, a0.2.2.2.2.2.2.2.2.2.2.2.1.2.2.2.2.2)
          else
            none : Option (Int × Int × Int × Int × Int × Bool × Bool)).bind fun x29 =>
      (bif decide (x29.1 < 0) then
          some true
        else
          bif decide (x29.1 > 199) then
            some true
          else
            bif decide (x29.2.1 < 0) then
              some true
            else
              bif decide (x29.2.1 > 199) then
                some true
              else
                (orielref12_May (x29.2.2.1, x29.2.2.2.1, x29.2.2.2.2.1)).bind fun x31 =>
                bif !x31 then
                  some true
                else
                  some false : Option (Bool)).bind fun x32 =>
      bif x32 then
        some (.inl (.inl ()))
      else
        some (.inr (IntKind.i64.wrap (x27 + 1)))
    else
      some (.inl (.inr ()))
noncomputable def orielref17_May_loop2 (a0 : Int × Int × K05d1.T) (x39 : Int) : Option (((Unit) ⊕ (Unit)) ⊕ (Int)) :=
    (bif decide (x39 < (a0.2.2.2.2.2.2.2.2.2.2.2.2.2.length : Int)) then
        some true
      else
        some false : Option (Bool)).bind fun x40 =>
    bif x40 then
      ((getI a0.2.2.2.2.2.2.2.2.2.2.2.2.2 x39).bind fun x43 =>
        (orielref13_Of x43).bind fun x44 =>
        bif decide (x44 < 1) then
          some true
        else
          some false : Option (Bool)).bind fun x45 =>
      bif x45 then
        some (.inl (.inl ()))
      else
        some (.inr (IntKind.i64.wrap (x39 + 1)))
    else
      some (.inl (.inr ()))
noncomputable def orielref17_May (a0 : Int × Int × K05d1.T) : Option (Bool) :=
  (bif decide (a0.2.2.2.2.2.2.2.2.2.2.1 < 0) then
      some true
    else
      bif decide (a0.2.2.2.2.2.2.2.2.2.2.1 > 255) then
        some true
      else
        (orielref17_size a0.2.2.1 a0.1 a0.2.1).bind fun x2 =>
        bif !x2 then
          some true
        else
          some false : Option (Bool)).bind fun x3 =>
  bif x3 then
    some false
  else
    (((orielref17_Has a0 128).bind fun x12 =>
        bif x12 then
          some true
        else
          some false : Option (Bool)).bind fun x13 =>
      bif x13 then
        ((orielref17_size a0.2.2.2.1 a0.1 a0.2.1).bind fun x15 =>
          bif !x15 then
            some true
          else
            some false : Option (Bool)).bind fun x16 =>
        bif x16 then
          some (.inr false)
        else
          some (.inl ())
      else
        (bif decide ((a0.2.2.2.1.length : Int) > 0) then
            some true
          else
            some false : Option (Bool)).bind fun x17 =>
        bif x17 then
          some (.inr false)
        else
          some (.inl ()) : Option ((Unit) ⊕ (Bool))).bind fun o => match o with
    | .inr r => some r
    | .inl _ =>
    (bif decide (a0.2.2.2.2.1 < 0) then
        some true
      else
        bif decide (a0.2.2.2.2.1 ≥ a0.1) then
          some true
        else
          bif decide (a0.2.2.2.2.2.1 < 0) then
            some true
          else
            bif decide (a0.2.2.2.2.2.1 ≥ a0.2.1) then
              some true
            else
              bif decide (a0.2.2.2.2.2.2.2.2.1 < 0) then
                some true
              else
                bif decide (a0.2.2.2.2.2.2.2.2.2.1 ≥ a0.1) then
                  some true
                else
                  bif a0.2.2.2.2.2.2.1 then
                    bif a0.2.2.2.2.2.1 != (IntKind.i64.wrap (a0.2.1 - 1)) then
                      some true
                    else
                      some false
                  else
                    some false : Option (Bool)).bind fun x18 =>
    bif x18 then
      some false
    else
      (bif decide (a0.2.2.2.2.2.2.2.2.1 ≥ a0.2.2.2.2.2.2.2.2.2.1) then
          bif decide (a0.1 > 1) then
            some true
          else
            bif a0.2.2.2.2.2.2.2.2.1 != 0 then
              some true
            else
              bif a0.2.2.2.2.2.2.2.2.2.1 != 0 then
                some true
              else
                (orielref12_May a0.2.2.2.2.2.2.2.1).bind fun x21 =>
                bif !x21 then
                  some true
                else
                  bif decide ((a0.2.2.2.2.2.2.2.2.2.2.2.2.2.length : Int) > 60) then
                    some true
                  else
                    some false
        else
          (orielref12_May a0.2.2.2.2.2.2.2.1).bind fun x22 =>
          bif !x22 then
            some true
          else
            bif decide ((a0.2.2.2.2.2.2.2.2.2.2.2.2.2.length : Int) > 60) then
              some true
            else
              some false : Option (Bool)).bind fun x23 =>
      bif x23 then
        some false
      else
        (loopO (orielref17_May_loop1 a0) 0).bind fun o => match o with
        | .inl _ =>
          some false
        | .inr _ =>
          (loopO (orielref17_May_loop2 a0) 0).bind fun o => match o with
          | .inl _ =>
            some false
          | .inr _ =>
            some true
noncomputable def oriellaw17_ScreenPlays_loop1 (a2 : List K86d9.T) (x31 : Int × Int × Int × (List (List (Int × K72c5.T))) × (List (List (Int × K72c5.T))) × Int × Int × Bool × Int × Int × Int × Int × Int × Int × Int × Int × Int × Int × Int × Bool × Bool × Int × Int × Int × Int × Int × Bool × Bool × Int × Int × Int × Int × List Int × Int × Int × (List (List (Int × K72c5.T))) × (List (List (Int × K72c5.T))) × Int × Int × Bool × Int × Int × Int × Int × Int × Int × Int × Int × Int × Int × Int × Bool × Bool × Int × Int × Int × Int × Int × Bool × Bool × Int × Int × Int × Int × List Int) : Option (((Int × Int × (List (List (Int × K72c5.T))) × (List (List (Int × K72c5.T))) × Int × Int × Bool × Int × Int × Int × Int × Int × Int × Int × Int × Int × Int × Int × Bool × Bool × Int × Int × Int × Int × Int × Bool × Bool × Int × Int × Int × Int × List Int × Int × Int × (List (List (Int × K72c5.T))) × (List (List (Int × K72c5.T))) × Int × Int × Bool × Int × Int × Int × Int × Int × Int × Int × Int × Int × Int × Int × Bool × Bool × Int × Int × Int × Int × Int × Bool × Bool × Int × Int × Int × Int × List Int) ⊕ (Int × Int × (List (List (Int × K72c5.T))) × (List (List (Int × K72c5.T))) × Int × Int × Bool × Int × Int × Int × Int × Int × Int × Int × Int × Int × Int × Int × Bool × Bool × Int × Int × Int × Int × Int × Bool × Bool × Int × Int × Int × Int × List Int × Int × Int × (List (List (Int × K72c5.T))) × (List (List (Int × K72c5.T))) × Int × Int × Bool × Int × Int × Int × Int × Int × Int × Int × Int × Int × Int × Int × Bool × Bool × Int × Int × Int × Int × Int × Bool × Bool × Int × Int × Int × Int × List Int)) ⊕ (Int × Int × Int × (List (List (Int × K72c5.T))) × (List (List (Int × K72c5.T))) × Int × Int × Bool × Int × Int × Int × Int × Int × Int × Int × Int × Int × Int × Int × Bool × Bool × Int × Int × Int × Int × Int × Bool × Bool × Int × Int × Int × Int × List Int × Int × Int × (List (List (Int × K72c5.T))) × (List (List (Int × K72c5.T))) × Int × Int × Bool × Int × Int × Int × Int × Int × Int × Int × Int × Int × Int × Int × Bool × Bool × Int × Int × Int × Int × Int × Bool × Bool × Int × Int × Int × Int × List Int)) :=
    (bif decide (x31.1 < (a2.length : Int)) then
        some true
      else
        some false : Option (Bool)).bind fun x32 =>
    bif x32 then
      (getI a2 x31.1).bind fun x33 =>
      (screen_Do (x31.2.1, x31.2.2.1, x31.2.2.2.1, x31.2.2.2.2.1, x31.2.2.2.2.2.1, x31.2.2.2.2.2.2.1, x31.2.2.2.2.2.2.2.1, (x31.2.2.2.2.2.2.2.2.1, x31.2.2.2.2.2.2.2.2.2.1, x31.2.2.2.2.2.2.2.2.2.2.1), x31.2.2.2.2.2.2.2.2.2.2.2.1, x31.2.2.2.2.2.2.2.2.2.2.2.2.1, x31.2.2.2.2.2.2.2.2.2.2.2.2.2.1, ((x31.2.2.2.2.2.2.2.2.2.2.2.2.2.2.1, x31.2.2.2.2.2.2.2.2.2.2.2.2.2.2.2.1, (x31.2.2.2.2.2.2.2.2.2.2.2.2.2.2.2.2.1, x31.2.2.2.2.2.2.2.2.2.2.2.2.2.2.2.2.2.1, x31.2.2.2.2.2.2.2.2.2.2.2.2.2.2.2.2.2.2.1), x31.2.2.2.2.2.2.2.2.2.2.2.2.2.2.2.2.2.2.2.1, x31.2.2.2.2.2.2.2.2.2.2.2.2.2.2.2.2.2.2.2.2.1), x31.2.2.2.2.2.2.2.2.2.2.2.2.2.2.2.2.2.2.2.2.2.1, x31.2.2.2.2.2.2.2.2.2.2.2.2.2.2.2.2.2.2.2.2.2.2.1, (x31.2.2.2.2.2.2.2.2.2.2.2.2.2.2.2.2.2.2.2.2.2.2.2.1, x31.2.2.2.2.2.2.2.2.2.2.2.2.2.2.2.2.2.2.2.2.2.2.2.2.1, x31.2.2.2.2.2.2.2.2.2.2.2.2.2.2.2.2.2.2.2.2.2.2.2.2.2.1), x31.2.2.2.2.2.2.2.2.2.2.2.2.2.2.2.2.2.2.2.2.2.2.2.2.2.2.1, x31.2.2.2.2.2.2.2.2.2.2.2.2.2.2.2.2.2.2.2.2.2.2.2.2.2.2.2.1), (x31.2.2.2.2.2.2.2.2.2.2.2.2.2.2.2.2.2.2.2.2.2.2.2.2.2.2.2.2.1, x31.2.2.2.2.2.2.2.2.2.2.2.2.2.2.2.2.2.2.2.2.2.2.2.2.2.2.2.2.2.1, x31.2.2.2.2.2.2.2.2.2.2.2.2.2.2.2.2.2.2.2.2.2.2.2.2.2.2.2.2.2.2.1, x31.2.2.2.2.2.2.2.2.2.2.2.2.2.2.2.2.2.2.2.2.2.2.2.2.2.2.2.2.2.2.2.1), x31.2.2.2.2.2.2.2.2.2.2.2.2.2.2.2.2.2.2.2.2.2.2.2.2.2.2.2.2.2.2.2.2.1) [x33]).bind fun x34 =>
      ((orielref17_Same (x31.2.1, x31.2.2.1, x31.2.2.2.1, x31.2.2.2.2.1, x31.2.2.2.2.2.1, x31.2.2.2.2.2.2.1, x31.2.2.2.2.2.2.2.1, (x31.2.2.2.2.2.2.2.2.1, x31.2.2.2.2.2.2.2.2.2.1, x31.2.2.2.2.2.2.2.2.2.2.1), x31.2.2.2.2.2.2.2.2.2.2.2.1, x31.2.2.2.2.2.2.2.2.2.2.2.2.1, x31.2.2.2.2.2.2.2.2.2.2.2.2.2.1, ((x31.2.2.2.2.2.2.2.2.2.2.2.2.2.2.1, x31.2.2.2.2.2.2.2.2.2.2.2.2.2.2.2.1, (x31.2.2.2.2.2.2.2.2.2.2.2.2.2.2.2.2.1, x31.2.2.2.2.2.2.2.2.2.2.2.2.2.2.2.2.2.1, x31.2.2.2.2.2.2.2.2.2.2.2.2.2.2.2.2.2.2.1), x31.2.2.2.2.2.2.2.2.2.2.2.2.2.2.2.2.2.2.2.1, x31.2.2.2.2.2.2.2.2.2.2.2.2.2.2.2.2.2.2.2.2.1), x31.2.2.2.2.2.2.2.2.2.2.2.2.2.2.2.2.2.2.2.2.2.1, x31.2.2.2.2.2.2.2.2.2.2.2.2.2.2.2.2.2.2.2.2.2.2.1, (x31.2.2.2.2.2.2.2.2.2.2.2.2.2.2.2.2.2.2.2.2.2.2.2.1, x31.2.2.2.2.2.2.2.2.2.2.2.2.2.2.2.2.2.2.2.2.2.2.2.2.1, x31.2.2.2.2.2.2.2.2.2.2.2.2.2.2.2.2.2.2.2.2.2.2.2.2.2.1), x31.2.2.2.2.2.2.2.2.2.2.2.2.2.2.2.2.2.2.2.2.2.2.2.2.2.2.1, x31.2.2.2.2.2.2.2.2.2.2.2.2.2.2.2.2.2.2.2.2.2.2.2.2.2.2.2.1), (x31.2.2.2.2.2.2.2.2.2.2.2.2.2.2.2.2.2.2.2.2.2.2.2.2.2.2.2.2.1, x31.2.2.2.2.2.2.2.2.2.2.2.2.2.2.2.2.2.2.2.2.2.2.2.2.2.2.2.2.2.1, x31.2.2.2.2.2.2.2.2.2.2.2.2.2.2.2.2.2.2.2.2.2.2.2.2.2.2.2.2.2.2.1, x31.2.2.2.2.2.2.2.2.2.2.2.2.2.2.2.2.2.2.2.2.2.2.2.2.2.2.2.2.2.2.2.1), x31.2.2.2.2.2.2.2.2.2.2.2.2.2.2.2.2.2.2.2.2.2.2.2.2.2.2.2.2.2.2.2.2.1) (x31.2.2.2.2.2.2.2.2.2.2.2.2.2.2.2.2.2.2.2.2.2.2.2.2.2.2.2.2.2.2.2.2.2.1, x31.2.2.2.2.2.2.2.2.2.2.2.2.2.2.2.2.2.2.2.2.2.2.2.2.2.2.2.2.2.2.2.2.2.2.1, x31.2.2.2.2.2.2.2.2.2.2.2.2.2.2.2.2.2.2.2.2.2.2.2.2.2.2.2.2.2.2.2.2.2.2.2.1, x31.2.2.2.2.2.2.2.2.2.2.2.2.2.2.2.2.2.2.2.2.2.2.2.2.2.2.2.2.2.2.2.2.2.2.2.2.1, x31.2.2.2.2.2.2.2.2.2.2.2.2.2.2.2.2.2.2.2.2.2.2.2.2.2.2.2.2.2.2.2.2.2.2.2.2.2.1, x31.2.2.2.2.2.2.2.2.2.2.2.2.2.2.2.2.2.2.2.2.2.2.2.2.2.2.2.2.2.2.2.2.2.2.2.2.2.2.1, x31.2.2.2.2.2.2.2.2.2.2.2.2.2.2.2.2.2.2.2.2.2.2.2.2.2.2.2.2.2.2.2.2.2.2.2.2.2.2.2.1, (x31.2.2.2.2.2.2.2.2.2.2.2.2.2.2.2.2.2.2.2.2.2.2.2.2.2.2.2.2.2.2.2.2.2.2.2.2.2.2.2.2.1, x31.2.2.2.2.2.2.2.2.2.2.2.2.2.2.2.2.2.2.2.2.2.2.2.2.2.2.2.2.2.2.2.2.2.2.2.2.2.2.2.2.2.1, x31.2.2.2.2.2.2.2.2.2.2.2.2.2.2.2.2.2.2.2.2.2.2.2.2.2.2.2.2.2.2.2.2.2.2.2.2.2.2.2.2.2.2.1), x31.2.2.2.2.2.2.2.2.2.2.2.2.2.2.2.2.2.2.2.2.2.2.2.2.2.2.2.2.2.2.2.2.2.2.2.2.2.2.2.2.2.2.2.1, x31.2.2.2.2.2.2.2.2.2.2.2.2.2.2.2.2.2.2.2.2.2.2.2.2.2.2.2.2.2.2.2.2.2.2.2.2.2.2.2.2.2.2.2.2.1, x31.2.2.2.2.2.2.2.2.2.2.2.2.2.2.2.2.2.2.2.2.2.2.2.2.2.2.2.2.2.2.2.2.2.2.2.2.2.2.2.2.2.2.2.2.2.1, ((x31.2.2.2.2.2.2.2.2.2.2.2.2.2.2.2.2.2.2.2.2.2.2.2.2.2.2.2.2.2.2.2.2.2.2.2.2.2.2.2.2.2.2.2.2.2.2.1, x31.2.2.2.2.2.2.2.2.2.2.2.2.2.2.2.2.2.2.2.2.2.2.2.2.2.2.2.2.2.2.2.2.2.2.2.2.2.2.2.2.2.2.2.2.2.2.2.1, (x31.2.2.2.2.2.2.2.2.2.2.2.2.2.2.2.2.2.2.2.2.2.2.2.2.2.2.2.2.2.2.2.2.2.2.2.2.2.2.2.2.2.2.2.2.2.2.2.2.1, x31.2.2.2.2.2.2.2.2.2.2.2.2.2.2.2.2.2.2.2.2.2.2.2.2.2.2.2.2.2.2.2.2.2.2.2.2.2.2.2.2.2.2.2.2.2.2.2.2.2.1, x31.2.2.2.2.2.2.2.2.2.2.2.2.2.2.2.2.2.2.2.2.2.2.2.2.2.2.2.2.2.2.2.2.2.2.2.2.2.2.2.2.2.2.2.2.2.2.2.2.2.2.1), x31.2.2.2.2.2.2.2.2.2.2.2.2.2.2.2.2.2.2.2.2.2.2.2.2.2.2.2.2.2.2.2.2.2.2.2.2.2.2.2.2.2.2.2.2.2.2.2.2.2.2.2.1, x31.2.2.2.2.2.2.2.2.2.2.2.2.2.2.2.2.2.2.2.2.2.2.2.2.2.2.2.2.2.2.2.2.2.2.2.2.2.2.2.2.2.2.2.2.2.2.2.2.2.2.2.2.1), x31.2.2.2.2.2.2.2.2.2.2.2.2.2.2.2.2.2.2.2.2.2.2.2.2.2.2.2.2.2.2.2.2.2.2.2.2.2.2.2.2.2.2.2.2.2.2.2.2.2.2.2.2.2.1, x31.2.2.2.2.2.2.2.2.2.2.2.2.2.2.2.2.2.2.2.2.2.2.2.2.2.2.2.2.2.2.2.2.2.2.2.2.2.2.2.2.2.2.2.2.2.2.2.2.2.2.2.2.2.2.1, (x31.2.2.2.2.2.2.2.2.2.2.2.2.2.2.2.2.2.2.2.2.2.2.2.2.2.2.2.2.2.2.2.2.2.2.2.2.2.2.2.2.2.2.2.2.2.2.2.2.2.2.2.2.2.2.2.1, x31.2.2.2.2.2.2.2.2.2.2.2.2.2.2.2.2.2.2.2.2.2.2.2.2.2.2.2.2.2.2.2.2.2.2.2.2.2.2.2.2.2.2.2.2.2.2.2.2.2.2.2.2.2.2.2.2.1, x31.2.2.2.2.2.2.2.2.2.2.2.2.2.2.2.2.2.2.2.2.2.2.2.2.2.2.2.2.2.2.2.2.2.2.2.2.2.2.2.2.2.2.2.2.2.2.2.2.2.2.2.2.2.2.2.2.2.1), x31.2.2.2.2.2.2.2.2.2.2.2.2.2.2.2.2.2.2.2.2.2.2.2.2.2.2.2.2.2.2.2.2.2.2.2.2.2.2.2.2.2.2.2.2.2.2.2.2.2.2.2.2.2.2.2.2.2.2.1, x31.2.2.2.2.2.2.2.2.2.2.2.2.2.2.2.2.2.2.2.2.2.2.2.2.2.2.2.2.2.2.2.2.2.2.2.2.2.2.2.2.2.2.2.2.2.2.2.2.2.2.2.2.2.2.2.2.2.2.2.1), (x31.2.2.2.2.2.2.2.2.2.2.2.2.2.2.2.2.2.2.2.2.2.2.2.2.2.2.2.2.2.2.2.2.2.2.2.2.2.2.2.2.2.2.2.2.2.2.2.2.2.2.2.2.2.2.2.2.2.2.2.2.1, x31.2.2.2.2.2.2.2.2.2.2.2.2.2.2.2.2.2.2.2.2.2.2.2.2.2.2.2.2.2.2.2.2.2.2.2.2.2.2.2.2.2.2.2.2.2.2.2.2.2.2.2.2.2.2.2.2.2.2.2.2.2.1, x31.2.2.2.2.2.2.2.2.2.2.2.2.2.2.2.2.2.2.2.2.2.2.2.2.2.2.2.2.2.2.2.2.2.2.2.2.2.2.2.2.2.2.2.2.2.2.2.2.2.2.2.2.2.2.2.2.2.2.2.2.2.2.1, x31.2.2.2.2.2.2.2.2.2.2.2.2.2.2.2.2.2.2.2.2.2.2.2.2.2.2.2.2.2.2.2.2.2.2.2.2.2.2.2.2.2.2.2.2.2.2.2.2.2.2.2.2.2.2.2.2.2.2.2.2.2.2.2.1), x31.2.2.2.2.2.2.2.2.2.2.2.2.2.2.2.2.2.2.2.2.2.2.2.2.2.2.2.2.2.2.2.2.2.2.2.2.2.2.2.2.2.2.2.2.2.2.2.2.2.2.2.2.2.2.2.2.2.2.2.2.2.2.2.2)).bind fun x36 =>
        bif !x36 then
          some true
        else
          some false : Option (Bool)).bind fun x37 =>
      bif x37 then
        some (.inl (.inl (x31.2.1, x31.2.2.1, x31.2.2.2.1, x31.2.2.2.2.1, x31.2.2.2.2.2.1, x31.2.2.2.2.2.2.1, x31.2.2.2.2.2.2.2.1, x31.2.2.2.2.2.2.2.2.1, x31.2.2.2.2.2.2.2.2.2.1, x31.2.2.2.2.2.2.2.2.2.2.1, x31.2.2.2.2.2.2.2.2.2.2.2.1, x31.2.2.2.2.2.2.2.2.2.2.2.2.1, x31.2.2.2.2.2.2.2.2.2.2.2.2.2.1, x31.2.2.2.2.2.2.2.2.2.2.2.2.2.2.1, x31.2.2.2.2.2.2.2.2.2.2.2.2.2.2.2.1, x31.2.2.2.2.2.2.2.2.2.2.2.2.2.2.2.2.1, x31.2.2.2.2.2.2.2.2.2.2.2.2.2.2.2.2.2.1, x31.2.2.2.2.2.2.2.2.2.2.2.2.2.2.2.2.2.2.1, x31.2.2.2.2.2.2.2.2.2.2.2.2.2.2.2.2.2.2.2.1, x31.2.2.2.2.2.2.2.2.2.2.2.2.2.2.2.2.2.2.2.2.1, x31.2.2.2.2.2.2.2.2.2.2.2.2.2.2.2.2.2.2.2.2.2.1, x31.2.2.2.2.2.2.2.2.2.2.2.2.2.2.2.2.2.2.2.2.2.2.1, x31.2.2.2.2.2.2.2.2.2.2.2.2.2.2.2.2.2.2.2.2.2.2.2.1, x31.2.2.2.2.2.2.2.2.2.2.2.2.2.2.2.2.2.2.2.2.2.2.2.2.1, x31.2.2.2.2.2.2.2.2.2.2.2.2.2.2.2.2.2.2.2.2.2.2.2.2.2.1, x31.2.2.2.2.2.2.2.2.2.2.2.2.2.2.2.2.2.2.2.2.2.2.2.2.2.2.1, x31.2.2.2.2.2.2.2.2.2.2.2.2.2.2.2.2.2.2.2.2.2.2.2.2.2.2.2.1, x31.2.2.2.2.2.2.2.2.2.2.2.2.2.2.2.2.2.2.2.2.2.2.2.2.2.2.2.2.1, x31.2.2.2.2.2.2.2.2.2.2.2.2.2.2.2.2.2.2.2.2.2.2.2.2.2.2.2.2.2.1, x31.2.2.2.2.2.2.2.2.2.2.2.2.2.2.2.2.2.2.2.2.2.2.2.2.2.2.2.2.2.2.1, x31.2.2.2.2.2.2.2.2.2.2.2.2.2.2.2.2.2.2.2.2.2.2.2.2.2.2.2.2.2.2.2.1, x31.2.2.2.2.2.2.2.2.2.2.2.2.2.2.2.2.2.2.2.2.2.2.2.2.2.2.2.2.2.2.2.2.1, x31.2.2.2.2.2.2.2.2.2.2.2.2.2.2.2.2.2.2.2.2.2.2.2.2.2.2.2.2.2.2.2.2.2.1, x31.2.2.2.2.2.2.2.2.2.2.2.2.2.2.2.2.2.2.2.2.2.2.2.2.2.2.2.2.2.2.2.2.2.2.1, x31.2.2.2.2.2.2.2.2.2.2.2.2.2.2.2.2.2.2.2.2.2.2.2.2.2.2.2.2.2.2.2.2.2.2.2.1, x31.2.2.2.2.2.2.2.2.2.2.2.2.2.2.2.2.2.2.2.2.2.2.2.2.2.2.2.2.2.2.2.2.2.2.2.2.1, x31.2.2.2.2.2.2.2.2.2.2.2.2.2.2.2.2.2.2.2.2.2.2.2.2.2.2.2.2.2.2.2.2.2.2.2.2.2.1, x31.2.2.2.2.2.2.2.2.2.2.2.2.2.2.2.2.2.2.2.2.2.2.2.2.2.2.2.2.2.2.2.2.2.2.2.2.2.2.1, x31.2.2.2.2.2.2.2.2.2.2.2.2.2.2.2.2.2.2.2.2.2.2.2.2.2.2.2.2.2.2.2.2.2.2.2.2.2.2.2.1, x31.2.2.2.2.2.2.2.2.2.2.2.2.2.2.2.2.2.2.2.2.2.2.2.2.2.2.2.2.2.2.2.2.2.2.2.2.2.2.2.2.1, x31.2.2.2.2.2.2.2.2.2.2.2.2.2.2.2.2.2.2.2.2.2.2.2.2.2.2.2.2.2.2.2.2.2.2.2.2.2.2.2.2.2.1, x31.2.2.2.2.2.2.2.2.2.2.2.2.2.2.2.2.2.2.2.2.2.2.2.2.2.2.2.2.2.2.2.2.2.2.2.2.2.2.2.2.2.2.1, x31.2.2.2.2.2.2.2.2.2.2.2.2.2.2.2.2.2.2.2.2.2.2.2.2.2.2.2.2.2.2.2.2.2.2.2.2.2.2.2.2.2.2.2.1, x31.2.2.2.2.2.2.2.2.2.2.2.2.2.2.2.2.2.2.2.2.2.2.2.2.2.2.2.2.2.2.2.2.2.2.2.2.2.2.2.2.2.2.2.2.1, x31.2.2.2.2.2.2.2.2.2.2.2.2.2.2.2.2.2.2.2.2.2.2.2.2.2.2.2.2.2.2.2.2.2.2.2.2.2.2.2.2.2.2.2.2.2.1, x31.2.2.2.2.2.2.2.2.2.2.2.2.2.2.2.2.2.2.2.2.2.2.2.2.2.2.2.2.2.2.2.2.2.2.2.2.2.2.2.2.2.2.2.2.2.2.1, x31.2.2.2.2.2.2.2.2.2.2.2.2.2.2.2.2.2.2.2.2.2.2.2.2.2.2.2.2.2.2.2.2.2.2.2.2.2.2.2.2.2.2.2.2.2.2.2.1, x31.2.2.2.2.2.2.2.2.2.2.2.2.2.2.2.2.2.2.2.2.2.2.2.2.2.2.2.2.2.2.2.2.2.2.2.2.2.2.2.2.2.2.2.2.2.2.2.2.1, x31.2.2.2.2.2.2.2.2.2.2.2.2.2.2.2.2.2.2.2.2.2.2.2.2.2.2.2.2.2.2.2.2.2.2.2.2.2.2.2.2.2.2.2.2.2.2.2.2.2.1, x31.2.2.2.2.2.2.2.2.2.2.2.2.2.2.2.2.2.2.2.2.2.2.2.2.2.2.2.2.2.2.2.2.2.2.2.2.2.2.2.2.2.2.2.2.2.2.2.2.2.2.1, x31.2.2.2.2.2.2.2.2.2.2.2.2.2.2.2.2.2.2.2.2.2.2.2.2.2.2.2.2.2.2.2.2.2.2.2.2.2.2.2.2.2.2.2.2.2.2.2.2.2.2.2.1, x31.2.2.2.2.2.2.2.2.2.2.2.2.2.2.2.2.2.2.2.2.2.2.2.2.2.2.2.2.2.2.2.2.2.2.2.2.2.2.2.2.2.2.2.2.2.2.2.2.2.2.2.2.1, x31.2.2.2.2.2.2.2.2.2.2.2.2.2.2.2.2.2.2.2.2.2.2.2.2.2.2.2.2.2.2.2.2.2.2.2.2.2.2.2.2.2.2.2.2.2.2.2.2.2.2.2.2.2.1, x31.2.2.2.2.2.2.2.2.2.2.2.2.2.2.2.2.2.2.2.2.2.2.2.2.2.2.2.2.2.2.2.2.2.2.2.2.2.2.2.2.2.2.2.2.2.2.2.2.2.2.2.2.2.2.1, x31.2.2.2.2.2.2.2.2.2.2.2.2.2.2.2.2.2.2.2.2.2.2.2.2.2.2.2.2.2.2.2.2.2.2.2.2.2.2.2.2.2.2.2.2.2.2.2.2.2.2.2.2.2.2.2.1, x31.2.2.2.2.2.2.2.2.2.2.2.2.2.2.2.2.2.2.2.2.2.2.2.2.2.2.2.2.2.2.2.2.2.2.2.2.2.2.2.2.2.2.2.2.2.2.2.2.2.2.2.2.2.2.2.2.1, x31.2.2.2.2.2.2.2.2.2.2.2.2.2.2.2.2.2.2.2.2.2.2.2.2.2.2.2.2.2.2.2.2.2.2.2.2.2.2.2.2.2.2.2.2.2.2.2.2.2.2.2.2.2.2.2.2.2.1, x31.2.2.2.2.2.2.2.2.2.2.2.2.2.2.2.2.2.2.2.2.2.2.2.2.2.2.2.2.2.2.2.2.2.2.2.2.2.2.2.2.2.2.2.2.2.2.2.2.2.2.2.2.2.2.2.2.2.2.1, x31.2.2.2.2.2.2.2.2.2.2.2.2.2.2.2.2.2.2.2.2.2.2.2.2.2.2.2.2.2.2.2.2.2.2.2.2.2.2.2.2.2.2.2.2.2.2.2.2.2.2.2.2.2.2.2.2.2.2.2.1, x31.2.2.2.2.2.2.2.2.2.2.2.2.2.2.2.2.2.2.2.2.2.2.2.2.2.2.2.2.2.2.2.2.2.2.2.2.2.2.2.2.2.2.2.2.2.2.2.2.2.2.2.2.2.2.2.2.2.2.2.2.1, x31.2.2.2.2.2.2.2.2.2.2.2.2.2.2.2.2.2.2.2.2.2.2.2.2.2.2.2.2.2.2.2.2.2.2.2.2.2.2.2.2.2.2.2.2.2.2.2.2.2.2.2.2.2.2.2.2.2.2.2.2.2.1, x31.2.2.2.2.2.2.2.2.2.2.2.2.2.2.2.2.2.2.2.2.2.2.2.2.2.2.2.2.2.2.2.2.2.2.2.2.2.2.2.2.2.2.2.2.2.2.2.2.2.2.2.2.2.2.2.2.2.2.2.2.2.2.1, x31.2.2.2.2.2.2.2.2.2.2.2.2.2.2.2.2.2.2.2.2.2.2.2.2.2.2.2.2.2.2.2.2.2.2.2.2.2.2.2.2.2.2.2.2.2.2.2.2.2.2.2.2.2.2.2.2.2.2.2.2.2.2.2.1, x31.2.2.2.2.2.2.2.2.2.2.2.2.2.2.2.2.2.2.2.2.2.2.2.2.2.2.2.2.2.2.2.2.2.2.2.2.2.2.2.2.2.2.2.2.2.2.2.2.2.2.2.2.2.2.2.2.2.2.2.2.2.2.2.2)))
      else
        (getI a2 x31.1).bind fun x38 =>
        (orielref17_One (x31.2.2.2.2.2.2.2.2.2.2.2.2.2.2.2.2.2.2.2.2.2.2.2.2.2.2.2.2.2.2.2.2.2.1, x31.2.2.2.2.2.2.2.2.2.2.2.2.2.2.2.2.2.2.2.2.2.2.2.2.2.2.2.2.2.2.2.2.2.2.1, x31.2.2.2.2.2.2.2.2.2.2.2.2.2.2.2.2.2.2.2.2.2.2.2.2.2.2.2.2.2.2.2.2.2.2.2.1, x31.2.2.2.2.2.2.2.2.2.2.2.2.2.2.2.2.2.2.2.2.2.2.2.2.2.2.2.2.2.2.2.2.2.2.2.2.1, x31.2.2.2.2.2.2.2.2.2.2.2.2.2.2.2.2.2.2.2.2.2.2.2.2.2.2.2.2.2.2.2.2.2.2.2.2.2.1, x31.2.2.2.2.2.2.2.2.2.2.2.2.2.2.2.2.2.2.2.2.2.2.2.2.2.2.2.2.2.2.2.2.2.2.2.2.2.2.1, x31.2.2.2.2.2.2.2.2.2.2.2.2.2.2.2.2.2.2.2.2.2.2.2.2.2.2.2.2.2.2.2.2.2.2.2.2.2.2.2.1, (x31.2.2.2.2.2.2.2.2.2.2.2.2.2.2.2.2.2.2.2.2.2.2.2.2.2.2.2.2.2.2.2.2.2.2.2.2.2.2.2.2.1, x31.2.2.2.2.2.2.2.2.2.2.2.2.2.2.2.2.2.2.2.2.2.2.2.2.2.2.2.2.2.2.2.2.2.2.2.2.2.2.2.2.2.1, x31.2.2.2.2.2.2.2.2.2.2.2.2.2.2.2.2.2.2.2.2.2.2.2.2.2.2.2.2.2.2.2.2.2.2.2.2.2.2.2.2.2.2.1), x31.2.2.2.2.2.2.2.2.2.2.2.2.2.2.2.2.2.2.2.2.2.2.2.2.2.2.2.2.2.2.2.2.2.2.2.2.2.2.2.2.2.2.2.1, x31.2.2.2.2.2.2.2.2.2.2.2.2.2.2.2.2.2.2.2.2.2.2.2.2.2.2.2.2.2.2.2.2.2.2.2.2.2.2.2.2.2.2.2.2.1, x31.2.2.2.2.2.2.2.2.2.2.2.2.2.2.2.2.2.2.2.2.2.2.2.2.2.2.2.2.2.2.2.2.2.2.2.2.2.2.2.2.2.2.2.2.2.1, ((x31.2.2.2.2.2.2.2.2.2.2.2.2.2.2.2.2.2.2.2.2.2.2.2.2.2.2.2.2.2.2.2.2.2.2.2.2.2.2.2.2.2.2.2.2.2.2.1, x31.2.2.2.2.2.2.2.2.2.2.2.2.2.2.2.2.2.2.2.2.2.2.2.2.2.2.2.2.2.2.2.2.2.2.2.2.2.2.2.2.2.2.2.2.2.2.2.1, (x31.2.2.2.2.2.2.2.2.2.2.2.2.2.2.2.2.2.2.2.2.2.2.2.2.2.2.2.2.2.2.2.2.2.2.2.2.2.2.2.2.2.2.2.2.2.2.2.2.1, x31.2.2.2.2.2.2.2.2.2.2.2.2.2.2.2.2.2.2.2.2.2.2.2.2.2.2.2.2.2.2.2.2.2.2.2.2.2.2.2.2.2.2.2.2.2.2.2.2.2.1, x31.2.2.2.2.2.2.2.2.2.2.2.2.2.2.2.2.2.2.2.2.2.2.2.2.2.2.2.2.2.2.2.2.2.2.2.2.2.2.2.2.2.2.2.2.2.2.2.2.2.2.1), x31.2.2.2.2.2.2.2.2.2.2.2.2.2.2.2.2.2.2.2.2.2.2.2.2.2.2.2.2.2.2.2.2.2.2.2.2.2.2.2.2.2.2.2.2.2.2.2.2.2.2.2.1, x31.2.2.2.2.2.2.2.2.2.2.2.2.2.2.2.2.2.2.2.2.2.2.2.2.2.2.2.2.2.2.2.2.2.2.2.2.2.2.2.2.2.2.2.2.2.2.2.2.2.2.2.2.1), x31.2.2.2.2.2.2.2.2.2.2.2.2.2.2.2.2.2.2.2.2.2.2.2.2.2.2.2.2.2.2.2.2.2.2.2.2.2.2.2.2.2.2.2.2.2.2.2.2.2.2.2.2.2.1, x31.2.2.2.2.2.2.2.2.2.2.2.2.2.2.2.2.2.2.2.2.2.2.2.2.2.2.2.2.2.2.2.2.2.2.2.2.2.2.2.2.2.2.2.2.2.2.2.2.2.2.2.2.2.2.1, (x31.2.2.2.2.2.2.2.2.2.2.2.2.2.2.2.2.2.2.2.2.2.2.2.2.2.2.2.2.2.2.2.2.2.2.2.2.2.2.2.2.2.2.2.2.2.2.2.2.2.2.2.2.2.2.2.1, x31.2.2.2.2.2.2.2.2.2.2.2.2.2.2.2.2.2.2.2.2.2.2.2.2.2.2.2.2.2.2.2.2.2.2.2.2.2.2.2.2.2.2.2.2.2.2.2.2.2.2.2.2.2.2.2.2.1, x31.2.2.2.2.2.2.2.2.2.2.2.2.2.2.2.2.2.2.2.2.2.2.2.2.2.2.2.2.2.2.2.2.2.2.2.2.2.2.2.2.2.2.2.2.2.2.2.2.2.2.2.2.2.2.2.2.2.1), x31.2.2.2.2.2.2.2.2.2.2.2.2.2.2.2.2.2.2.2.2.2.2.2.2.2.2.2.2.2.2.2.2.2.2.2.2.2.2.2.2.2.2.2.2.2.2.2.2.2.2.2.2.2.2.2.2.2.2.1, x31.2.2.2.2.2.2.2.2.2.2.2.2.2.2.2.2.2.2.2.2.2.2.2.2.2.2.2.2.2.2.2.2.2.2.2.2.2.2.2.2.2.2.2.2.2.2.2.2.2.2.2.2.2.2.2.2.2.2.2.1), (x31.2.2.2.2.2.2.2.2.2.2.2.2.2.2.2.2.2.2.2.2.2.2.2.2.2.2.2.2.2.2.2.2.2.2.2.2.2.2.2.2.2.2.2.2.2.2.2.2.2.2.2.2.2.2.2.2.2.2.2.2.1, x31.2.2.2.2.2.2.2.2.2.2.2.2.2.2.2.2.2.2.2.2.2.2.2.2.2.2.2.2.2.2.2.2.2.2.2.2.2.2.2.2.2.2.2.2.2.2.2.2.2.2.2.2.2.2.2.2.2.2.2.2.2.1, x31.2.2.2.2.2.2.2.2.2.2.2.2.2.2.2.2.2.2.2.2.2.2.2.2.2.2.2.2.2.2.2.2.2.2.2.2.2.2.2.2.2.2.2.2.2.2.2.2.2.2.2.2.2.2.2.2.2.2.2.2.2.2.1, x31.2.2.2.2.2.2.2.2.2.2.2.2.2.2.2.2.2.2.2.2.2.2.2.2.2.2.2.2.2.2.2.2.2.2.2.2.2.2.2.2.2.2.2.2.2.2.2.2.2.2.2.2.2.2.2.2.2.2.2.2.2.2.2.1), x31.2.2.2.2.2.2.2.2.2.2.2.2.2.2.2.2.2.2.2.2.2.2.2.2.2.2.2.2.2.2.2.2.2.2.2.2.2.2.2.2.2.2.2.2.2.2.2.2.2.2.2.2.2.2.2.2.2.2.2.2.2.2.2.2) x38).bind fun x39 =>
        ((orielref17_Same x34 x39).bind fun x42 =>
          bif !x42 then
            some true
          else
            (orielref17_May x39).bind fun x43 =>
            bif !x43 then
              some true
            else
              some false : Option (Bool)).bind fun x44 =>
        bif x44 then
          some (.inl (.inl (x34.1, x34.2.1, x34.2.2.1, x34.2.2.2.1, x34.2.2.2.2.1, x34.2.2.2.2.2.1, x34.2.2.2.2.2.2.1, x34.2.2.2.2.2.2.2.1.1, x34.2.2.2.2.2.2.2.1.2.1, x34.2.2.2.2.2.2.2.1.2.2, x34.2.2.2.2.2.2.2.2.1, x34.2.2.2.2.2.2.2.2.2.1, x34.2.2.2.2.2.2.2.2.2.2.1, x34.2.2.2.2.2.2.2.2.2.2.2.1.1.1, x34.2.2.2.2.2.2.2.2.2.2.2.1.1.2.1, x34.2.2.2.2.2.2.2.2.2.2.2.1.1.2.2.1.1, x34.2.2.2.2.2.2.2.2.2.2.2.1.1.2.2.1.2.1, x34.2.2.2.2.2.2.2.2.2.2.2.1.1.2.2.1.2.2, x34.2.2.2.2.2.2.2.2.2.2.2.1.1.2.2.2.1, x34.2.2.2.2.2.2.2.2.2.2.2.1.1.2.2.2.2, x34.2.2.2.2.2.2.2.2.2.2.2.1.2.1, x34.2.2.2.2.2.2.2.2.2.2.2.1.2.2.1, x34.2.2.2.2.2.2.2.2.2.2.2.1.2.2.2.1.1, x34.2.2.2.2.2.2.2.2.2.2.2.1.2.2.2.1.2.1, x34.2.2.2.2.2.2.2.2.2.2.2.1.2.2.2.1.2.2, x34.2.2.2.2.2.2.2.2.2.2.2.1.2.2.2.2.1, x34.2.2.2.2.2.2.2.2.2.2.2.1.2.2.2.2.2, x34.2.2.2.2.2.2.2.2.2.2.2.2.1.1, x34.2.2.2.2.2.2.2.2.2.2.2.2.1.2.1, x34.2.2.2.2.2.2.2.2.2.2.2.2.1.2.2.1, x34.2.2.2.2.2.2.2.2.2.2.2.2.1.2.2.2, x34.2.2.2.2.2.2.2.2.2.2.2.2.2, x39.1, x39.2.1, x39.2.2.1, x39.2.2.2.1, x39.2.2.2.2.1, x39.2.2.2.2.2.1, x39.2.2.2.2.2.2.1, x39.2.2.2.2.2.2.2.1.1, x39.2.2.2.2.2.2.2.1.2.1, x39.2.2.2.2.2.2.2.1.2.2, x39.2.2.2.2.2.2.2.2.1, x39.2.2.2.2.2.2.2.2.2.1, x39.2.2.2.2.2.2.2.2.2.2.1, x39.2.2.2.2.2.2.2.2.2.2.2.1.1.1, x39.2.2.2.2.2.2.2.2.2.2.2.1.1.2.1, x39.2.2.2.2.2.2.2.2.2.2.2.1.1.2.2.1.1, x39.2.2.2.2.2.2.2.2.2.2.2.1.1.2.2.1.2.1, x39.2.2.2.2.2.2.2.2.2.2.2.1.1.2.2.1.2.2, x39.2.2.2.2.2.2.2.2.2.2.2.1.1.2.2.2.1, x39.2.2.2.2.2.2.2.2.2.2.2.1.1.2.2.2.2, x39.2.2.2.2.2.2.2.2.2.2.2.1.2.1, x39.2.2.2.2.2.2.2.2.2.2.2.1.2.2.1, x39.2.2.2.2.2.2.2.2.2.2.2.1.2.2.2.1.1, x39.2.2.2.2.2.2.2.2.2.2.2.1.2.2.2.1.2.1, x39.2.2.2.2.2.2.2.2.2.2.2.1.2.2.2.1.2.2, x39.2.2.2.2.2.2.2.2.2.2.2.1.2.2.2.2.1, x39.2.2.2.2.2.2.2.2.2.2.2.1.2.2.2.2.2, x39.2.2.2.2.2.2.2.2.2.2.2.2.1.1, x39.2.2.2.2.2.2.2.2.2.2.2.2.1.2.1, x39.2.2.2.2.2.2.2.2.2.2.2.2.1.2.2.1, x39.2.2.2.2.2.2.2.2.2.2.2.2.1.2.2.2, x39.2.2.2.2.2.2.2.2.2.2.2.2.2)))
        else
          some (.inr (IntKind.i64.wrap (x31.1 + 1), x34.1, x34.2.1, x34.2.2.1, x34.2.2.2.1, x34.2.2.2.2.1, x34.2.2.2.2.2.1, x34.2.2.2.2.2.2.1, x34.2.2.2.2.2.2.2.1.1, x34.2.2.2.2.2.2.2.1.2.1, x34.2.2.2.2.2.2.2.1.2.2, x34.2.2.2.2.2.2.2.2.1, x34.2.2.2.2.2.2.2.2.2.1, x34.2.2.2.2.2.2.2.2.2.2.1, x34.2.2.2.2.2.2.2.2.2.2.2.1.1.1, x34.2.2.2.2.2.2.2.2.2.2.2.1.1.2.1, x34.2.2.2.2.2.2.2.2.2.2.2.1.1.2.2.1.1, x34.2.2.2.2.2.2.2.2.2.2.2.1.1.2.2.1.2.1, x34.2.2.2.2.2.2.2.2.2.2.2.1.1.2.2.1.2.2, x34.2.2.2.2.2.2.2.2.2.2.2.1.1.2.2.2.1, x34.2.2.2.2.2.2.2.2.2.2.2.1.1.2.2.2.2, x34.2.2.2.2.2.2.2.2.2.2.2.1.2.1, x34.2.2.2.2.2.2.2.2.2.2.2.1.2.2.1, x34.2.2.2.2.2.2.2.2.2.2.2.1.2.2.2.1.1, x34.2.2.2.2.2.2.2.2.2.2.2.1.2.2.2.1.2.1, x34.2.2.2.2.2.2.2.2.2.2.2.1.2.2.2.1.2.2, x34.2.2.2.2.2.2.2.2.2.2.2.1.2.2.2.2.1, x34.2.2.2.2.2.2.2.2.2.2.2.1.2.2.2.2.2, x34.2.2.2.2.2.2.2.2.2.2.2.2.1.1, x34.2.2.2.2.2.2.2.2.2.2.2.2.1.2.1, x34.2.2.2.2.2.2.2.2.2.2.2.2.1.2.2.1, x34.2.2.2.2.2.2.2.2.2.2.2.2.1.2.2.2, x34.2.2.2.2.2.2.2.2.2.2.2.2.2, x39.1, x39.2.1, x39.2.2.1, x39.2.2.2.1, x39.2.2.2.2.1, x39.2.2.2.2.2.1, x39.2.2.2.2.2.2.1, x39.2.2.2.2.2.2.2.1.1, x39.2.2.2.2.2.2.2.1.2.1, x39.2.2.2.2.2.2.2.1.2.2, x39.2.2.2.2.2.2.2.2.1, x39.2.2.2.2.2.2.2.2.2.1, x39.2.2.2.2.2.2.2.2.2.2.1, x39.2.2.2.2.2.2.2.2.2.2.2.1.1.1, x39.2.2.2.2.2.2.2.2.2.2.2.1.1.2.1, x39.2.2.2.2.2.2.2.2.2.2.2.1.1.2.2.1.1, x39.2.2.2.2.2.2.2.2.2.2.2.1.1.2.2.1.2.1, x39.2.2.2.2.2.2.2.2.2.2.2.1.1.2.2.1.2.2, x39.2.2.2.2.2.2.2.2.2.2.2.1.1.2.2.2.1, x39.2.2.2.2.2.2.2.2.2.2.2.1.1.2.2.2.2, x39.2.2.2.2.2.2.2.2.2.2.2.1.2.1, x39.2.2.2.2.2.2.2.2.2.2.2.1.2.2.1, x39.2.2.2.2.2.2.2.2.2.2.2.1.2.2.2.1.1, x39.2.2.2.2.2.2.2.2.2.2.2.1.2.2.2.1.2.1, x39.2.2.2.2.2.2.2.2.2.2.2.1.2.2.2.1.2.2, x39.2.2.2.2.2.2.2.2.2.2.2.1.2.2.2.2.1, x39.2.2.2.2.2.2.2.2.2.2.2.1.2.2.2.2.2, x39.2.2.2.2.2.2.2.2.2.2.2.2.1.1, x39.2.2.2.2.2.2.2.2.2.2.2.2.1.2.1, x39.2.2.2.2.2.2.2.2.2.2.2.2.1.2.2.1, x39.2.2.2.2.2.2.2.2.2.2.2.2.1.2.2.2, x39.2.2.2.2.2.2.2.2.2.2.2.2.2))
    else
      some (.inl (.inr (x31.2.1, x31.2.2.1, x31.2.2.2.1, x31.2.2.2.2.1, x31.2.2.2.2.2.1, x31.2.2.2.2.2.2.1, x31.2.2.2.2.2.2.2.1, x31.2.2.2.2.2.2.2.2.1, x31.2.2.2.2.2.2.2.2.2.1, x31.2.2.2.2.2.2.2.2.2.2.1, x31.2.2.2.2.2.2.2.2.2.2.2.1, x31.2.2.2.2.2.2.2.2.2.2.2.2.1, x31.2.2.2.2.2.2.2.2.2.2.2.2.2.1, x31.2.2.2.2.2.2.2.2.2.2.2.2.2.2.1, x31.2.2.2.2.2.2.2.2.2.2.2.2.2.2.2.1, x31.2.2.2.2.2.2.2.2.2.2.2.2.2.2.2.2.1, x31.2.2.2.2.2.2.2.2.2.2.2.2.2.2.2.2.2.1, x31.2.2.2.2.2.2.2.2.2.2.2.2.2.2.2.2.2.2.1, x31.2.2.2.2.2.2.2.2.2.2.2.2.2.2.2.2.2.2.2.1, x31.2.2.2.2.2.2.2.2.2.2.2.2.2.2.2.2.2.2.2.2.1, x31.2.2.2.2.2.2.2.2.2.2.2.2.2.2.2.2.2.2.2.2.2.1, x31.2.2.2.2.2.2.2.2.2.2.2.2.2.2.2.2.2.2.2.2.2.2.1, x31.2.2.2.2.2.2.2.2.2.2.2.2.2.2.2.2.2.2.2.2.2.2.2.1, x31.2.2.2.2.2.2.2.2.2.2.2.2.2.2.2.2.2.2.2.2.2.2.2.2.1, x31.2.2.2.2.2.2.2.2.2.2.2.2.2.2.2.2.2.2.2.2.2.2.2.2.2.1, x31.2.2.2.2.2.2.2.2.2.2.2.2.2.2.2.2.2.2.2.2.2.2.2.2.2.2.1, x31.2.2.2.2.2.2.2.2.2.2.2.2.2.2.2.2.2.2.2.2.2.2.2.2.2.2.2.1, x31.2.2.2.2.2.2.2.2.2.2.2.2.2.2.2.2.2.2.2.2.2.2.2.2.2.2.2.2.1, x31.2.2.2.2.2.2.2.2.2.2.2.2.2.2.2.2.2.2.2.2.2.2.2.2.2.2.2.2.2.1, x31.2.2.2.2.2.2.2.2.2.2.2.2.2.2.2.2.2.2.2.2.2.2.2.2.2.2.2.2.2.2.1, x31.2.2.2.2.2.2.2.2.2.2.2.2.2.2.2.2.2.2.2.2.2.2.2.2.2.2.2.2.2.2.2.1, x31.2.2.2.2.2.2.2.2.2.2.2.2.2.2.2.2.2.2.2.2.2.2.2.2.2.2.2.2.2.2.2.2.1, x31.2.2.2.2.2.2.2.2.2.2.2.2.2.2.2.2.2.2.2.2.2.2.2.2.2.2.2.2.2.2.2.2.2.1, x31.2.2.2.2.2.2.2.2.2.2.2.2.2.2.2.2.2.2.2.2.2.2.2.2.2.2.2.2.2.2.2.2.2.2.1, x31.2.2.2.2.2.2.2.2.2.2.2.2.2.2.2.2.2.2.2.2.2.2.2.2.2.2.2.2.2.2.2.2.2.2.2.1, x31.2.2.2.2.2.2.2.2.2.2.2.2.2.2.2.2.2.2.2.2.2.2.2.2.2.2.2.2.2.2.2.2.2.2.2.2.1, x31.2.2.2.2.2.2.2.2.2.2.2.2.2.2.2.2.2.2.2.2.2.2.2.2.2.2.2.2.2.2.2.2.2.2.2.2.2.1, x31.2.2.2.2.2.2.2.2.2.2.2.2.2.2.2.2.2.2.2.2.2.2.2.2.2.2.2.2.2.2.2.2.2.2.2.2.2.2.1, x31.2.2.2.2.2.2.2.2.2.2.2.2.2.2.2.2.2.2.2.2.2.2.2.2.2.2.2.2.2.2.2.2.2.2.2.2.2.2.2.1, x31.2.2.2.2.2.2.2.2.2.2.2.2.2.2.2.2.2.2.2.2.2.2.2.2.2.2.2.2.2.2.2.2.2.2.2.2.2.2.2.2.1, x31.2.2.2.2.2.2.2.2.2.2.2.2.2.2.2.2.2.2.2.2.2.2.2.2.2.2.2.2.2.2.2.2.2.2.2.2.2.2.2.2.2.1, x31.2.2.2.2.2.2.2.2.2.2.2.2.2.2.2.2.2.2.2.2.2.2.2.2.2.2.2.2.2.2.2.2.2.2.2.2.2.2.2.2.2.2.1, x31.2.2.2.2.2.2.2.2.2.2.2.2.2.2.2.2.2.2.2.2.2.2.2.2.2.2.2.2.2.2.2.2.2.2.2.2.2.2.2.2.2.2.2.1, x31.2.2.2.2.2.2.2.2.2.2.2.2.2.2.2.2.2.2.2.2.2.2.2.2.2.2.2.2.2.2.2.2.2.2.2.2.2.2.2.2.2.2.2.2.1, x31.2.2.2.2.2.2.2.2.2.2.2.2.2.2.2.2.2.2.2.2.2.2.2.2.2.2.2.2.2.2.2.2.2.2.2.2.2.2.2.2.2.2.2.2.2.1, x31.2.2.2.2.2.2.2.2.2.2.2.2.2.2.2.2.2.2.2.2.2.2.2.2.2.2.2.2.2.2.2.2.2.2.2.2.2.2.2.2.2.2.2.2.2.2.1, x31.2.2.2.2.2.2.2.2.2.2.2.2.2.2.2.2.2.2.2.2.2.2.2.2.2.2.2.2.2.2.2.2.2.2.2.2.2.2.2.2.2.2.2.2.2.2.2.1, x31.2.2.2.2.2.2.2.2.2.2.2.2.2.2.2.2.2.2.2.2.2.2.2.2.2.2.2.2.2.2.2.2.2.2.2.2.2.2.2.2.2.2.2.2.2.2.2.2.1, x31.2.2.2.2.2.2.2.2.2.2.2.2.2.2.2.2.2.2.2.2.2.2.2.2.2.2.2.2.2.2.2.2.2.2.2.2.2.2.2.2.2.2.2.2.2.2.2.2.2.1, x31.2.2.2.2.2.2.2.2.2.2.2.2.2.2.2.2.2.2.2.2.2.2.2.2.2.2.2.2.2.2.2.2.2.2.2.2.2.2.2.2.2.2.2.2.2.2.2.2.2.2.1, x31.2.2.2.2.2.2.2.2.2.2.2.2.2.2.2.2.2.2.2.2.2.2.2.2.2.2.2.2.2.2.2.2.2.2.2.2.2.2.2.2.2.2.2.2.2.2.2.2.2.2.2.1, x31.2.2.2.2.2.2.2.2.2.2.2.2.2.2.2.2.2.2.2.2.2.2.2.2.2.2.2.2.2.2.2.2.2.2.2.2.2.2.2.2.2.2.2.2.2.2.2.2.2.2.2.2.1, x31.2.2.2.2.2.2.2.2.2.2.2.2.2.2.2.2.2.2.2.2.2.2.2.2.2.2.2.2.2.2.2.2.2.2.2.2.2.2.2.2.2.2.2.2.2.2.2.2.2.2.2.2.2.1, x31.2.2.2.2.2.2.2.2.2.2.2.2.2.2.2.2.2.2.2.2.2.2.2.2.2.2.2.2.2.2.2.2.2.2.2.2.2.2.2.2.2.2.2.2.2.2.2.2.2.2.2.2.2.2.1, x31.2.2.2.2.2.2.2.2.2.2.2.2.2.2.2.2.2.2.2.2.2.2.2.2.2.2.2.2.2.2.2.2.2.2.2.2.2.2.2.2.2.2.2.2.2.2.2.2.2.2.2.2.2.2.2.1, x31.2.2.2.2.2.2.2.2.2.2.2.2.2.2.2.2.2.2.2.2.2.2.2.2.2.2.2.2.2.2.2.2.2.2.2.2.2.2.2.2.2.2.2.2.2.2.2.2.2.2.2.2.2.2.2.2.1, x31.2.2.2.2.2.2.2.2.2.2.2.2.2.2.2.2.2.2.2.2.2.2.2.2.2.2.2.2.2.2.2.2.2.2.2.2.2.2.2.2.2.2.2.2.2.2.2.2.2.2.2.2.2.2.2.2.2.1, x31.2.2.2.2.2.2.2.2.2.2.2.2.2.2.2.2.2.2.2.2.2.2.2.2.2.2.2.2.2.2.2.2.2.2.2.2.2.2.2.2.2.2.2.2.2.2.2.2.2.2.2.2.2.2.2.2.2.2.1, x31.2.2.2.2.2.2.2.2.2.2.2.2.2.2.2.2.2.2.2.2.2.2.2.2.2.2.2.2.2.2.2.2.2.2.2.2.2.2.2.2.2.2.2.2.2.2.2.2.2.2.2.2.2.2.2.2.2.2.2.1, x31.2.2.2.2.2.2.2.2.2.2.2.2.2.2.2.2.2.2.2.2.2.2.2.2.2.2.2.2.2.2.2.2.2.2.2.2.2.2.2.2.2.2.2.2.2.2.2.2.2.2.2.2.2.2.2.2.2.2.2.2.1, x31.2.2.2.2.2.2.2.2.2.2.2.2.2.2.2.2.2.2.2.2.2.2.2.2.2.2.2.2.2.2.2.2.2.2.2.2.2.2.2.2.2.2.2.2.2.2.2.2.2.2.2.2.2.2.2.2.2.2.2.2.2.1, x31.2.2.2.2.2.2.2.2.2.2.2.2.2.2.2.2.2.2.2.2.2.2.2.2.2.2.2.2.2.2.2.2.2.2.2.2.2.2.2.2.2.2.2.2.2.2.2.2.2.2.2.2.2.2.2.2.2.2.2.2.2.2.1, x31.2.2.2.2.2.2.2.2.2.2.2.2.2.2.2.2.2.2.2.2.2.2.2.2.2.2.2.2.2.2.2.2.2.2.2.2.2.2.2.2.2.2.2.2.2.2.2.2.2.2.2.2.2.2.2.2.2.2.2.2.2.2.2.1, x31.2.2.2.2.2.2.2.2.2.2.2.2.2.2.2.2.2.2.2.2.2.2.2.2.2.2.2.2.2.2.2.2.2.2.2.2.2.2.2.2.2.2.2.2.2.2.2.2.2.2.2.2.2.2.2.2.2.2.2.2.2.2.2.2)))
noncomputable def oriellaw17_ScreenPlays (a0 : Int) (a1 : Int) (a2 : List K86d9.T) : Option (Bool) :=
  ((oriellaw17_known).bind fun x2 =>
    bif !x2 then
      some true
    else
      some false : Option (Bool)).bind fun x3 =>
  bif x3 then
    some false
  else
    ((oriellaw17_great a0 a1 a2).bind fun x5 =>
      bif x5 then
        some true
      else
        some false : Option (Bool)).bind fun x6 =>
    bif x6 then
      some true
    else
      (screen_New a0 a1).bind fun x7 =>
      ((orielref15_Side a0).bind fun x10 =>
        bif !x10 then
          some true
        else
          (orielref15_Side a1).bind fun x11 =>
          bif !x11 then
            some true
          else
            some false : Option (Bool)).bind fun x12 =>
      bif x12 then
        bif x7.2 == 2 then
          (orielref17_Same x7.1 (0, 0, [], [], 0, 0, false, (0, 0, 0), 0, 0, 0, ((0, 0, (0, 0, 0), false, false), 0, 0, (0, 0, 0), false, false), (0, 0, 0, 0), [])).bind fun x13 =>
          some x13
        else
          some false
      else
        (orielref17_New a0 a1).bind fun x14 =>
        (bif x7.2 != 0 then
            some true
          else
            (orielref17_Same x7.1 x14).bind fun x16 =>
            bif !x16 then
              some true
            else
              some false : Option (Bool)).bind fun x17 =>
        bif x17 then
          some false
        else
          (loopO (oriellaw17_ScreenPlays_loop1 a2) (0, x7.1.1, x7.1.2.1, x7.1.2.2.1, x7.1.2.2.2.1, x7.1.2.2.2.2.1, x7.1.2.2.2.2.2.1, x7.1.2.2.2.2.2.2.1, x7.1.2.2.2.2.2.2.2.1.1, x7.1.2.2.2.2.2.2.2.1.2.1, x7.1.2.2.2.2.2.2.2.1.2.2, x7.1.2.2.2.2.2.2.2.2.1, x7.1.2.2.2.2.2.2.2.2.2.1, x7.1.2.2.2.2.2.2.2.2.2.2.1, x7.1.2.2.2.2.2.2.2.2.2.2.2.1.1.1, x7.1.2.2.2.2.2.2.2.2.2.2.2.1.1.2.1, x7.1.2.2.2.2.2.2.2.2.2.2.2.1.1.2.2.1.1, x7.1.2.2.2.2.2.2.2.2.2.2.2.1.1.2.2.1.2.1, x7.1.2.2.2.2.2.2.2.2.2.2.2.1.1.2.2.1.2.2, x7.1.2.2.2.2.2.2.2.2.2.2.2.1.1.2.2.2.1, x7.1.2.2.2.2.2.2.2.2.2.2.2.1.1.2.2.2.2, x7.1.2.2.2.2.2.2.2.2.2.2.2.1.2.1, x7.1.2.2.2.2.2.2.2.2.2.2.2.1.2.2.1, x7.1.2.2.2.2.2.2.2.2.2.2.2.1.2.2.2.1.1, x7.1.2.2.2.2.2.2.2.2.2.2.2.1.2.2.2.1.2.1, x7.1.2.2.2.2.2.2.2.2.2.2.2.1.2.2.2.1.2.2, x7.1.2.2.2.2.2.2.2.2.2.2.2.1.2.2.2.2.1, x7.1.2.2.2.2.2.2.2.2.2.2.2.1.2.2.2.2.2, x7.1.2.2.2.2.2.2.2.2.2.2.2.2.1.1, x7.1.2.2.2.2.2.2.2.2.2.2.2.2.1.2.1, x7.1.2.2.2.2.2.2.2.2.2.2.2.2.1.2.2.1, x7.1.2.2.2.2.2.2.2.2.2.2.2.2.1.2.2.2, x7.1.2.2.2.2.2.2.2.2.2.2.2.2.2, x14.1, x14.2.1, x14.2.2.1, x14.2.2.2.1, x14.2.2.2.2.1, x14.2.2.2.2.2.1, x14.2.2.2.2.2.2.1, x14.2.2.2.2.2.2.2.1.1, x14.2.2.2.2.2.2.2.1.2.1, x14.2.2.2.2.2.2.2.1.2.2, x14.2.2.2.2.2.2.2.2.1, x14.2.2.2.2.2.2.2.2.2.1, x14.2.2.2.2.2.2.2.2.2.2.1, x14.2.2.2.2.2.2.2.2.2.2.2.1.1.1, x14.2.2.2.2.2.2.2.2.2.2.2.1.1.2.1, x14.2.2.2.2.2.2.2.2.2.2.2.1.1.2.2.1.1, x14.2.2.2.2.2.2.2.2.2.2.2.1.1.2.2.1.2.1, x14.2.2.2.2.2.2.2.2.2.2.2.1.1.2.2.1.2.2, x14.2.2.2.2.2.2.2.2.2.2.2.1.1.2.2.2.1, x14.2.2.2.2.2.2.2.2.2.2.2.1.1.2.2.2.2, x14.2.2.2.2.2.2.2.2.2.2.2.1.2.1, x14.2.2.2.2.2.2.2.2.2.2.2.1.2.2.1, x14.2.2.2.2.2.2.2.2.2.2.2.1.2.2.2.1.1, x14.2.2.2.2.2.2.2.2.2.2.2.1.2.2.2.1.2.1, x14.2.2.2.2.2.2.2.2.2.2.2.1.2.2.2.1.2.2, x14.2.2.2.2.2.2.2.2.2.2.2.1.2.2.2.2.1, x14.2.2.2.2.2.2.2.2.2.2.2.1.2.2.2.2.2, x14.2.2.2.2.2.2.2.2.2.2.2.2.1.1, x14.2.2.2.2.2.2.2.2.2.2.2.2.1.2.1, x14.2.2.2.2.2.2.2.2.2.2.2.2.1.2.2.1, x14.2.2.2.2.2.2.2.2.2.2.2.2.1.2.2.2, x14.2.2.2.2.2.2.2.2.2.2.2.2.2)).bind fun o => match o with
          | .inl x45 =>
            some false
          | .inr x46 =>
            some true
noncomputable def oriellaw17_great_e6a_loop1  (u : Unit) : Option (((Unit)) ⊕ (Unit)) :=
    some (.inl ())
noncomputable def oriellaw17_great_e6a (a0 : Int) (a1 : Int) : Option (Bool) :=
  (bif decide (a0 > 30) then
      bif decide (a0 ≤ 200) then
        some true
      else
        bif decide (a1 > 30) then
          bif decide (a1 ≤ 200) then
            some true
          else
            some false
        else
          some false
    else
      bif decide (a1 > 30) then
        bif decide (a1 ≤ 200) then
          some true
        else
          some false
      else
        some false : Option (Bool)).bind fun x1 =>
  bif x1 then
    some true
  else
    (loopO (oriellaw17_great_e6a_loop1) ()).bind fun _ =>
    some false
noncomputable def oriellaw17_wide_loop1 (a0 : List (List (Int × K72c5.T))) (x5 : Int) : Option (((Unit) ⊕ (Unit)) ⊕ (Int)) :=
    (bif decide (x5 < (a0.length : Int)) then
        some true
      else
        some false : Option (Bool)).bind fun x6 =>
    bif x6 then
      ((getI a0 x5).bind fun x8 =>
        bif decide ((x8.length : Int) > 30) then
          some true
        else
          some false : Option (Bool)).bind fun x9 =>
      bif x9 then
        some (.inl (.inl ()))
      else
        some (.inr (IntKind.i64.wrap (x5 + 1)))
    else
      some (.inl (.inr ()))
noncomputable def oriellaw17_wide (a0 : List (List (Int × K72c5.T))) : Option (Bool) :=
  (loopO (oriellaw17_wide_loop1 a0) 0).bind fun o => match o with
  | .inl _ =>
    some true
  | .inr _ =>
    some false
noncomputable def orielref15_Copy_loop1 (a0 : List (List (Int × K72c5.T))) (x3 : Int × (List (List (Int × K72c5.T)))) : Option ((((List (List (Int × K72c5.T))))) ⊕ (Int × (List (List (Int × K72c5.T))))) :=
    (bif decide (x3.1 < (a0.length : Int)) then
        some true
      else
        some false : Option (Bool)).bind fun x4 =>
    bif x4 then
      (getI a0 x3.1).bind fun x5 =>
      req ((([] : List (Int × K72c5.T)) ++ x5).length * 48 ≤ maxBy) <|
      req ((([] : List (Int × K72c5.T)) ++ x5).length = (([] : List (Int × K72c5.T)) ++ x5).length) <|
      req (x3.2.length = x3.2.length) <|
      req ((x3.2 ++ [([] : List (Int × K72c5.T)) ++ x5]).length * 24 ≤ maxBy) <|
      req ((x3.2 ++ [([] : List (Int × K72c5.T)) ++ x5]).length = (x3.2 ++ [([] : List (Int × K72c5.T)) ++ x5]).length) (some (.inr (IntKind.i64.wrap (x3.1 + 1), x3.2 ++ [([] : List (Int × K72c5.T)) ++ x5])))
    else
      req (x3.2.length = x3.2.length) (some (.inl x3.2))
noncomputable def orielref15_Copy (a0 : List (List (Int × K72c5.T))) : Option ((List (List (Int × K72c5.T)))) :=
  (loopO (orielref15_Copy_loop1 a0) (0, [])).bind fun x6 =>
  req (x6.length = x6.length) (some x6)
noncomputable def orielref17_Copy (a0 : Int × Int × K05d1.T) : Option ((Int × Int × K05d1.T)) :=
  (orielref15_Copy a0.2.2.1).bind fun x1 =>
  (orielref15_Copy a0.2.2.2.1).bind fun x2 =>
  req ((([] : List (Int)) ++ a0.2.2.2.2.2.2.2.2.2.2.2.2.2).length * 4 ≤ maxBy) <|
  req ((([] : List (Int)) ++ a0.2.2.2.2.2.2.2.2.2.2.2.2.2).length = (([] : List (Int)) ++ a0.2.2.2.2.2.2.2.2.2.2.2.2.2).length) <|
  some (a0.1, a0.2.1, x1, x2, a0.2.2.2.2.1, a0.2.2.2.2.2.1, a0.2.2.2.2.2.2.1, a0.2.2.2.2.2.2.2.1, a0.2.2.2.2.2.2.2.2.1, a0.2.2.2.2.2.2.2.2.2.1, a0.2.2.2.2.2.2.2.2.2.2.1, a0.2.2.2.2.2.2.2.2.2.2.2.1, a0.2.2.2.2.2.2.2.2.2.2.2.2.1, ([] : List (Int)) ++ a0.2.2.2.2.2.2.2.2.2.2.2.2.2)
noncomputable def slices_Equal_c00_loop1 (a0 : List (Int × K72c5.T)) (a1 : List (Int × K72c5.T)) (x8 : Int) : Option (((Unit) ⊕ (Unit)) ⊕ (Int)) :=
    (bif decide (x8 < (a0.length : Int)) then
        some true
      else
        some false : Option (Bool)).bind fun x9 =>
    bif x9 then
      ((getI a0 x8).bind fun x12 =>
        (getI a1 x8).bind fun x13 =>
        bif !((x12.1 == x13.1) && (((x12.2.1.1 == x13.2.1.1) && ((x12.2.1.2 == x13.2.1.2) && true)) && ((x12.2.2.1 == x13.2.2.1) && (((x12.2.2.2.1 == x13.2.2.2.1) && ((x12.2.2.2.2.1 == x13.2.2.2.2.1) && ((x12.2.2.2.2.2 == x13.2.2.2.2.2) && true))) && true)))) then
          some true
        else
          some false : Option (Bool)).bind fun x14 =>
      bif x14 then
        some (.inl (.inl ()))
      else
        some (.inr (IntKind.i64.wrap (x8 + 1)))
    else
      some (.inl (.inr ()))
noncomputable def slices_Equal_c00 (a0 : List (Int × K72c5.T)) (a1 : List (Int × K72c5.T)) : Option (Bool) :=
  (bif (a0.length : Int) != (a1.length : Int) then
      some true
    else
      some false : Option (Bool)).bind fun x1 =>
  bif x1 then
    some false
  else
    (loopO (slices_Equal_c00_loop1 a0 a1) 0).bind fun o => match o with
    | .inl _ =>
      some false
    | .inr _ =>
      some true
noncomputable def grid_Same_1 (a0 : List (Int × K72c5.T)) (a1 : List (Int × K72c5.T)) : Option (Bool) :=
  (slices_Equal_c00 a0 a1).bind fun x1 =>
  some x1
noncomputable def slices_EqualFunc_940_loop1 (a0 : List (List (Int × K72c5.T))) (a1 : List (List (Int × K72c5.T))) (x8 : Int) : Option (((Unit) ⊕ (Unit)) ⊕ (Int)) :=
    (bif decide (x8 < (a0.length : Int)) then
        some true
      else
        some false : Option (Bool)).bind fun x9 =>
    bif x9 then
      (getI a0 x8).bind fun x10 =>
      (getI a1 x8).bind fun x11 =>
      ((grid_Same_1 x10 x11).bind fun x13 =>
        bif !x13 then
          some true
        else
          some false : Option (Bool)).bind fun x14 =>
      bif x14 then
        some (.inl (.inl ()))
      else
        some (.inr (IntKind.i64.wrap (x8 + 1)))
    else
      some (.inl (.inr ()))
noncomputable def slices_EqualFunc_940 (a0 : List (List (Int × K72c5.T))) (a1 : List (List (Int × K72c5.T))) : Option (Bool) :=
  (bif (a0.length : Int) != (a1.length : Int) then
      some true
    else
      some false : Option (Bool)).bind fun x1 =>
  bif x1 then
    some false
  else
    (loopO (slices_EqualFunc_940_loop1 a0 a1) 0).bind fun o => match o with
    | .inl _ =>
      some false
    | .inr _ =>
      some true
noncomputable def grid_Same_loop1 (a0 : List (List (List (Int × K72c5.T)))) (x9 : Int) : Option (((Unit) ⊕ (Unit)) ⊕ (Int)) :=
    (bif decide (x9 < (a0.length : Int)) then
        some true
      else
        some false : Option (Bool)).bind fun x10 =>
    bif x10 then
      ((getI a0 0).bind fun x14 =>
        (getI a0 x9).bind fun x15 =>
        (slices_EqualFunc_940 x14 x15).bind fun x16 =>
        bif !x16 then
          some true
        else
          some false : Option (Bool)).bind fun x17 =>
      bif x17 then
        some (.inl (.inl ()))
      else
        some (.inr (IntKind.i64.wrap (x9 + 1)))
    else
      some (.inl (.inr ()))
noncomputable def grid_Same (a0 : List (List (List (Int × K72c5.T)))) : Option (Bool) :=
  (loopO (grid_Same_loop1 a0) 1).bind fun o => match o with
  | .inl _ =>
    some false
  | .inr _ =>
    some true
noncomputable def slices_Equal_e9e_loop1 (a0 : List Int) (a1 : List Int) (x8 : Int) : Option (((Unit) ⊕ (Unit)) ⊕ (Int)) :=
    (bif decide (x8 < (a0.length : Int)) then
        some true
      else
        some false : Option (Bool)).bind fun x9 =>
    bif x9 then
      ((getI a0 x8).bind fun x12 =>
        (getI a1 x8).bind fun x13 =>
        bif x12 != x13 then
          some true
        else
          some false : Option (Bool)).bind fun x14 =>
      bif x14 then
        some (.inl (.inl ()))
      else
        some (.inr (IntKind.i64.wrap (x8 + 1)))
    else
      some (.inl (.inr ()))
noncomputable def slices_Equal_e9e (a0 : List Int) (a1 : List Int) : Option (Bool) :=
  (bif (a0.length : Int) != (a1.length : Int) then
      some true
    else
      some false : Option (Bool)).bind fun x1 =>
  bif x1 then
    some false
  else
    (loopO (slices_Equal_e9e_loop1 a0 a1) 0).bind fun o => match o with
    | .inl _ =>
      some false
    | .inr _ =>
      some true
noncomputable def screen_Same (a0 : Int × Int × K05d1.T) (a1 : Int × Int × K05d1.T) : Option (Bool) :=
  ((grid_Same [a0.2.2.1, a1.2.2.1]).bind fun x4 =>
    bif !x4 then
      some true
    else
      (grid_Same [a0.2.2.2.1, a1.2.2.2.1]).bind fun x5 =>
      bif !x5 then
        some true
      else
        (slices_Equal_e9e a0.2.2.2.2.2.2.2.2.2.2.2.2.2 a1.2.2.2.2.2.2.2.2.2.2.2.2.2).bind fun x6 =>
        bif !x6 then
          some true
        else
          some false : Option (Bool)).bind fun x7 =>
  bif x7 then
    some false
  else
    bif a0.1 == a1.1 then
      bif a0.2.1 == a1.2.1 then
        bif a0.2.2.2.2.1 == a1.2.2.2.2.1 then
          bif a0.2.2.2.2.2.1 == a1.2.2.2.2.2.1 then
            bif (a0.2.2.2.2.2.2.1 == a1.2.2.2.2.2.2.1) then
              bif ((a0.2.2.2.2.2.2.2.1.1 == a1.2.2.2.2.2.2.2.1.1) && ((a0.2.2.2.2.2.2.2.1.2.1 == a1.2.2.2.2.2.2.2.1.2.1) && ((a0.2.2.2.2.2.2.2.1.2.2 == a1.2.2.2.2.2.2.2.1.2.2) && true))) then
                bif a0.2.2.2.2.2.2.2.2.1 == a1.2.2.2.2.2.2.2.2.1 then
                  bif a0.2.2.2.2.2.2.2.2.2.1 == a1.2.2.2.2.2.2.2.2.2.1 then
                    bif a0.2.2.2.2.2.2.2.2.2.2.1 == a1.2.2.2.2.2.2.2.2.2.2.1 then
                      bif (((a0.2.2.2.2.2.2.2.2.2.2.2.1.1.1 == a1.2.2.2.2.2.2.2.2.2.2.2.1.1.1) && ((a0.2.2.2.2.2.2.2.2.2.2.2.1.1.2.1 == a1.2.2.2.2.2.2.2.2.2.2.2.1.1.2.1) && (((a0.2.2.2.2.2.2.2.2.2.2.2.1.1.2.2.1.1 == a1.2.2.2.2.2.2.2.2.2.2.2.1.1.2.2.1.1) && ((a0.2.2.2.2.2.2.2.2.2.2.2.1.1.2.2.1.2.1 == a1.2.2.2.2.2.2.2.2.2.2.2.1.1.2.2.1.2.1) && ((a0.2.2.2.2.2.2.2.2.2.2.2.1.1.2.2.1.2.2 == a1.2.2.2.2.2.2.2.2.2.2.2.1.1.2.2.1.2.2) && true))) && ((a0.2.2.2.2.2.2.2.2.2.2.2.1.1.2.2.2.1 == a1.2.2.2.2.2.2.2.2.2.2.2.1.1.2.2.2.1) && ((a0.2.2.2.2.2.2.2.2.2.2.2.1.1.2.2.2.2 == a1.2.2.2.2.2.2.2.2.2.2.2.1.1.2.2.2.2) && true))))) && (((a0.2.2.2.2.2.2.2.2.2.2.2.1.2.1 == a1.2.2.2.2.2.2.2.2.2.2.2.1.2.1) && ((a0.2.2.2.2.2.2.2.2.2.2.2.1.2.2.1 == a1.2.2.2.2.2.2.2.2.2.2.2.1.2.2.1) && (((a0.2.2.2.2.2.2.2.2.2.2.2.1.2.2.2.1.1 == a1.2.2.2.2.2.2.2.2.2.2.2.1.2.2.2.1.1) && ((a0.2.2.2.2.2.2.2.2.2.2.2.1.2.2.2.1.2.1 == a1.2.2.2.2.2.2.2.2.2.2.2.1.2.2.2.1.2.1) && ((a0.2.2.2.2.2.2.2.2.2.2.2.1.2.2.2.1.2.2 == a1.2.2.2.2.2.2.2.2.2.2.2.1.2.2.2.1.2.2) && true))) && ((a0.2.2.2.2.2.2.2.2.2.2.2.1.2.2.2.2.1 == a1.2.2.2.2.2.2.2.2.2.2.2.1.2.2.2.2.1) && ((a0.2.2.2.2.2.2.2.2.2.2.2.1.2.2.2.2.2 == a1.2.2.2.2.2.2.2.2.2.2.2.1.2.2.2.2.2) && true))))) && true)) then
                        some ((a0.2.2.2.2.2.2.2.2.2.2.2.2.1.1 == a1.2.2.2.2.2.2.2.2.2.2.2.2.1.1) && ((a0.2.2.2.2.2.2.2.2.2.2.2.2.1.2.1 == a1.2.2.2.2.2.2.2.2.2.2.2.2.1.2.1) && ((a0.2.2.2.2.2.2.2.2.2.2.2.2.1.2.2.1 == a1.2.2.2.2.2.2.2.2.2.2.2.2.1.2.2.1) && ((a0.2.2.2.2.2.2.2.2.2.2.2.2.1.2.2.2 == a1.2.2.2.2.2.2.2.2.2.2.2.2.1.2.2.2) && true))))
                      else
                        some false
                    else
                      some false
                  else
                    some false
                else
                  some false
              else
                some false
            else
              some false
          else
            some false
        else
          some false
      else
        some false
    else
      some false
noncomputable def oriellaw17_ScreenAny (a0 : Int × Int × K05d1.T) (a1 : Int × Int × K05d1.T) (a2 : K86d9.T) : Option (Bool) :=
  ((oriellaw17_known).bind fun x2 =>
    bif !x2 then
      some true
    else
      some false : Option (Bool)).bind fun x3 =>
  bif x3 then
    some false
  else
    ((oriellaw17_great (a0.2.2.1.length : Int) 1 [a2]).bind fun x10 =>
      bif x10 then
        some true
      else
        (oriellaw17_great_e6a (a0.2.2.2.1.length : Int) 1).bind fun x11 =>
        bif x11 then
          some true
        else
          (oriellaw17_great_e6a (a1.2.2.1.length : Int) 1).bind fun x12 =>
          bif x12 then
            some true
          else
            bif decide ((a0.2.2.2.2.2.2.2.2.2.2.2.2.2.length : Int) > 100) then
              some true
            else
              (oriellaw17_wide a0.2.2.1).bind fun x13 =>
              bif x13 then
                some true
              else
                (oriellaw17_wide a0.2.2.2.1).bind fun x14 =>
                bif x14 then
                  some true
                else
                  (oriellaw17_wide a1.2.2.1).bind fun x15 =>
                  bif x15 then
                    some true
                  else
                    bif decide (a0.1 > 30) then
                      some true
                    else
                      bif decide (a0.2.1 > 30) then
                        some true
                      else
                        some false : Option (Bool)).bind fun x16 =>
    bif x16 then
      some true
    else
      (orielref17_Copy a0).bind fun x17 =>
      (screen_Do x17 [a2]).bind fun x18 =>
      ((screen_May a0).bind fun x25 =>
        (orielref17_May a0).bind fun x26 =>
        bif !(x25 == x26) then
          some true
        else
          (screen_Same a0 a1).bind fun x27 =>
          (orielref17_Same a0 a1).bind fun x28 =>
          bif !(x27 == x28) then
            some true
          else
            (screen_Same a0 x17).bind fun x29 =>
            bif !x29 then
              some true
            else
              (orielref17_Same x17 a0).bind fun x30 =>
              bif !x30 then
                some true
              else
                some false : Option (Bool)).bind fun x31 =>
      bif x31 then
        some false
      else
        ((orielref17_May a0).bind fun x33 =>
          bif !x33 then
            some true
          else
            some false : Option (Bool)).bind fun x34 =>
        bif x34 then
          (orielref17_Same x18 (0, 0, [], [], 0, 0, false, (0, 0, 0), 0, 0, 0, ((0, 0, (0, 0, 0), false, false), 0, 0, (0, 0, 0), false, false), (0, 0, 0, 0), [])).bind fun x35 =>
          some x35
        else
          (orielref17_One a0 a2).bind fun x36 =>
          (orielref17_Same x18 x36).bind fun x37 =>
          some x37
noncomputable def oriellaw17_typed_e6a_loop1  (u : Unit) : Option (((Unit)) ⊕ (Unit)) :=
    some (.inl ())
noncomputable def oriellaw17_typed_e6a (a0 : Int) (a1 : Int) : Option ((Int × Int × K05d1.T)) :=
  (screen_New a0 a1).bind fun x1 =>
  (bif x1.2 != 0 then
      some true
    else
      some false : Option (Bool)).bind fun x2 =>
  bif x2 then
    some (0, 0, [], [], 0, 0, false, (0, 0, 0), 0, 0, 0, ((0, 0, (0, 0, 0), false, false), 0, 0, (0, 0, 0), false, false), (0, 0, 0, 0), [])
  else
    (loopO (oriellaw17_typed_e6a_loop1) ()).bind fun _ =>
    some x1.1
noncomputable def oriellaw17_ScreenKnown  : Option (Bool) :=
  (screen_New 0 3).bind fun x1 =>
  (screen_New 3 201).bind fun x2 =>
  (screen_New 200 1).bind fun x3 =>
  (oriellaw17_typed_e6a 2 3).bind fun x4 =>
  (screen_Do x4 [(5, 9, 9, 0, [], [])]).bind fun x5 =>
  (screen_Do x5 [(6, (-1), (-1), 0, [], [])]).bind fun x6 =>
  bif x1.2 == 2 then
    bif x2.2 == 2 then
      bif x3.2 == 0 then
        bif (x3.1.2.2.1.length : Int) == 200 then
          (oriellaw17_shows x5 1 2 false [[], []]).bind fun x7 =>
          bif x7 then
            (oriellaw17_shows x6 0 1 false [[], []]).bind fun x8 =>
            bif x8 then
              (oriellaw17_known).bind fun x9 =>
              some x9
            else
              some false
          else
            some false
        else
          some false
      else
        some false
    else
      some false
  else
    some false
noncomputable def oriellaw17_ScreenPrints_loop1 (a4 : List UInt8) (x11 : Int × Int × Int × (List (List (Int × K72c5.T))) × (List (List (Int × K72c5.T))) × Int × Int × Bool × Int × Int × Int × Int × Int × Int × Int × Int × Int × Int × Int × Bool × Bool × Int × Int × Int × Int × Int × Bool × Bool × Int × Int × Int × Int × List Int) : Option (((Int × Int × (List (List (Int × K72c5.T))) × (List (List (Int × K72c5.T))) × Int × Int × Bool × Int × Int × Int × Int × Int × Int × Int × Int × Int × Int × Int × Bool × Bool × Int × Int × Int × Int × Int × Bool × Bool × Int × Int × Int × Int × List Int)) ⊕ (Int × Int × Int × (List (List (Int × K72c5.T))) × (List (List (Int × K72c5.T))) × Int × Int × Bool × Int × Int × Int × Int × Int × Int × Int × Int × Int × Int × Int × Bool × Bool × Int × Int × Int × Int × Int × Bool × Bool × Int × Int × Int × Int × List Int)) :=
    (bif decide (x11.1 < (a4.length : Int)) then
        some true
      else
        some false : Option (Bool)).bind fun x12 =>
    bif x12 then
      (getI a4 x11.1).bind fun x13 =>
      (screen_Do (x11.2.1, x11.2.2.1, x11.2.2.2.1, x11.2.2.2.2.1, x11.2.2.2.2.2.1, x11.2.2.2.2.2.2.1, x11.2.2.2.2.2.2.2.1, (x11.2.2.2.2.2.2.2.2.1, x11.2.2.2.2.2.2.2.2.2.1, x11.2.2.2.2.2.2.2.2.2.2.1), x11.2.2.2.2.2.2.2.2.2.2.2.1, x11.2.2.2.2.2.2.2.2.2.2.2.2.1, x11.2.2.2.2.2.2.2.2.2.2.2.2.2.1, ((x11.2.2.2.2.2.2.2.2.2.2.2.2.2.2.1, x11.2.2.2.2.2.2.2.2.2.2.2.2.2.2.2.1, (x11.2.2.2.2.2.2.2.2.2.2.2.2.2.2.2.2.1, x11.2.2.2.2.2.2.2.2.2.2.2.2.2.2.2.2.2.1, x11.2.2.2.2.2.2.2.2.2.2.2.2.2.2.2.2.2.2.1), x11.2.2.2.2.2.2.2.2.2.2.2.2.2.2.2.2.2.2.2.1, x11.2.2.2.2.2.2.2.2.2.2.2.2.2.2.2.2.2.2.2.2.1), x11.2.2.2.2.2.2.2.2.2.2.2.2.2.2.2.2.2.2.2.2.2.1, x11.2.2.2.2.2.2.2.2.2.2.2.2.2.2.2.2.2.2.2.2.2.2.1, (x11.2.2.2.2.2.2.2.2.2.2.2.2.2.2.2.2.2.2.2.2.2.2.2.1, x11.2.2.2.2.2.2.2.2.2.2.2.2.2.2.2.2.2.2.2.2.2.2.2.2.1, x11.2.2.2.2.2.2.2.2.2.2.2.2.2.2.2.2.2.2.2.2.2.2.2.2.2.1), x11.2.2.2.2.2.2.2.2.2.2.2.2.2.2.2.2.2.2.2.2.2.2.2.2.2.2.1, x11.2.2.2.2.2.2.2.2.2.2.2.2.2.2.2.2.2.2.2.2.2.2.2.2.2.2.2.1), (x11.2.2.2.2.2.2.2.2.2.2.2.2.2.2.2.2.2.2.2.2.2.2.2.2.2.2.2.2.1, x11.2.2.2.2.2.2.2.2.2.2.2.2.2.2.2.2.2.2.2.2.2.2.2.2.2.2.2.2.2.1, x11.2.2.2.2.2.2.2.2.2.2.2.2.2.2.2.2.2.2.2.2.2.2.2.2.2.2.2.2.2.2.1, x11.2.2.2.2.2.2.2.2.2.2.2.2.2.2.2.2.2.2.2.2.2.2.2.2.2.2.2.2.2.2.2.1), x11.2.2.2.2.2.2.2.2.2.2.2.2.2.2.2.2.2.2.2.2.2.2.2.2.2.2.2.2.2.2.2.2) [(1, 0, 0, IntKind.i32.wrap ((UInt8.ofInt (IntKind.u8.wrap ((97 : Int) + ((UInt8.ofInt (Int.tmod (x13.toNat : Int) 26)).toNat : Int)))).toNat : Int), [], [])]).bind fun x14 =>
      some (.inr (IntKind.i64.wrap (x11.1 + 1), x14.1, x14.2.1, x14.2.2.1, x14.2.2.2.1, x14.2.2.2.2.1, x14.2.2.2.2.2.1, x14.2.2.2.2.2.2.1, x14.2.2.2.2.2.2.2.1.1, x14.2.2.2.2.2.2.2.1.2.1, x14.2.2.2.2.2.2.2.1.2.2, x14.2.2.2.2.2.2.2.2.1, x14.2.2.2.2.2.2.2.2.2.1, x14.2.2.2.2.2.2.2.2.2.2.1, x14.2.2.2.2.2.2.2.2.2.2.2.1.1.1, x14.2.2.2.2.2.2.2.2.2.2.2.1.1.2.1, x14.2.2.2.2.2.2.2.2.2.2.2.1.1.2.2.1.1, x14.2.2.2.2.2.2.2.2.2.2.2.1.1.2.2.1.2.1, x14.2.2.2.2.2.2.2.2.2.2.2.1.1.2.2.1.2.2, x14.2.2.2.2.2.2.2.2.2.2.2.1.1.2.2.2.1, x14.2.2.2.2.2.2.2.2.2.2.2.1.1.2.2.2.2, x14.2.2.2.2.2.2.2.2.2.2.2.1.2.1, x14.2.2.2.2.2.2.2.2.2.2.2.1.2.2.1, x14.2.2.2.2.2.2.2.2.2.2.2.1.2.2.2.1.1, x14.2.2.2.2.2.2.2.2.2.2.2.1.2.2.2.1.2.1, x14.2.2.2.2.2.2.2.2.2.2.2.1.2.2.2.1.2.2, x14.2.2.2.2.2.2.2.2.2.2.2.1.2.2.2.2.1, x14.2.2.2.2.2.2.2.2.2.2.2.1.2.2.2.2.2, x14.2.2.2.2.2.2.2.2.2.2.2.2.1.1, x14.2.2.2.2.2.2.2.2.2.2.2.2.1.2.1, x14.2.2.2.2.2.2.2.2.2.2.2.2.1.2.2.1, x14.2.2.2.2.2.2.2.2.2.2.2.2.1.2.2.2, x14.2.2.2.2.2.2.2.2.2.2.2.2.2))
    else
      some (.inl (x11.2.1, x11.2.2.1, x11.2.2.2.1, x11.2.2.2.2.1, x11.2.2.2.2.2.1, x11.2.2.2.2.2.2.1, x11.2.2.2.2.2.2.2.1, x11.2.2.2.2.2.2.2.2.1, x11.2.2.2.2.2.2.2.2.2.1, x11.2.2.2.2.2.2.2.2.2.2.1, x11.2.2.2.2.2.2.2.2.2.2.2.1, x11.2.2.2.2.2.2.2.2.2.2.2.2.1, x11.2.2.2.2.2.2.2.2.2.2.2.2.2.1, x11.2.2.2.2.2.2.2.2.2.2.2.2.2.2.1, x11.2.2.2.2.2.2.2.2.2.2.2.2.2.2.2.1, x11.2.2.2.2.2.2.2.2.2.2.2.2.2.2.2.2.1, x11.2.2.2.2.2.2.2.2.2.2.2.2.2.2.2.2.2.1, x11.2.2.2.2.2.2.2.2.2.2.2.2.2.2.2.2.2.2.1, x11.2.2.2.2.2.2.2.2.2.2.2.2.2.2.2.2.2.2.2.1, x11.2.2.2.2.2.2.2.2.2.2.2.2.2.2.2.2.2.2.2.2.1, x11.2.2.2.2.2.2.2.2.2.2.2.2.2.2.2.2.2.2.2.2.2.1, x11.2.2.2.2.2.2.2.2.2.2.2.2.2.2.2.2.2.2.2.2.2.2.1, x11.2.2.2.2.2.2.2.2.2.2.2.2.2.2.2.2.2.2.2.2.2.2.2.1, x11.2.2.2.2.2.2.2.2.2.2.2.2.2.2.2.2.2.2.2.2.2.2.2.2.1, x11.2.2.2.2.2.2.2.2.2.2.2.2.2.2.2.2.2.2.2.2.2.2.2.2.2.1, x11.2.2.2.2.2.2.2.2.2.2.2.2.2.2.2.2.2.2.2.2.2.2.2.2.2.2.1, x11.2.2.2.2.2.2.2.2.2.2.2.2.2.2.2.2.2.2.2.2.2.2.2.2.2.2.2.1, x11.2.2.2.2.2.2.2.2.2.2.2.2.2.2.2.2.2.2.2.2.2.2.2.2.2.2.2.2.1, x11.2.2.2.2.2.2.2.2.2.2.2.2.2.2.2.2.2.2.2.2.2.2.2.2.2.2.2.2.2.1, x11.2.2.2.2.2.2.2.2.2.2.2.2.2.2.2.2.2.2.2.2.2.2.2.2.2.2.2.2.2.2.1, x11.2.2.2.2.2.2.2.2.2.2.2.2.2.2.2.2.2.2.2.2.2.2.2.2.2.2.2.2.2.2.2.1, x11.2.2.2.2.2.2.2.2.2.2.2.2.2.2.2.2.2.2.2.2.2.2.2.2.2.2.2.2.2.2.2.2))
noncomputable def oriellaw17_ScreenPrints_loop3 (a1 : Int) (x45 : Int) (a2 : Int) (a3 : Int) (a4 : List UInt8) (a5 : K92a5.T) (x15 : Int × Int × (List (List (Int × K72c5.T))) × (List (List (Int × K72c5.T))) × Int × Int × Bool × Int × Int × Int × Int × Int × Int × Int × Int × Int × Int × Int × Bool × Bool × Int × Int × Int × Int × Int × Bool × Bool × Int × Int × Int × Int × List Int) (x60 : Int) : Option (((Unit) ⊕ (Unit)) ⊕ (Int)) :=
    (bif decide (x60 < a1) then
        some true
      else
        some false : Option (Bool)).bind fun x61 =>
    bif x61 then
      ((bif x45 == a2 then
            bif decide (x60 ≥ a3) then
              bif decide (x60 < (IntKind.i64.wrap (a3 + (a4.length : Int)))) then
                some true
              else
                some false
            else
              some false
          else
            some false : Option (Bool)).bind fun x64 =>
        bif x64 then
          (getI a4 (IntKind.i64.wrap (x60 - a3))).bind fun x65 =>
          some (IntKind.i32.wrap ((UInt8.ofInt (IntKind.u8.wrap ((97 : Int) + ((UInt8.ofInt (Int.tmod (x65.toNat : Int) 26)).toNat : Int)))).toNat : Int), a5.1, a5.2.1, a5.2.2)
        else
          some (32, 0, 0, 0) : Option (Int × Int × Int × Int)).bind fun x66 =>
      ((getI x15.2.2.1 x45).bind fun x70 =>
        bif (x70.length : Int) != a1 then
          some true
        else
          (getI x15.2.2.1 x45).bind fun x71 =>
          (getI x71 x60).bind fun x72 =>
          bif !((x72.1 == x66.1) && (((x72.2.1.1 == 0) && ((x72.2.1.2 == 0) && true)) && ((x72.2.2.1 == 0) && (((x72.2.2.2.1 == x66.2.1) && ((x72.2.2.2.2.1 == x66.2.2.1) && ((x72.2.2.2.2.2 == x66.2.2.2) && true))) && true)))) then
            some true
          else
            some false : Option (Bool)).bind fun x73 =>
      bif x73 then
        some (.inl (.inl ()))
      else
        some (.inr (IntKind.i64.wrap (x60 + 1)))
    else
      some (.inl (.inr ()))
noncomputable def oriellaw17_ScreenPrints_loop2 (a0 : Int) (a1 : Int) (a2 : Int) (a3 : Int) (a4 : List UInt8) (a5 : K92a5.T) (x15 : Int × Int × (List (List (Int × K72c5.T))) × (List (List (Int × K72c5.T))) × Int × Int × Bool × Int × Int × Int × Int × Int × Int × Int × Int × Int × Int × Int × Bool × Bool × Int × Int × Int × Int × Int × Bool × Bool × Int × Int × Int × Int × List Int) (x45 : Int) : Option (((Unit) ⊕ (Unit)) ⊕ (Int)) :=
    (bif decide (x45 < a0) then
        some true
      else
        some false : Option (Bool)).bind fun x46 =>
    bif x46 then
      (loopO (oriellaw17_ScreenPrints_loop3 a1 x45 a2 a3 a4 a5 x15) 0).bind fun o => match o with
      | .inl _ =>
        some (.inl (.inl ()))
      | .inr _ =>
        some (.inr (IntKind.i64.wrap (x45 + 1)))
    else
      some (.inl (.inr ()))
noncomputable def oriellaw17_ScreenPrints (a0 : Int) (a1 : Int) (a2 : Int) (a3 : Int) (a4 : List UInt8) (a5 : K92a5.T) : Option (Bool) :=
  ((oriellaw17_known).bind fun x2 =>
    bif !x2 then
      some true
    else
      some false : Option (Bool)).bind fun x3 =>
  bif x3 then
    some false
  else
    (bif decide (a0 < 1) then
        some true
      else
        bif decide (a0 > 30) then
          some true
        else
          bif decide (a1 < 1) then
            some true
          else
            bif decide (a1 > 30) then
              some true
            else
              bif decide (a2 < 0) then
                some true
              else
                bif decide (a2 ≥ a0) then
                  some true
                else
                  bif decide (a3 < 0) then
                    some true
                  else
                    bif decide (a3 ≥ a1) then
                      some true
                    else
                      bif decide ((a4.length : Int) ≥ (IntKind.i64.wrap (a1 - a3))) then
                        some true
                      else
                        bif decide (a5.1 < 0) then
                          some true
                        else
                          bif decide (a5.1 > 255) then
                            some true
                          else
                            bif decide (a5.2.1 < 0) then
                              some true
                            else
                              bif decide (a5.2.1 > 256) then
                                some true
                              else
                                bif decide (a5.2.2 < 0) then
                                  some true
                                else
                                  bif decide (a5.2.2 > 256) then
                                    some true
                                  else
                                    some false : Option (Bool)).bind fun x4 =>
    bif x4 then
      some true
    else
      (screen_New a0 a1).bind fun x5 =>
      (bif x5.2 != 0 then
          some true
        else
          some false : Option (Bool)).bind fun x6 =>
      bif x6 then
        some false
      else
        (screen_Do (x5.1.1, x5.1.2.1, x5.1.2.2.1, x5.1.2.2.2.1, x5.1.2.2.2.2.1, x5.1.2.2.2.2.2.1, x5.1.2.2.2.2.2.2.1, a5, x5.1.2.2.2.2.2.2.2.2) [(5, a2, a3, 0, [], [])]).bind fun x7 =>
        (loopO (oriellaw17_ScreenPrints_loop1 a4) (0, x7.1, x7.2.1, x7.2.2.1, x7.2.2.2.1, x7.2.2.2.2.1, x7.2.2.2.2.2.1, x7.2.2.2.2.2.2.1, x7.2.2.2.2.2.2.2.1.1, x7.2.2.2.2.2.2.2.1.2.1, x7.2.2.2.2.2.2.2.1.2.2, x7.2.2.2.2.2.2.2.2.1, x7.2.2.2.2.2.2.2.2.2.1, x7.2.2.2.2.2.2.2.2.2.2.1, x7.2.2.2.2.2.2.2.2.2.2.2.1.1.1, x7.2.2.2.2.2.2.2.2.2.2.2.1.1.2.1, x7.2.2.2.2.2.2.2.2.2.2.2.1.1.2.2.1.1, x7.2.2.2.2.2.2.2.2.2.2.2.1.1.2.2.1.2.1, x7.2.2.2.2.2.2.2.2.2.2.2.1.1.2.2.1.2.2, x7.2.2.2.2.2.2.2.2.2.2.2.1.1.2.2.2.1, x7.2.2.2.2.2.2.2.2.2.2.2.1.1.2.2.2.2, x7.2.2.2.2.2.2.2.2.2.2.2.1.2.1, x7.2.2.2.2.2.2.2.2.2.2.2.1.2.2.1, x7.2.2.2.2.2.2.2.2.2.2.2.1.2.2.2.1.1, x7.2.2.2.2.2.2.2.2.2.2.2.1.2.2.2.1.2.1, x7.2.2.2.2.2.2.2.2.2.2.2.1.2.2.2.1.2.2, x7.2.2.2.2.2.2.2.2.2.2.2.1.2.2.2.2.1, x7.2.2.2.2.2.2.2.2.2.2.2.1.2.2.2.2.2, x7.2.2.2.2.2.2.2.2.2.2.2.2.1.1, x7.2.2.2.2.2.2.2.2.2.2.2.2.1.2.1, x7.2.2.2.2.2.2.2.2.2.2.2.2.1.2.2.1, x7.2.2.2.2.2.2.2.2.2.2.2.2.1.2.2.2, x7.2.2.2.2.2.2.2.2.2.2.2.2.2)).bind fun x15 =>
        (bif x15.2.2.2.2.1 != a2 then
            some true
          else
            bif x15.2.2.2.2.2.1 != (IntKind.i64.wrap (a3 + (a4.length : Int))) then
              some true
            else
              bif x15.2.2.2.2.2.2.1 then
                some true
              else
                bif (x15.2.2.1.length : Int) != a0 then
                  some true
                else
                  some false : Option (Bool)).bind fun x16 =>
        bif x16 then
          some false
        else
          (loopO (oriellaw17_ScreenPrints_loop2 a0 a1 a2 a3 a4 a5 x15) 0).bind fun o => match o with
          | .inl _ =>
            some false
          | .inr _ =>
            some true
noncomputable def grid_Blank_loop1 (a0 : Int) (a1 : Int) (a2 : K92a5.T) (x11 : Int × (List (List (Int × K72c5.T)))) : Option ((((List (List (Int × K72c5.T))))) ⊕ (Int × (List (List (Int × K72c5.T))))) :=
    (bif decide (x11.1 < ((a0.toNat : Nat) : Int)) then
        some true
      else
        some false : Option (Bool)).bind fun x12 =>
    bif x12 then
      (line_Blank a1 a2).bind fun x13 =>
      req (0 ≤ x11.1 ∧ x11.1 < ((a0.toNat : Nat) : Int)) <|
      (x11.2[x11.1.toNat]?).bind fun x14 =>
      some (.inr (IntKind.i64.wrap (x11.1 + 1), x11.2.set x11.1.toNat x13))
    else
      some (.inl x11.2)
noncomputable def grid_Blank (a0 : Int) (a1 : Int) (a2 : K92a5.T) : Option ((List (List (Int × K72c5.T)))) :=
  ((grid_side a0).bind fun x4 =>
    bif !x4 then
      some true
    else
      (grid_side a1).bind fun x5 =>
      bif !x5 then
        some true
      else
        (pen_May a2).bind fun x6 =>
        bif !x6 then
          some true
        else
          some false : Option (Bool)).bind fun x7 =>
  bif x7 then
    some ([] : List (List (Int × K72c5.T)))
  else
    req (0 ≤ a0 ∧ a0 ≤ a0 ∧ a0.toNat * 24 ≤ maxBy) <|
    (loopO (grid_Blank_loop1 a0 a1 a2) (0, (List.replicate a0.toNat [] : List (List (Int × K72c5.T))))).bind fun x15 =>
    req (a0.toNat = x15.length) (some x15)
noncomputable def oriellaw17_ScreenClears (a0 : Int) (a1 : Int) (a2 : List K86d9.T) : Option (Bool) :=
  ((oriellaw17_known).bind fun x2 =>
    bif !x2 then
      some true
    else
      some false : Option (Bool)).bind fun x3 =>
  bif x3 then
    some false
  else
    (bif decide (a0 < 1) then
        some true
      else
        bif decide (a0 > 20) then
          some true
        else
          bif decide (a1 < 1) then
            some true
          else
            bif decide (a1 > 20) then
              some true
            else
              bif decide ((a2.length : Int) > 40) then
                some true
              else
                (oriellaw17_great a0 a1 a2).bind fun x5 =>
                bif x5 then
                  some true
                else
                  some false : Option (Bool)).bind fun x6 =>
    bif x6 then
      some true
    else
      (screen_New a0 a1).bind fun x7 =>
      (bif x7.2 != 0 then
          some true
        else
          some false : Option (Bool)).bind fun x8 =>
      bif x8 then
        some false
      else
        (screen_Do x7.1 a2).bind fun x9 =>
        (screen_Do x9 [(12, 2, 0, 0, [], [])]).bind fun x10 =>
        (grid_Blank x9.1 x9.2.1 x9.2.2.2.2.2.2.2.1).bind fun x11 =>
        (grid_Same [x10.2.2.1, x11]).bind fun x12 =>
        bif x12 then
          bif x10.2.2.2.2.1 == x9.2.2.2.2.1 then
            bif x10.2.2.2.2.2.1 == x9.2.2.2.2.2.1 then
              bif ((x10.2.2.2.2.2.2.2.1.1 == x9.2.2.2.2.2.2.2.1.1) && ((x10.2.2.2.2.2.2.2.1.2.1 == x9.2.2.2.2.2.2.2.1.2.1) && ((x10.2.2.2.2.2.2.2.1.2.2 == x9.2.2.2.2.2.2.2.1.2.2) && true))) then
                bif x10.2.2.2.2.2.2.2.2.1 == x9.2.2.2.2.2.2.2.2.1 then
                  bif x10.2.2.2.2.2.2.2.2.2.1 == x9.2.2.2.2.2.2.2.2.2.1 then
                    some (x10.2.2.2.2.2.2.2.2.2.2.1 == x9.2.2.2.2.2.2.2.2.2.2.1)
                  else
                    some false
                else
                  some false
              else
                some false
            else
              some false
          else
            some false
        else
          some false
noncomputable def oriellaw17_ScreenWhole_loop1 (a2 : List K86d9.T) (x22 : Int × Int × Int × Int × Int × (List (List (Int × K72c5.T))) × (List (List (Int × K72c5.T))) × Int × Int × Bool × Int × Int × Int × Int × Int × Int × Int × Int × Int × Int × Int × Bool × Bool × Int × Int × Int × Int × Int × Bool × Bool × Int × Int × Int × Int × List Int) : Option (((Int × Int × (List (List (Int × K72c5.T))) × (List (List (Int × K72c5.T))) × Int × Int × Bool × Int × Int × Int × Int × Int × Int × Int × Int × Int × Int × Int × Bool × Bool × Int × Int × Int × Int × Int × Bool × Bool × Int × Int × Int × Int × List Int) ⊕ (Int × Int × (List (List (Int × K72c5.T))) × (List (List (Int × K72c5.T))) × Int × Int × Bool × Int × Int × Int × Int × Int × Int × Int × Int × Int × Int × Int × Bool × Bool × Int × Int × Int × Int × Int × Bool × Bool × Int × Int × Int × Int × List Int)) ⊕ (Int × Int × Int × Int × Int × (List (List (Int × K72c5.T))) × (List (List (Int × K72c5.T))) × Int × Int × Bool × Int × Int × Int × Int × Int × Int × Int × Int × Int × Int × Int × Bool × Bool × Int × Int × Int × Int × Int × Bool × Bool × Int × Int × Int × Int × List Int)) :=
    (bif decide (x22.2.2.1 < (a2.length : Int)) then
        some true
      else
        some false : Option (Bool)).bind fun x23 =>
    bif x23 then
      (getI a2 x22.2.2.1).bind fun x24 =>
      (screen_Do (x22.2.2.2.1, x22.2.2.2.2.1, x22.2.2.2.2.2.1, x22.2.2.2.2.2.2.1, x22.2.2.2.2.2.2.2.1, x22.2.2.2.2.2.2.2.2.1, x22.2.2.2.2.2.2.2.2.2.1, (x22.2.2.2.2.2.2.2.2.2.2.1, x22.2.2.2.2.2.2.2.2.2.2.2.1, x22.2.2.2.2.2.2.2.2.2.2.2.2.1), x22.2.2.2.2.2.2.2.2.2.2.2.2.2.1, x22.2.2.2.2.2.2.2.2.2.2.2.2.2.2.1, x22.2.2.2.2.2.2.2.2.2.2.2.2.2.2.2.1, ((x22.2.2.2.2.2.2.2.2.2.2.2.2.2.2.2.2.1, x22.2.2.2.2.2.2.2.2.2.2.2.2.2.2.2.2.2.1, (x22.2.2.2.2.2.2.2.2.2.2.2.2.2.2.2.2.2.2.1, x22.2.2.2.2.2.2.2.2.2.2.2.2.2.2.2.2.2.2.2.1, x22.2.2.2.2.2.2.2.2.2.2.2.2.2.2.2.2.2.2.2.2.1), x22.2.2.2.2.2.2.2.2.2.2.2.2.2.2.2.2.2.2.2.2.2.1, x22.2.2.2.2.2.2.2.2.2.2.2.2.2.2.2.2.2.2.2.2.2.2.1), x22.2.2.2.2.2.2.2.2.2.2.2.2.2.2.2.2.2.2.2.2.2.2.2.1, x22.2.2.2.2.2.2.2.2.2.2.2.2.2.2.2.2.2.2.2.2.2.2.2.2.1, (x22.2.2.2.2.2.2.2.2.2.2.2.2.2.2.2.2.2.2.2.2.2.2.2.2.2.1, x22.2.2.2.2.2.2.2.2.2.2.2.2.2.2.2.2.2.2.2.2.2.2.2.2.2.2.1, x22.2.2.2.2.2.2.2.2.2.2.2.2.2.2.2.2.2.2.2.2.2.2.2.2.2.2.2.1), x22.2.2.2.2.2.2.2.2.2.2.2.2.2.2.2.2.2.2.2.2.2.2.2.2.2.2.2.2.1, x22.2.2.2.2.2.2.2.2.2.2.2.2.2.2.2.2.2.2.2.2.2.2.2.2.2.2.2.2.2.1), (x22.2.2.2.2.2.2.2.2.2.2.2.2.2.2.2.2.2.2.2.2.2.2.2.2.2.2.2.2.2.2.1, x22.2.2.2.2.2.2.2.2.2.2.2.2.2.2.2.2.2.2.2.2.2.2.2.2.2.2.2.2.2.2.2.1, x22.2.2.2.2.2.2.2.2.2.2.2.2.2.2.2.2.2.2.2.2.2.2.2.2.2.2.2.2.2.2.2.2.1, x22.2.2.2.2.2.2.2.2.2.2.2.2.2.2.2.2.2.2.2.2.2.2.2.2.2.2.2.2.2.2.2.2.2.1), x22.2.2.2.2.2.2.2.2.2.2.2.2.2.2.2.2.2.2.2.2.2.2.2.2.2.2.2.2.2.2.2.2.2.2) [x24]).bind fun x25 =>
      (((getI a2 x22.2.2.1).bind fun x30 =>
          bif x30.1 == 27 then
            some true
          else
            some false : Option (Bool)).bind fun x31 =>
        bif x31 then
          some (x25.1, x25.2.1)
        else
          some (x22.1, x22.2.1) : Option (Int × Int)).bind fun x32 =>
      ((screen_May x25).bind fun x34 =>
        bif !x34 then
          some true
        else
          bif x25.1 != x32.1 then
            some true
          else
            bif x25.2.1 != x32.2 then
              some true
            else
              bif decide (x32.1 < 1) then
                some true
              else
                bif decide (x32.2 < 1) then
                  some true
                else
                  some false : Option (Bool)).bind fun x35 =>
      bif x35 then
        some (.inl (.inl (x25.1, x25.2.1, x25.2.2.1, x25.2.2.2.1, x25.2.2.2.2.1, x25.2.2.2.2.2.1, x25.2.2.2.2.2.2.1, x25.2.2.2.2.2.2.2.1.1, x25.2.2.2.2.2.2.2.1.2.1, x25.2.2.2.2.2.2.2.1.2.2, x25.2.2.2.2.2.2.2.2.1, x25.2.2.2.2.2.2.2.2.2.1, x25.2.2.2.2.2.2.2.2.2.2.1, x25.2.2.2.2.2.2.2.2.2.2.2.1.1.1, x25.2.2.2.2.2.2.2.2.2.2.2.1.1.2.1, x25.2.2.2.2.2.2.2.2.2.2.2.1.1.2.2.1.1, x25.2.2.2.2.2.2.2.2.2.2.2.1.1.2.2.1.2.1, x25.2.2.2.2.2.2.2.2.2.2.2.1.1.2.2.1.2.2, x25.2.2.2.2.2.2.2.2.2.2.2.1.1.2.2.2.1, x25.2.2.2.2.2.2.2.2.2.2.2.1.1.2.2.2.2, x25.2.2.2.2.2.2.2.2.2.2.2.1.2.1, x25.2.2.2.2.2.2.2.2.2.2.2.1.2.2.1, x25.2.2.2.2.2.2.2.2.2.2.2.1.2.2.2.1.1, x25.2.2.2.2.2.2.2.2.2.2.2.1.2.2.2.1.2.1, x25.2.2.2.2.2.2.2.2.2.2.2.1.2.2.2.1.2.2, x25.2.2.2.2.2.2.2.2.2.2.2.1.2.2.2.2.1, x25.2.2.2.2.2.2.2.2.2.2.2.1.2.2.2.2.2, x25.2.2.2.2.2.2.2.2.2.2.2.2.1.1, x25.2.2.2.2.2.2.2.2.2.2.2.2.1.2.1, x25.2.2.2.2.2.2.2.2.2.2.2.2.1.2.2.1, x25.2.2.2.2.2.2.2.2.2.2.2.2.1.2.2.2, x25.2.2.2.2.2.2.2.2.2.2.2.2.2)))
      else
        some (.inr (x32.1, x32.2, IntKind.i64.wrap (x22.2.2.1 + 1), x25.1, x25.2.1, x25.2.2.1, x25.2.2.2.1, x25.2.2.2.2.1, x25.2.2.2.2.2.1, x25.2.2.2.2.2.2.1, x25.2.2.2.2.2.2.2.1.1, x25.2.2.2.2.2.2.2.1.2.1, x25.2.2.2.2.2.2.2.1.2.2, x25.2.2.2.2.2.2.2.2.1, x25.2.2.2.2.2.2.2.2.2.1, x25.2.2.2.2.2.2.2.2.2.2.1, x25.2.2.2.2.2.2.2.2.2.2.2.1.1.1, x25.2.2.2.2.2.2.2.2.2.2.2.1.1.2.1, x25.2.2.2.2.2.2.2.2.2.2.2.1.1.2.2.1.1, x25.2.2.2.2.2.2.2.2.2.2.2.1.1.2.2.1.2.1, x25.2.2.2.2.2.2.2.2.2.2.2.1.1.2.2.1.2.2, x25.2.2.2.2.2.2.2.2.2.2.2.1.1.2.2.2.1, x25.2.2.2.2.2.2.2.2.2.2.2.1.1.2.2.2.2, x25.2.2.2.2.2.2.2.2.2.2.2.1.2.1, x25.2.2.2.2.2.2.2.2.2.2.2.1.2.2.1, x25.2.2.2.2.2.2.2.2.2.2.2.1.2.2.2.1.1, x25.2.2.2.2.2.2.2.2.2.2.2.1.2.2.2.1.2.1, x25.2.2.2.2.2.2.2.2.2.2.2.1.2.2.2.1.2.2, x25.2.2.2.2.2.2.2.2.2.2.2.1.2.2.2.2.1, x25.2.2.2.2.2.2.2.2.2.2.2.1.2.2.2.2.2, x25.2.2.2.2.2.2.2.2.2.2.2.2.1.1, x25.2.2.2.2.2.2.2.2.2.2.2.2.1.2.1, x25.2.2.2.2.2.2.2.2.2.2.2.2.1.2.2.1, x25.2.2.2.2.2.2.2.2.2.2.2.2.1.2.2.2, x25.2.2.2.2.2.2.2.2.2.2.2.2.2))
    else
      some (.inl (.inr (x22.2.2.2.1, x22.2.2.2.2.1, x22.2.2.2.2.2.1, x22.2.2.2.2.2.2.1, x22.2.2.2.2.2.2.2.1, x22.2.2.2.2.2.2.2.2.1, x22.2.2.2.2.2.2.2.2.2.1, x22.2.2.2.2.2.2.2.2.2.2.1, x22.2.2.2.2.2.2.2.2.2.2.2.1, x22.2.2.2.2.2.2.2.2.2.2.2.2.1, x22.2.2.2.2.2.2.2.2.2.2.2.2.2.1, x22.2.2.2.2.2.2.2.2.2.2.2.2.2.2.1, x22.2.2.2.2.2.2.2.2.2.2.2.2.2.2.2.1, x22.2.2.2.2.2.2.2.2.2.2.2.2.2.2.2.2.1, x22.2.2.2.2.2.2.2.2.2.2.2.2.2.2.2.2.2.1, x22.2.2.2.2.2.2.2.2.2.2.2.2.2.2.2.2.2.2.1, x22.2.2.2.2.2.2.2.2.2.2.2.2.2.2.2.2.2.2.2.1, x22.2.2.2.2.2.2.2.2.2.2.2.2.2.2.2.2.2.2.2.2.1, x22.2.2.2.2.2.2.2.2.2.2.2.2.2.2.2.2.2.2.2.2.2.1, x22.2.2.2.2.2.2.2.2.2.2.2.2.2.2.2.2.2.2.2.2.2.2.1, x22.2.2.2.2.2.2.2.2.2.2.2.2.2.2.2.2.2.2.2.2.2.2.2.1, x22.2.2.2.2.2.2.2.2.2.2.2.2.2.2.2.2.2.2.2.2.2.2.2.2.1, x22.2.2.2.2.2.2.2.2.2.2.2.2.2.2.2.2.2.2.2.2.2.2.2.2.2.1, x22.2.2.2.2.2.2.2.2.2.2.2.2.2.2.2.2.2.2.2.2.2.2.2.2.2.2.1, x22.2.2.2.2.2.2.2.2.2.2.2.2.2.2.2.2.2.2.2.2.2.2.2.2.2.2.2.1, x22.2.2.2.2.2.2.2.2.2.2.2.2.2.2.2.2.2.2.2.2.2.2.2.2.2.2.2.2.1, x22.2.2.2.2.2.2.2.2.2.2.2.2.2.2.2.2.2.2.2.2.2.2.2.2.2.2.2.2.2.1, x22.2.2.2.2.2.2.2.2.2.2.2.2.2.2.2.2.2.2.2.2.2.2.2.2.2.2.2.2.2.2.1, x22.2.2.2.2.2.2.2.2.2.2.2.2.2.2.2.2.2.2.2.2.2.2.2.2.2.2.2.2.2.2.2.1, x22.2.2.2.2.2.2.2.2.2.2.2.2.2.2.2.2.2.2.2.2.2.2.2.2.2.2.2.2.2.2.2.2.1, x22.2.2.2.2.2.2.2.2.2.2.2.2.2.2.2.2.2.2.2.2.2.2.2.2.2.2.2.2.2.2.2.2.2.1, x22.2.2.2.2.2.2.2.2.2.2.2.2.2.2.2.2.2.2.2.2.2.2.2.2.2.2.2.2.2.2.2.2.2.2)))
noncomputable def oriellaw17_ScreenWhole (a0 : Int) (a1 : Int) (a2 : List K86d9.T) (a3 : Int) : Option (Bool) :=
  ((oriellaw17_known).bind fun x2 =>
    bif !x2 then
      some true
    else
      some false : Option (Bool)).bind fun x3 =>
  bif x3 then
    some false
  else
    (bif decide (a0 < 1) then
        some true
      else
        bif decide (a0 > 30) then
          some true
        else
          bif decide (a1 < 1) then
            some true
          else
            bif decide (a1 > 30) then
              some true
            else
              (oriellaw17_great a0 a1 a2).bind fun x5 =>
              bif x5 then
                some true
              else
                bif decide (a3 < 0) then
                  some true
                else
                  bif decide (a3 > (a2.length : Int)) then
                    some true
                  else
                    some false : Option (Bool)).bind fun x6 =>
    bif x6 then
      some true
    else
      (screen_New a0 a1).bind fun x7 =>
      (bif x7.2 != 0 then
          some true
        else
          some false : Option (Bool)).bind fun x8 =>
      bif x8 then
        some false
      else
        (loopO (oriellaw17_ScreenWhole_loop1 a2) (a0, a1, 0, x7.1.1, x7.1.2.1, x7.1.2.2.1, x7.1.2.2.2.1, x7.1.2.2.2.2.1, x7.1.2.2.2.2.2.1, x7.1.2.2.2.2.2.2.1, x7.1.2.2.2.2.2.2.2.1.1, x7.1.2.2.2.2.2.2.2.1.2.1, x7.1.2.2.2.2.2.2.2.1.2.2, x7.1.2.2.2.2.2.2.2.2.1, x7.1.2.2.2.2.2.2.2.2.2.1, x7.1.2.2.2.2.2.2.2.2.2.2.1, x7.1.2.2.2.2.2.2.2.2.2.2.2.1.1.1, x7.1.2.2.2.2.2.2.2.2.2.2.2.1.1.2.1, x7.1.2.2.2.2.2.2.2.2.2.2.2.1.1.2.2.1.1, x7.1.2.2.2.2.2.2.2.2.2.2.2.1.1.2.2.1.2.1, x7.1.2.2.2.2.2.2.2.2.2.2.2.1.1.2.2.1.2.2, x7.1.2.2.2.2.2.2.2.2.2.2.2.1.1.2.2.2.1, x7.1.2.2.2.2.2.2.2.2.2.2.2.1.1.2.2.2.2, x7.1.2.2.2.2.2.2.2.2.2.2.2.1.2.1, x7.1.2.2.2.2.2.2.2.2.2.2.2.1.2.2.1, x7.1.2.2.2.2.2.2.2.2.2.2.2.1.2.2.2.1.1, x7.1.2.2.2.2.2.2.2.2.2.2.2.1.2.2.2.1.2.1, x7.1.2.2.2.2.2.2.2.2.2.2.2.1.2.2.2.1.2.2, x7.1.2.2.2.2.2.2.2.2.2.2.2.1.2.2.2.2.1, x7.1.2.2.2.2.2.2.2.2.2.2.2.1.2.2.2.2.2, x7.1.2.2.2.2.2.2.2.2.2.2.2.2.1.1, x7.1.2.2.2.2.2.2.2.2.2.2.2.2.1.2.1, x7.1.2.2.2.2.2.2.2.2.2.2.2.2.1.2.2.1, x7.1.2.2.2.2.2.2.2.2.2.2.2.2.1.2.2.2, x7.1.2.2.2.2.2.2.2.2.2.2.2.2.2)).bind fun o => match o with
        | .inl x36 =>
          some false
        | .inr x37 =>
          (screen_Do x7.1 a2).bind fun x38 =>
          (screen_Same x38 (x37.1, x37.2.1, x37.2.2.1, x37.2.2.2.1, x37.2.2.2.2.1, x37.2.2.2.2.2.1, x37.2.2.2.2.2.2.1, (x37.2.2.2.2.2.2.2.1, x37.2.2.2.2.2.2.2.2.1, x37.2.2.2.2.2.2.2.2.2.1), x37.2.2.2.2.2.2.2.2.2.2.1, x37.2.2.2.2.2.2.2.2.2.2.2.1, x37.2.2.2.2.2.2.2.2.2.2.2.2.1, ((x37.2.2.2.2.2.2.2.2.2.2.2.2.2.1, x37.2.2.2.2.2.2.2.2.2.2.2.2.2.2.1, (x37.2.2.2.2.2.2.2.2.2.2.2.2.2.2.2.1, x37.2.2.2.2.2.2.2.2.2.2.2.2.2.2.2.2.1, x37.2.2.2.2.2.2.2.2.2.2.2.2.2.2.2.2.2.1), x37.2.2.2.2.2.2.2.2.2.2.2.2.2.2.2.2.2.2.1, x37.2.2.2.2.2.2.2.2.2.2.2.2.2.2.2.2.2.2.2.1), x37.2.2.2.2.2.2.2.2.2.2.2.2.2.2.2.2.2.2.2.2.1, x37.2.2.2.2.2.2.2.2.2.2.2.2.2.2.2.2.2.2.2.2.2.1, (x37.2.2.2.2.2.2.2.2.2.2.2.2.2.2.2.2.2.2.2.2.2.2.1, x37.2.2.2.2.2.2.2.2.2.2.2.2.2.2.2.2.2.2.2.2.2.2.2.1, x37.2.2.2.2.2.2.2.2.2.2.2.2.2.2.2.2.2.2.2.2.2.2.2.2.1), x37.2.2.2.2.2.2.2.2.2.2.2.2.2.2.2.2.2.2.2.2.2.2.2.2.2.1, x37.2.2.2.2.2.2.2.2.2.2.2.2.2.2.2.2.2.2.2.2.2.2.2.2.2.2.1), (x37.2.2.2.2.2.2.2.2.2.2.2.2.2.2.2.2.2.2.2.2.2.2.2.2.2.2.2.1, x37.2.2.2.2.2.2.2.2.2.2.2.2.2.2.2.2.2.2.2.2.2.2.2.2.2.2.2.2.1, x37.2.2.2.2.2.2.2.2.2.2.2.2.2.2.2.2.2.2.2.2.2.2.2.2.2.2.2.2.2.1, x37.2.2.2.2.2.2.2.2.2.2.2.2.2.2.2.2.2.2.2.2.2.2.2.2.2.2.2.2.2.2.1), x37.2.2.2.2.2.2.2.2.2.2.2.2.2.2.2.2.2.2.2.2.2.2.2.2.2.2.2.2.2.2.2)).bind fun x39 =>
          bif x39 then
            req (0 ≤ (0 : Int) ∧ (0 : Int) ≤ a3 ∧ a3 ≤ ((a2.length : Nat) : Int)) <|
            (screen_Do x7.1 (sub a2 0 a3.toNat)).bind fun x40 =>
            req (0 ≤ a3 ∧ a3 ≤ ((a2.length : Nat) : Int) ∧ ((a2.length : Nat) : Int) ≤ ((a2.length : Nat) : Int)) <|
            (screen_Do x40 (sub a2 a3.toNat a2.length)).bind fun x41 =>
            (screen_Same x41 (x37.1, x37.2.1, x37.2.2.1, x37.2.2.2.1, x37.2.2.2.2.1, x37.2.2.2.2.2.1, x37.2.2.2.2.2.2.1, (x37.2.2.2.2.2.2.2.1, x37.2.2.2.2.2.2.2.2.1, x37.2.2.2.2.2.2.2.2.2.1), x37.2.2.2.2.2.2.2.2.2.2.1, x37.2.2.2.2.2.2.2.2.2.2.2.1, x37.2.2.2.2.2.2.2.2.2.2.2.2.1, ((x37.2.2.2.2.2.2.2.2.2.2.2.2.2.1, x37.2.2.2.2.2.2.2.2.2.2.2.2.2.2.1, (x37.2.2.2.2.2.2.2.2.2.2.2.2.2.2.2.1, x37.2.2.2.2.2.2.2.2.2.2.2.2.2.2.2.2.1, x37.2.2.2.2.2.2.2.2.2.2.2.2.2.2.2.2.2.1), x37.2.2.2.2.2.2.2.2.2.2.2.2.2.2.2.2.2.2.1, x37.2.2.2.2.2.2.2.2.2.2.2.2.2.2.2.2.2.2.2.1), x37.2.2.2.2.2.2.2.2.2.2.2.2.2.2.2.2.2.2.2.2.1, x37.2.2.2.2.2.2.2.2.2.2.2.2.2.2.2.2.2.2.2.2.2.1, (x37.2.2.2.2.2.2.2.2.2.2.2.2.2.2.2.2.2.2.2.2.2.2.1, x37.2.2.2.2.2.2.2.2.2.2.2.2.2.2.2.2.2.2.2.2.2.2.2.1, x37.2.2.2.2.2.2.2.2.2.2.2.2.2.2.2.2.2.2.2.2.2.2.2.2.1), x37.2.2.2.2.2.2.2.2.2.2.2.2.2.2.2.2.2.2.2.2.2.2.2.2.2.1, x37.2.2.2.2.2.2.2.2.2.2.2.2.2.2.2.2.2.2.2.2.2.2.2.2.2.2.1), (x37.2.2.2.2.2.2.2.2.2.2.2.2.2.2.2.2.2.2.2.2.2.2.2.2.2.2.2.1, x37.2.2.2.2.2.2.2.2.2.2.2.2.2.2.2.2.2.2.2.2.2.2.2.2.2.2.2.2.1, x37.2.2.2.2.2.2.2.2.2.2.2.2.2.2.2.2.2.2.2.2.2.2.2.2.2.2.2.2.2.1, x37.2.2.2.2.2.2.2.2.2.2.2.2.2.2.2.2.2.2.2.2.2.2.2.2.2.2.2.2.2.2.1), x37.2.2.2.2.2.2.2.2.2.2.2.2.2.2.2.2.2.2.2.2.2.2.2.2.2.2.2.2.2.2.2)).bind fun x42 =>
            some x42
          else
            some false
noncomputable def oriellaw17_ScreenPages_loop1 (a2 : List K86d9.T) (x19 : Int × Int × Int × (List (List (Int × K72c5.T))) × (List (List (Int × K72c5.T))) × Int × Int × Bool × Int × Int × Int × Int × Int × Int × Int × Int × Int × Int × Int × Bool × Bool × Int × Int × Int × Int × Int × Bool × Bool × Int × Int × Int × Int × List Int) : Option (((Int × Int × (List (List (Int × K72c5.T))) × (List (List (Int × K72c5.T))) × Int × Int × Bool × Int × Int × Int × Int × Int × Int × Int × Int × Int × Int × Int × Bool × Bool × Int × Int × Int × Int × Int × Bool × Bool × Int × Int × Int × Int × List Int) ⊕ (Int × Int × (List (List (Int × K72c5.T))) × (List (List (Int × K72c5.T))) × Int × Int × Bool × Int × Int × Int × Int × Int × Int × Int × Int × Int × Int × Int × Bool × Bool × Int × Int × Int × Int × Int × Bool × Bool × Int × Int × Int × Int × List Int)) ⊕ (Int × Int × Int × (List (List (Int × K72c5.T))) × (List (List (Int × K72c5.T))) × Int × Int × Bool × Int × Int × Int × Int × Int × Int × Int × Int × Int × Int × Int × Bool × Bool × Int × Int × Int × Int × Int × Bool × Bool × Int × Int × Int × Int × List Int)) :=
    (bif decide (x19.1 < (a2.length : Int)) then
        some true
      else
        some false : Option (Bool)).bind fun x20 =>
    bif x20 then
      ((getI a2 x19.1).bind fun x23 =>
        bif x23.1 == 20 then
          (getI a2 x19.1).bind fun x24 =>
          bif x24.2.1 == 128 then
            some true
          else
            some false
        else
          some false : Option (Bool)).bind fun x25 =>
      bif x25 then
        some (.inl (.inl (x19.2.1, x19.2.2.1, x19.2.2.2.1, x19.2.2.2.2.1, x19.2.2.2.2.2.1, x19.2.2.2.2.2.2.1, x19.2.2.2.2.2.2.2.1, x19.2.2.2.2.2.2.2.2.1, x19.2.2.2.2.2.2.2.2.2.1, x19.2.2.2.2.2.2.2.2.2.2.1, x19.2.2.2.2.2.2.2.2.2.2.2.1, x19.2.2.2.2.2.2.2.2.2.2.2.2.1, x19.2.2.2.2.2.2.2.2.2.2.2.2.2.1, x19.2.2.2.2.2.2.2.2.2.2.2.2.2.2.1, x19.2.2.2.2.2.2.2.2.2.2.2.2.2.2.2.1, x19.2.2.2.2.2.2.2.2.2.2.2.2.2.2.2.2.1, x19.2.2.2.2.2.2.2.2.2.2.2.2.2.2.2.2.2.1, x19.2.2.2.2.2.2.2.2.2.2.2.2.2.2.2.2.2.2.1, x19.2.2.2.2.2.2.2.2.2.2.2.2.2.2.2.2.2.2.2.1, x19.2.2.2.2.2.2.2.2.2.2.2.2.2.2.2.2.2.2.2.2.1, x19.2.2.2.2.2.2.2.2.2.2.2.2.2.2.2.2.2.2.2.2.2.1, x19.2.2.2.2.2.2.2.2.2.2.2.2.2.2.2.2.2.2.2.2.2.2.1, x19.2.2.2.2.2.2.2.2.2.2.2.2.2.2.2.2.2.2.2.2.2.2.2.1, x19.2.2.2.2.2.2.2.2.2.2.2.2.2.2.2.2.2.2.2.2.2.2.2.2.1, x19.2.2.2.2.2.2.2.2.2.2.2.2.2.2.2.2.2.2.2.2.2.2.2.2.2.1, x19.2.2.2.2.2.2.2.2.2.2.2.2.2.2.2.2.2.2.2.2.2.2.2.2.2.2.1, x19.2.2.2.2.2.2.2.2.2.2.2.2.2.2.2.2.2.2.2.2.2.2.2.2.2.2.2.1, x19.2.2.2.2.2.2.2.2.2.2.2.2.2.2.2.2.2.2.2.2.2.2.2.2.2.2.2.2.1, x19.2.2.2.2.2.2.2.2.2.2.2.2.2.2.2.2.2.2.2.2.2.2.2.2.2.2.2.2.2.1, x19.2.2.2.2.2.2.2.2.2.2.2.2.2.2.2.2.2.2.2.2.2.2.2.2.2.2.2.2.2.2.1, x19.2.2.2.2.2.2.2.2.2.2.2.2.2.2.2.2.2.2.2.2.2.2.2.2.2.2.2.2.2.2.2.1, x19.2.2.2.2.2.2.2.2.2.2.2.2.2.2.2.2.2.2.2.2.2.2.2.2.2.2.2.2.2.2.2.2)))
      else
        (getI a2 x19.1).bind fun x26 =>
        (screen_Do (x19.2.1, x19.2.2.1, x19.2.2.2.1, x19.2.2.2.2.1, x19.2.2.2.2.2.1, x19.2.2.2.2.2.2.1, x19.2.2.2.2.2.2.2.1, (x19.2.2.2.2.2.2.2.2.1, x19.2.2.2.2.2.2.2.2.2.1, x19.2.2.2.2.2.2.2.2.2.2.1), x19.2.2.2.2.2.2.2.2.2.2.2.1, x19.2.2.2.2.2.2.2.2.2.2.2.2.1, x19.2.2.2.2.2.2.2.2.2.2.2.2.2.1, ((x19.2.2.2.2.2.2.2.2.2.2.2.2.2.2.1, x19.2.2.2.2.2.2.2.2.2.2.2.2.2.2.2.1, (x19.2.2.2.2.2.2.2.2.2.2.2.2.2.2.2.2.1, x19.2.2.2.2.2.2.2.2.2.2.2.2.2.2.2.2.2.1, x19.2.2.2.2.2.2.2.2.2.2.2.2.2.2.2.2.2.2.1), x19.2.2.2.2.2.2.2.2.2.2.2.2.2.2.2.2.2.2.2.1, x19.2.2.2.2.2.2.2.2.2.2.2.2.2.2.2.2.2.2.2.2.1), x19.2.2.2.2.2.2.2.2.2.2.2.2.2.2.2.2.2.2.2.2.2.1, x19.2.2.2.2.2.2.2.2.2.2.2.2.2.2.2.2.2.2.2.2.2.2.1, (x19.2.2.2.2.2.2.2.2.2.2.2.2.2.2.2.2.2.2.2.2.2.2.2.1, x19.2.2.2.2.2.2.2.2.2.2.2.2.2.2.2.2.2.2.2.2.2.2.2.2.1, x19.2.2.2.2.2.2.2.2.2.2.2.2.2.2.2.2.2.2.2.2.2.2.2.2.2.1), x19.2.2.2.2.2.2.2.2.2.2.2.2.2.2.2.2.2.2.2.2.2.2.2.2.2.2.1, x19.2.2.2.2.2.2.2.2.2.2.2.2.2.2.2.2.2.2.2.2.2.2.2.2.2.2.2.1), (x19.2.2.2.2.2.2.2.2.2.2.2.2.2.2.2.2.2.2.2.2.2.2.2.2.2.2.2.2.1, x19.2.2.2.2.2.2.2.2.2.2.2.2.2.2.2.2.2.2.2.2.2.2.2.2.2.2.2.2.2.1, x19.2.2.2.2.2.2.2.2.2.2.2.2.2.2.2.2.2.2.2.2.2.2.2.2.2.2.2.2.2.2.1, x19.2.2.2.2.2.2.2.2.2.2.2.2.2.2.2.2.2.2.2.2.2.2.2.2.2.2.2.2.2.2.2.1), x19.2.2.2.2.2.2.2.2.2.2.2.2.2.2.2.2.2.2.2.2.2.2.2.2.2.2.2.2.2.2.2.2) [x26]).bind fun x27 =>
        some (.inr (IntKind.i64.wrap (x19.1 + 1), x27.1, x27.2.1, x27.2.2.1, x27.2.2.2.1, x27.2.2.2.2.1, x27.2.2.2.2.2.1, x27.2.2.2.2.2.2.1, x27.2.2.2.2.2.2.2.1.1, x27.2.2.2.2.2.2.2.1.2.1, x27.2.2.2.2.2.2.2.1.2.2, x27.2.2.2.2.2.2.2.2.1, x27.2.2.2.2.2.2.2.2.2.1, x27.2.2.2.2.2.2.2.2.2.2.1, x27.2.2.2.2.2.2.2.2.2.2.2.1.1.1, x27.2.2.2.2.2.2.2.2.2.2.2.1.1.2.1, x27.2.2.2.2.2.2.2.2.2.2.2.1.1.2.2.1.1, x27.2.2.2.2.2.2.2.2.2.2.2.1.1.2.2.1.2.1, x27.2.2.2.2.2.2.2.2.2.2.2.1.1.2.2.1.2.2, x27.2.2.2.2.2.2.2.2.2.2.2.1.1.2.2.2.1, x27.2.2.2.2.2.2.2.2.2.2.2.1.1.2.2.2.2, x27.2.2.2.2.2.2.2.2.2.2.2.1.2.1, x27.2.2.2.2.2.2.2.2.2.2.2.1.2.2.1, x27.2.2.2.2.2.2.2.2.2.2.2.1.2.2.2.1.1, x27.2.2.2.2.2.2.2.2.2.2.2.1.2.2.2.1.2.1, x27.2.2.2.2.2.2.2.2.2.2.2.1.2.2.2.1.2.2, x27.2.2.2.2.2.2.2.2.2.2.2.1.2.2.2.2.1, x27.2.2.2.2.2.2.2.2.2.2.2.1.2.2.2.2.2, x27.2.2.2.2.2.2.2.2.2.2.2.2.1.1, x27.2.2.2.2.2.2.2.2.2.2.2.2.1.2.1, x27.2.2.2.2.2.2.2.2.2.2.2.2.1.2.2.1, x27.2.2.2.2.2.2.2.2.2.2.2.2.1.2.2.2, x27.2.2.2.2.2.2.2.2.2.2.2.2.2))
    else
      some (.inl (.inr (x19.2.1, x19.2.2.1, x19.2.2.2.1, x19.2.2.2.2.1, x19.2.2.2.2.2.1, x19.2.2.2.2.2.2.1, x19.2.2.2.2.2.2.2.1, x19.2.2.2.2.2.2.2.2.1, x19.2.2.2.2.2.2.2.2.2.1, x19.2.2.2.2.2.2.2.2.2.2.1, x19.2.2.2.2.2.2.2.2.2.2.2.1, x19.2.2.2.2.2.2.2.2.2.2.2.2.1, x19.2.2.2.2.2.2.2.2.2.2.2.2.2.1, x19.2.2.2.2.2.2.2.2.2.2.2.2.2.2.1, x19.2.2.2.2.2.2.2.2.2.2.2.2.2.2.2.1, x19.2.2.2.2.2.2.2.2.2.2.2.2.2.2.2.2.1, x19.2.2.2.2.2.2.2.2.2.2.2.2.2.2.2.2.2.1, x19.2.2.2.2.2.2.2.2.2.2.2.2.2.2.2.2.2.2.1, x19.2.2.2.2.2.2.2.2.2.2.2.2.2.2.2.2.2.2.2.1, x19.2.2.2.2.2.2.2.2.2.2.2.2.2.2.2.2.2.2.2.2.1, x19.2.2.2.2.2.2.2.2.2.2.2.2.2.2.2.2.2.2.2.2.2.1, x19.2.2.2.2.2.2.2.2.2.2.2.2.2.2.2.2.2.2.2.2.2.2.1, x19.2.2.2.2.2.2.2.2.2.2.2.2.2.2.2.2.2.2.2.2.2.2.2.1, x19.2.2.2.2.2.2.2.2.2.2.2.2.2.2.2.2.2.2.2.2.2.2.2.2.1, x19.2.2.2.2.2.2.2.2.2.2.2.2.2.2.2.2.2.2.2.2.2.2.2.2.2.1, x19.2.2.2.2.2.2.2.2.2.2.2.2.2.2.2.2.2.2.2.2.2.2.2.2.2.2.1, x19.2.2.2.2.2.2.2.2.2.2.2.2.2.2.2.2.2.2.2.2.2.2.2.2.2.2.2.1, x19.2.2.2.2.2.2.2.2.2.2.2.2.2.2.2.2.2.2.2.2.2.2.2.2.2.2.2.2.1, x19.2.2.2.2.2.2.2.2.2.2.2.2.2.2.2.2.2.2.2.2.2.2.2.2.2.2.2.2.2.1, x19.2.2.2.2.2.2.2.2.2.2.2.2.2.2.2.2.2.2.2.2.2.2.2.2.2.2.2.2.2.2.1, x19.2.2.2.2.2.2.2.2.2.2.2.2.2.2.2.2.2.2.2.2.2.2.2.2.2.2.2.2.2.2.2.1, x19.2.2.2.2.2.2.2.2.2.2.2.2.2.2.2.2.2.2.2.2.2.2.2.2.2.2.2.2.2.2.2.2)))
noncomputable def oriellaw17_ScreenPages_loop2 (a3 : List K86d9.T) (x44 : Int × Int × Int × (List (List (Int × K72c5.T))) × (List (List (Int × K72c5.T))) × Int × Int × Bool × Int × Int × Int × Int × Int × Int × Int × Int × Int × Int × Int × Bool × Bool × Int × Int × Int × Int × Int × Bool × Bool × Int × Int × Int × Int × List Int) : Option (((Int × Int × (List (List (Int × K72c5.T))) × (List (List (Int × K72c5.T))) × Int × Int × Bool × Int × Int × Int × Int × Int × Int × Int × Int × Int × Int × Int × Bool × Bool × Int × Int × Int × Int × Int × Bool × Bool × Int × Int × Int × Int × List Int) ⊕ (Int × Int × (List (List (Int × K72c5.T))) × (List (List (Int × K72c5.T))) × Int × Int × Bool × Int × Int × Int × Int × Int × Int × Int × Int × Int × Int × Int × Bool × Bool × Int × Int × Int × Int × Int × Bool × Bool × Int × Int × Int × Int × List Int)) ⊕ (Int × Int × Int × (List (List (Int × K72c5.T))) × (List (List (Int × K72c5.T))) × Int × Int × Bool × Int × Int × Int × Int × Int × Int × Int × Int × Int × Int × Int × Bool × Bool × Int × Int × Int × Int × Int × Bool × Bool × Int × Int × Int × Int × List Int)) :=
    (bif decide (x44.1 < (a3.length : Int)) then
        some true
      else
        some false : Option (Bool)).bind fun x45 =>
    bif x45 then
      ((getI a3 x44.1).bind fun x50 =>
        bif x50.1 == 27 then
          some true
        else
          (getI a3 x44.1).bind fun x51 =>
          bif x51.1 == 24 then
            some true
          else
            (getI a3 x44.1).bind fun x52 =>
            bif x52.1 == 20 then
              (getI a3 x44.1).bind fun x53 =>
              bif x53.2.1 == 128 then
                some true
              else
                some false
            else
              some false : Option (Bool)).bind fun x54 =>
      bif x54 then
        some (.inl (.inl (x44.2.1, x44.2.2.1, x44.2.2.2.1, x44.2.2.2.2.1, x44.2.2.2.2.2.1, x44.2.2.2.2.2.2.1, x44.2.2.2.2.2.2.2.1, x44.2.2.2.2.2.2.2.2.1, x44.2.2.2.2.2.2.2.2.2.1, x44.2.2.2.2.2.2.2.2.2.2.1, x44.2.2.2.2.2.2.2.2.2.2.2.1, x44.2.2.2.2.2.2.2.2.2.2.2.2.1, x44.2.2.2.2.2.2.2.2.2.2.2.2.2.1, x44.2.2.2.2.2.2.2.2.2.2.2.2.2.2.1, x44.2.2.2.2.2.2.2.2.2.2.2.2.2.2.2.1, x44.2.2.2.2.2.2.2.2.2.2.2.2.2.2.2.2.1, x44.2.2.2.2.2.2.2.2.2.2.2.2.2.2.2.2.2.1, x44.2.2.2.2.2.2.2.2.2.2.2.2.2.2.2.2.2.2.1, x44.2.2.2.2.2.2.2.2.2.2.2.2.2.2.2.2.2.2.2.1, x44.2.2.2.2.2.2.2.2.2.2.2.2.2.2.2.2.2.2.2.2.1, x44.2.2.2.2.2.2.2.2.2.2.2.2.2.2.2.2.2.2.2.2.2.1, x44.2.2.2.2.2.2.2.2.2.2.2.2.2.2.2.2.2.2.2.2.2.2.1, x44.2.2.2.2.2.2.2.2.2.2.2.2.2.2.2.2.2.2.2.2.2.2.2.1, x44.2.2.2.2.2.2.2.2.2.2.2.2.2.2.2.2.2.2.2.2.2.2.2.2.1, x44.2.2.2.2.2.2.2.2.2.2.2.2.2.2.2.2.2.2.2.2.2.2.2.2.2.1, x44.2.2.2.2.2.2.2.2.2.2.2.2.2.2.2.2.2.2.2.2.2.2.2.2.2.2.1, x44.2.2.2.2.2.2.2.2.2.2.2.2.2.2.2.2.2.2.2.2.2.2.2.2.2.2.2.1, x44.2.2.2.2.2.2.2.2.2.2.2.2.2.2.2.2.2.2.2.2.2.2.2.2.2.2.2.2.1, x44.2.2.2.2.2.2.2.2.2.2.2.2.2.2.2.2.2.2.2.2.2.2.2.2.2.2.2.2.2.1, x44.2.2.2.2.2.2.2.2.2.2.2.2.2.2.2.2.2.2.2.2.2.2.2.2.2.2.2.2.2.2.1, x44.2.2.2.2.2.2.2.2.2.2.2.2.2.2.2.2.2.2.2.2.2.2.2.2.2.2.2.2.2.2.2.1, x44.2.2.2.2.2.2.2.2.2.2.2.2.2.2.2.2.2.2.2.2.2.2.2.2.2.2.2.2.2.2.2.2)))
      else
        (getI a3 x44.1).bind fun x55 =>
        (screen_Do (x44.2.1, x44.2.2.1, x44.2.2.2.1, x44.2.2.2.2.1, x44.2.2.2.2.2.1, x44.2.2.2.2.2.2.1, x44.2.2.2.2.2.2.2.1, (x44.2.2.2.2.2.2.2.2.1, x44.2.2.2.2.2.2.2.2.2.1, x44.2.2.2.2.2.2.2.2.2.2.1), x44.2.2.2.2.2.2.2.2.2.2.2.1, x44.2.2.2.2.2.2.2.2.2.2.2.2.1, x44.2.2.2.2.2.2.2.2.2.2.2.2.2.1, ((x44.2.2.2.2.2.2.2.2.2.2.2.2.2.2.1, x44.2.2.2.2.2.2.2.2.2.2.2.2.2.2.2.1, (x44.2.2.2.2.2.2.2.2.2.2.2.2.2.2.2.2.1, x44.2.2.2.2.2.2.2.2.2.2.2.2.2.2.2.2.2.1, x44.2.2.2.2.2.2.2.2.2.2.2.2.2.2.2.2.2.2.1), x44.2.2.2.2.2.2.2.2.2.2.2.2.2.2.2.2.2.2.2.1, x44.2.2.2.2.2.2.2.2.2.2.2.2.2.2.2.2.2.2.2.2.1), x44.2.2.2.2.2.2.2.2.2.2.2.2.2.2.2.2.2.2.2.2.2.1, x44.2.2.2.2.2.2.2.2.2.2.2.2.2.2.2.2.2.2.2.2.2.2.1, (x44.2.2.2.2.2.2.2.2.2.2.2.2.2.2.2.2.2.2.2.2.2.2.2.1, x44.2.2.2.2.2.2.2.2.2.2.2.2.2.2.2.2.2.2.2.2.2.2.2.2.1, x44.2.2.2.2.2.2.2.2.2.2.2.2.2.2.2.2.2.2.2.2.2.2.2.2.2.1), x44.2.2.2.2.2.2.2.2.2.2.2.2.2.2.2.2.2.2.2.2.2.2.2.2.2.2.1, x44.2.2.2.2.2.2.2.2.2.2.2.2.2.2.2.2.2.2.2.2.2.2.2.2.2.2.2.1), (x44.2.2.2.2.2.2.2.2.2.2.2.2.2.2.2.2.2.2.2.2.2.2.2.2.2.2.2.2.1, x44.2.2.2.2.2.2.2.2.2.2.2.2.2.2.2.2.2.2.2.2.2.2.2.2.2.2.2.2.2.1, x44.2.2.2.2.2.2.2.2.2.2.2.2.2.2.2.2.2.2.2.2.2.2.2.2.2.2.2.2.2.2.1, x44.2.2.2.2.2.2.2.2.2.2.2.2.2.2.2.2.2.2.2.2.2.2.2.2.2.2.2.2.2.2.2.1), x44.2.2.2.2.2.2.2.2.2.2.2.2.2.2.2.2.2.2.2.2.2.2.2.2.2.2.2.2.2.2.2.2) [x55]).bind fun x56 =>
        some (.inr (IntKind.i64.wrap (x44.1 + 1), x56.1, x56.2.1, x56.2.2.1, x56.2.2.2.1, x56.2.2.2.2.1, x56.2.2.2.2.2.1, x56.2.2.2.2.2.2.1, x56.2.2.2.2.2.2.2.1.1, x56.2.2.2.2.2.2.2.1.2.1, x56.2.2.2.2.2.2.2.1.2.2, x56.2.2.2.2.2.2.2.2.1, x56.2.2.2.2.2.2.2.2.2.1, x56.2.2.2.2.2.2.2.2.2.2.1, x56.2.2.2.2.2.2.2.2.2.2.2.1.1.1, x56.2.2.2.2.2.2.2.2.2.2.2.1.1.2.1, x56.2.2.2.2.2.2.2.2.2.2.2.1.1.2.2.1.1, x56.2.2.2.2.2.2.2.2.2.2.2.1.1.2.2.1.2.1, x56.2.2.2.2.2.2.2.2.2.2.2.1.1.2.2.1.2.2, x56.2.2.2.2.2.2.2.2.2.2.2.1.1.2.2.2.1, x56.2.2.2.2.2.2.2.2.2.2.2.1.1.2.2.2.2, x56.2.2.2.2.2.2.2.2.2.2.2.1.2.1, x56.2.2.2.2.2.2.2.2.2.2.2.1.2.2.1, x56.2.2.2.2.2.2.2.2.2.2.2.1.2.2.2.1.1, x56.2.2.2.2.2.2.2.2.2.2.2.1.2.2.2.1.2.1, x56.2.2.2.2.2.2.2.2.2.2.2.1.2.2.2.1.2.2, x56.2.2.2.2.2.2.2.2.2.2.2.1.2.2.2.2.1, x56.2.2.2.2.2.2.2.2.2.2.2.1.2.2.2.2.2, x56.2.2.2.2.2.2.2.2.2.2.2.2.1.1, x56.2.2.2.2.2.2.2.2.2.2.2.2.1.2.1, x56.2.2.2.2.2.2.2.2.2.2.2.2.1.2.2.1, x56.2.2.2.2.2.2.2.2.2.2.2.2.1.2.2.2, x56.2.2.2.2.2.2.2.2.2.2.2.2.2))
    else
      some (.inl (.inr (x44.2.1, x44.2.2.1, x44.2.2.2.1, x44.2.2.2.2.1, x44.2.2.2.2.2.1, x44.2.2.2.2.2.2.1, x44.2.2.2.2.2.2.2.1, x44.2.2.2.2.2.2.2.2.1, x44.2.2.2.2.2.2.2.2.2.1, x44.2.2.2.2.2.2.2.2.2.2.1, x44.2.2.2.2.2.2.2.2.2.2.2.1, x44.2.2.2.2.2.2.2.2.2.2.2.2.1, x44.2.2.2.2.2.2.2.2.2.2.2.2.2.1, x44.2.2.2.2.2.2.2.2.2.2.2.2.2.2.1, x44.2.2.2.2.2.2.2.2.2.2.2.2.2.2.2.1, x44.2.2.2.2.2.2.2.2.2.2.2.2.2.2.2.2.1, x44.2.2.2.2.2.2.2.2.2.2.2.2.2.2.2.2.2.1, x44.2.2.2.2.2.2.2.2.2.2.2.2.2.2.2.2.2.2.1, x44.2.2.2.2.2.2.2.2.2.2.2.2.2.2.2.2.2.2.2.1, x44.2.2.2.2.2.2.2.2.2.2.2.2.2.2.2.2.2.2.2.2.1, x44.2.2.2.2.2.2.2.2.2.2.2.2.2.2.2.2.2.2.2.2.2.1, x44.2.2.2.2.2.2.2.2.2.2.2.2.2.2.2.2.2.2.2.2.2.2.1, x44.2.2.2.2.2.2.2.2.2.2.2.2.2.2.2.2.2.2.2.2.2.2.2.1, x44.2.2.2.2.2.2.2.2.2.2.2.2.2.2.2.2.2.2.2.2.2.2.2.2.1, x44.2.2.2.2.2.2.2.2.2.2.2.2.2.2.2.2.2.2.2.2.2.2.2.2.2.1, x44.2.2.2.2.2.2.2.2.2.2.2.2.2.2.2.2.2.2.2.2.2.2.2.2.2.2.1, x44.2.2.2.2.2.2.2.2.2.2.2.2.2.2.2.2.2.2.2.2.2.2.2.2.2.2.2.1, x44.2.2.2.2.2.2.2.2.2.2.2.2.2.2.2.2.2.2.2.2.2.2.2.2.2.2.2.2.1, x44.2.2.2.2.2.2.2.2.2.2.2.2.2.2.2.2.2.2.2.2.2.2.2.2.2.2.2.2.2.1, x44.2.2.2.2.2.2.2.2.2.2.2.2.2.2.2.2.2.2.2.2.2.2.2.2.2.2.2.2.2.2.1, x44.2.2.2.2.2.2.2.2.2.2.2.2.2.2.2.2.2.2.2.2.2.2.2.2.2.2.2.2.2.2.2.1, x44.2.2.2.2.2.2.2.2.2.2.2.2.2.2.2.2.2.2.2.2.2.2.2.2.2.2.2.2.2.2.2.2)))
noncomputable def oriellaw17_ScreenPages (a0 : Int) (a1 : Int) (a2 : List K86d9.T) (a3 : List K86d9.T) : Option (Bool) :=
  ((oriellaw17_known).bind fun x2 =>
    bif !x2 then
      some true
    else
      some false : Option (Bool)).bind fun x3 =>
  bif x3 then
    some false
  else
    (bif decide (a0 < 1) then
        some true
      else
        bif decide (a0 > 20) then
          some true
        else
          bif decide (a1 < 1) then
            some true
          else
            bif decide (a1 > 20) then
              some true
            else
              (oriellaw17_great a0 a1 a2).bind fun x6 =>
              bif x6 then
                some true
              else
                (oriellaw17_great a0 a1 a3).bind fun x7 =>
                bif x7 then
                  some true
                else
                  bif decide ((a2.length : Int) > 60) then
                    some true
                  else
                    bif decide ((a3.length : Int) > 60) then
                      some true
                    else
                      some false : Option (Bool)).bind fun x8 =>
    bif x8 then
      some true
    else
      (screen_New a0 a1).bind fun x9 =>
      (bif x9.2 != 0 then
          some true
        else
          some false : Option (Bool)).bind fun x10 =>
      bif x10 then
        some false
      else
        (loopO (oriellaw17_ScreenPages_loop1 a2) (0, x9.1.1, x9.1.2.1, x9.1.2.2.1, x9.1.2.2.2.1, x9.1.2.2.2.2.1, x9.1.2.2.2.2.2.1, x9.1.2.2.2.2.2.2.1, x9.1.2.2.2.2.2.2.2.1.1, x9.1.2.2.2.2.2.2.2.1.2.1, x9.1.2.2.2.2.2.2.2.1.2.2, x9.1.2.2.2.2.2.2.2.2.1, x9.1.2.2.2.2.2.2.2.2.2.1, x9.1.2.2.2.2.2.2.2.2.2.2.1, x9.1.2.2.2.2.2.2.2.2.2.2.2.1.1.1, x9.1.2.2.2.2.2.2.2.2.2.2.2.1.1.2.1, x9.1.2.2.2.2.2.2.2.2.2.2.2.1.1.2.2.1.1, x9.1.2.2.2.2.2.2.2.2.2.2.2.1.1.2.2.1.2.1, x9.1.2.2.2.2.2.2.2.2.2.2.2.1.1.2.2.1.2.2, x9.1.2.2.2.2.2.2.2.2.2.2.2.1.1.2.2.2.1, x9.1.2.2.2.2.2.2.2.2.2.2.2.1.1.2.2.2.2, x9.1.2.2.2.2.2.2.2.2.2.2.2.1.2.1, x9.1.2.2.2.2.2.2.2.2.2.2.2.1.2.2.1, x9.1.2.2.2.2.2.2.2.2.2.2.2.1.2.2.2.1.1, x9.1.2.2.2.2.2.2.2.2.2.2.2.1.2.2.2.1.2.1, x9.1.2.2.2.2.2.2.2.2.2.2.2.1.2.2.2.1.2.2, x9.1.2.2.2.2.2.2.2.2.2.2.2.1.2.2.2.2.1, x9.1.2.2.2.2.2.2.2.2.2.2.2.1.2.2.2.2.2, x9.1.2.2.2.2.2.2.2.2.2.2.2.2.1.1, x9.1.2.2.2.2.2.2.2.2.2.2.2.2.1.2.1, x9.1.2.2.2.2.2.2.2.2.2.2.2.2.1.2.2.1, x9.1.2.2.2.2.2.2.2.2.2.2.2.2.1.2.2.2, x9.1.2.2.2.2.2.2.2.2.2.2.2.2.2)).bind fun o => match o with
        | .inl x28 =>
          some true
        | .inr x29 =>
          (screen_Do (x29.1, x29.2.1, x29.2.2.1, x29.2.2.2.1, x29.2.2.2.2.1, x29.2.2.2.2.2.1, x29.2.2.2.2.2.2.1, (x29.2.2.2.2.2.2.2.1, x29.2.2.2.2.2.2.2.2.1, x29.2.2.2.2.2.2.2.2.2.1), x29.2.2.2.2.2.2.2.2.2.2.1, x29.2.2.2.2.2.2.2.2.2.2.2.1, x29.2.2.2.2.2.2.2.2.2.2.2.2.1, ((x29.2.2.2.2.2.2.2.2.2.2.2.2.2.1, x29.2.2.2.2.2.2.2.2.2.2.2.2.2.2.1, (x29.2.2.2.2.2.2.2.2.2.2.2.2.2.2.2.1, x29.2.2.2.2.2.2.2.2.2.2.2.2.2.2.2.2.1, x29.2.2.2.2.2.2.2.2.2.2.2.2.2.2.2.2.2.1), x29.2.2.2.2.2.2.2.2.2.2.2.2.2.2.2.2.2.2.1, x29.2.2.2.2.2.2.2.2.2.2.2.2.2.2.2.2.2.2.2.1), x29.2.2.2.2.2.2.2.2.2.2.2.2.2.2.2.2.2.2.2.2.1, x29.2.2.2.2.2.2.2.2.2.2.2.2.2.2.2.2.2.2.2.2.2.1, (x29.2.2.2.2.2.2.2.2.2.2.2.2.2.2.2.2.2.2.2.2.2.2.1, x29.2.2.2.2.2.2.2.2.2.2.2.2.2.2.2.2.2.2.2.2.2.2.2.1, x29.2.2.2.2.2.2.2.2.2.2.2.2.2.2.2.2.2.2.2.2.2.2.2.2.1), x29.2.2.2.2.2.2.2.2.2.2.2.2.2.2.2.2.2.2.2.2.2.2.2.2.2.1, x29.2.2.2.2.2.2.2.2.2.2.2.2.2.2.2.2.2.2.2.2.2.2.2.2.2.2.1), (x29.2.2.2.2.2.2.2.2.2.2.2.2.2.2.2.2.2.2.2.2.2.2.2.2.2.2.2.1, x29.2.2.2.2.2.2.2.2.2.2.2.2.2.2.2.2.2.2.2.2.2.2.2.2.2.2.2.2.1, x29.2.2.2.2.2.2.2.2.2.2.2.2.2.2.2.2.2.2.2.2.2.2.2.2.2.2.2.2.2.1, x29.2.2.2.2.2.2.2.2.2.2.2.2.2.2.2.2.2.2.2.2.2.2.2.2.2.2.2.2.2.2.1), x29.2.2.2.2.2.2.2.2.2.2.2.2.2.2.2.2.2.2.2.2.2.2.2.2.2.2.2.2.2.2.2) [(20, 128, 1, 0, [], [])]).bind fun x30 =>
          (bif x30.2.2.2.2.2.2.2.2.2.2.1 != (IntKind.i64.wrap (x29.2.2.2.2.2.2.2.2.2.2.2.2.1 + 128)) then
              some true
            else
              bif (x30.2.2.2.1.length : Int) != x29.1 then
                some true
              else
                some false : Option (Bool)).bind fun x31 =>
          bif x31 then
            some false
          else
            (loopO (oriellaw17_ScreenPages_loop2 a3) (0, x30.1, x30.2.1, x30.2.2.1, x30.2.2.2.1, x30.2.2.2.2.1, x30.2.2.2.2.2.1, x30.2.2.2.2.2.2.1, x30.2.2.2.2.2.2.2.1.1, x30.2.2.2.2.2.2.2.1.2.1, x30.2.2.2.2.2.2.2.1.2.2, x30.2.2.2.2.2.2.2.2.1, x30.2.2.2.2.2.2.2.2.2.1, x30.2.2.2.2.2.2.2.2.2.2.1, x30.2.2.2.2.2.2.2.2.2.2.2.1.1.1, x30.2.2.2.2.2.2.2.2.2.2.2.1.1.2.1, x30.2.2.2.2.2.2.2.2.2.2.2.1.1.2.2.1.1, x30.2.2.2.2.2.2.2.2.2.2.2.1.1.2.2.1.2.1, x30.2.2.2.2.2.2.2.2.2.2.2.1.1.2.2.1.2.2, x30.2.2.2.2.2.2.2.2.2.2.2.1.1.2.2.2.1, x30.2.2.2.2.2.2.2.2.2.2.2.1.1.2.2.2.2, x30.2.2.2.2.2.2.2.2.2.2.2.1.2.1, x30.2.2.2.2.2.2.2.2.2.2.2.1.2.2.1, x30.2.2.2.2.2.2.2.2.2.2.2.1.2.2.2.1.1, x30.2.2.2.2.2.2.2.2.2.2.2.1.2.2.2.1.2.1, x30.2.2.2.2.2.2.2.2.2.2.2.1.2.2.2.1.2.2, x30.2.2.2.2.2.2.2.2.2.2.2.1.2.2.2.2.1, x30.2.2.2.2.2.2.2.2.2.2.2.1.2.2.2.2.2, x30.2.2.2.2.2.2.2.2.2.2.2.2.1.1, x30.2.2.2.2.2.2.2.2.2.2.2.2.1.2.1, x30.2.2.2.2.2.2.2.2.2.2.2.2.1.2.2.1, x30.2.2.2.2.2.2.2.2.2.2.2.2.1.2.2.2, x30.2.2.2.2.2.2.2.2.2.2.2.2.2)).bind fun o => match o with
            | .inl x57 =>
              some true
            | .inr x58 =>
              (screen_Do (x58.1, x58.2.1, x58.2.2.1, x58.2.2.2.1, x58.2.2.2.2.1, x58.2.2.2.2.2.1, x58.2.2.2.2.2.2.1, (x58.2.2.2.2.2.2.2.1, x58.2.2.2.2.2.2.2.2.1, x58.2.2.2.2.2.2.2.2.2.1), x58.2.2.2.2.2.2.2.2.2.2.1, x58.2.2.2.2.2.2.2.2.2.2.2.1, x58.2.2.2.2.2.2.2.2.2.2.2.2.1, ((x58.2.2.2.2.2.2.2.2.2.2.2.2.2.1, x58.2.2.2.2.2.2.2.2.2.2.2.2.2.2.1, (x58.2.2.2.2.2.2.2.2.2.2.2.2.2.2.2.1, x58.2.2.2.2.2.2.2.2.2.2.2.2.2.2.2.2.1, x58.2.2.2.2.2.2.2.2.2.2.2.2.2.2.2.2.2.1), x58.2.2.2.2.2.2.2.2.2.2.2.2.2.2.2.2.2.2.1, x58.2.2.2.2.2.2.2.2.2.2.2.2.2.2.2.2.2.2.2.1), x58.2.2.2.2.2.2.2.2.2.2.2.2.2.2.2.2.2.2.2.2.1, x58.2.2.2.2.2.2.2.2.2.2.2.2.2.2.2.2.2.2.2.2.2.1, (x58.2.2.2.2.2.2.2.2.2.2.2.2.2.2.2.2.2.2.2.2.2.2.1, x58.2.2.2.2.2.2.2.2.2.2.2.2.2.2.2.2.2.2.2.2.2.2.2.1, x58.2.2.2.2.2.2.2.2.2.2.2.2.2.2.2.2.2.2.2.2.2.2.2.2.1), x58.2.2.2.2.2.2.2.2.2.2.2.2.2.2.2.2.2.2.2.2.2.2.2.2.2.1, x58.2.2.2.2.2.2.2.2.2.2.2.2.2.2.2.2.2.2.2.2.2.2.2.2.2.2.1), (x58.2.2.2.2.2.2.2.2.2.2.2.2.2.2.2.2.2.2.2.2.2.2.2.2.2.2.2.1, x58.2.2.2.2.2.2.2.2.2.2.2.2.2.2.2.2.2.2.2.2.2.2.2.2.2.2.2.2.1, x58.2.2.2.2.2.2.2.2.2.2.2.2.2.2.2.2.2.2.2.2.2.2.2.2.2.2.2.2.2.1, x58.2.2.2.2.2.2.2.2.2.2.2.2.2.2.2.2.2.2.2.2.2.2.2.2.2.2.2.2.2.2.1), x58.2.2.2.2.2.2.2.2.2.2.2.2.2.2.2.2.2.2.2.2.2.2.2.2.2.2.2.2.2.2.2) [(20, 128, 0, 0, [], [])]).bind fun x59 =>
              bif (x59.2.2.2.2.2.2.1 == x29.2.2.2.2.2.2.1) then
                bif (ibits .and .i64 x59.2.2.2.2.2.2.2.2.2.2.1 128) == 0 then
                  bif (ibits .and .i64 x59.2.2.2.2.2.2.2.2.2.2.1 2) == (ibits .and .i64 x29.2.2.2.2.2.2.2.2.2.2.2.2.1 2) then
                    (screen_Same (x29.1, x29.2.1, x29.2.2.1, x29.2.2.2.1, x29.2.2.2.2.1, x29.2.2.2.2.2.1, false, (x29.2.2.2.2.2.2.2.1, x29.2.2.2.2.2.2.2.2.1, x29.2.2.2.2.2.2.2.2.2.1), x29.2.2.2.2.2.2.2.2.2.2.1, x29.2.2.2.2.2.2.2.2.2.2.2.1, ibits .or .i64 (ibits .andNot .i64 x29.2.2.2.2.2.2.2.2.2.2.2.2.1 2) (ibits .and .i64 x59.2.2.2.2.2.2.2.2.2.2.1 2), ((x29.2.2.2.2.2.2.2.2.2.2.2.2.2.1, x29.2.2.2.2.2.2.2.2.2.2.2.2.2.2.1, (x29.2.2.2.2.2.2.2.2.2.2.2.2.2.2.2.1, x29.2.2.2.2.2.2.2.2.2.2.2.2.2.2.2.2.1, x29.2.2.2.2.2.2.2.2.2.2.2.2.2.2.2.2.2.1), x29.2.2.2.2.2.2.2.2.2.2.2.2.2.2.2.2.2.2.1, x29.2.2.2.2.2.2.2.2.2.2.2.2.2.2.2.2.2.2.2.1), x29.2.2.2.2.2.2.2.2.2.2.2.2.2.2.2.2.2.2.2.2.1, x29.2.2.2.2.2.2.2.2.2.2.2.2.2.2.2.2.2.2.2.2.2.1, (x29.2.2.2.2.2.2.2.2.2.2.2.2.2.2.2.2.2.2.2.2.2.2.1, x29.2.2.2.2.2.2.2.2.2.2.2.2.2.2.2.2.2.2.2.2.2.2.2.1, x29.2.2.2.2.2.2.2.2.2.2.2.2.2.2.2.2.2.2.2.2.2.2.2.2.1), x29.2.2.2.2.2.2.2.2.2.2.2.2.2.2.2.2.2.2.2.2.2.2.2.2.2.1, x29.2.2.2.2.2.2.2.2.2.2.2.2.2.2.2.2.2.2.2.2.2.2.2.2.2.2.1), (x29.2.2.2.2.2.2.2.2.2.2.2.2.2.2.2.2.2.2.2.2.2.2.2.2.2.2.2.1, x29.2.2.2.2.2.2.2.2.2.2.2.2.2.2.2.2.2.2.2.2.2.2.2.2.2.2.2.2.1, x29.2.2.2.2.2.2.2.2.2.2.2.2.2.2.2.2.2.2.2.2.2.2.2.2.2.2.2.2.2.1, x29.2.2.2.2.2.2.2.2.2.2.2.2.2.2.2.2.2.2.2.2.2.2.2.2.2.2.2.2.2.2.1), x29.2.2.2.2.2.2.2.2.2.2.2.2.2.2.2.2.2.2.2.2.2.2.2.2.2.2.2.2.2.2.2) (x59.1, x59.2.1, x59.2.2.1, x59.2.2.2.1, x59.2.2.2.2.1, x59.2.2.2.2.2.1, false, x59.2.2.2.2.2.2.2.1, x29.2.2.2.2.2.2.2.2.2.2.1, x29.2.2.2.2.2.2.2.2.2.2.2.1, ibits .or .i64 (ibits .andNot .i64 x29.2.2.2.2.2.2.2.2.2.2.2.2.1 2) (ibits .and .i64 x59.2.2.2.2.2.2.2.2.2.2.1 2), ((x29.2.2.2.2.2.2.2.2.2.2.2.2.2.1, x29.2.2.2.2.2.2.2.2.2.2.2.2.2.2.1, (x29.2.2.2.2.2.2.2.2.2.2.2.2.2.2.2.1, x29.2.2.2.2.2.2.2.2.2.2.2.2.2.2.2.2.1, x29.2.2.2.2.2.2.2.2.2.2.2.2.2.2.2.2.2.1), x29.2.2.2.2.2.2.2.2.2.2.2.2.2.2.2.2.2.2.1, x29.2.2.2.2.2.2.2.2.2.2.2.2.2.2.2.2.2.2.2.1), x29.2.2.2.2.2.2.2.2.2.2.2.2.2.2.2.2.2.2.2.2.1, x29.2.2.2.2.2.2.2.2.2.2.2.2.2.2.2.2.2.2.2.2.2.1, (x29.2.2.2.2.2.2.2.2.2.2.2.2.2.2.2.2.2.2.2.2.2.2.1, x29.2.2.2.2.2.2.2.2.2.2.2.2.2.2.2.2.2.2.2.2.2.2.2.1, x29.2.2.2.2.2.2.2.2.2.2.2.2.2.2.2.2.2.2.2.2.2.2.2.2.1), x29.2.2.2.2.2.2.2.2.2.2.2.2.2.2.2.2.2.2.2.2.2.2.2.2.2.1, x29.2.2.2.2.2.2.2.2.2.2.2.2.2.2.2.2.2.2.2.2.2.2.2.2.2.2.1), (x29.2.2.2.2.2.2.2.2.2.2.2.2.2.2.2.2.2.2.2.2.2.2.2.2.2.2.2.1, x29.2.2.2.2.2.2.2.2.2.2.2.2.2.2.2.2.2.2.2.2.2.2.2.2.2.2.2.2.1, x29.2.2.2.2.2.2.2.2.2.2.2.2.2.2.2.2.2.2.2.2.2.2.2.2.2.2.2.2.2.1, x29.2.2.2.2.2.2.2.2.2.2.2.2.2.2.2.2.2.2.2.2.2.2.2.2.2.2.2.2.2.2.1), x29.2.2.2.2.2.2.2.2.2.2.2.2.2.2.2.2.2.2.2.2.2.2.2.2.2.2.2.2.2.2.2)).bind fun x60 =>
                    some x60
                  else
                    some false
                else
                  some false
              else
                some false
noncomputable def oriellaw17_ScreenMoves (a0 : Int) (a1 : Int) (a2 : List K86d9.T) (a3 : Int) (a4 : Int) (a5 : Int) : Option (Bool) :=
  ((oriellaw17_known).bind fun x2 =>
    bif !x2 then
      some true
    else
      some false : Option (Bool)).bind fun x3 =>
  bif x3 then
    some false
  else
    (bif decide (a0 < 1) then
        some true
      else
        bif decide (a0 > 20) then
          some true
        else
          bif decide (a1 < 1) then
            some true
          else
            bif decide (a1 > 20) then
              some true
            else
              bif decide ((a2.length : Int) > 40) then
                some true
              else
                (oriellaw17_great a0 a1 a2).bind fun x5 =>
                bif x5 then
                  some true
                else
                  some false : Option (Bool)).bind fun x6 =>
    bif x6 then
      some true
    else
      (screen_New a0 a1).bind fun x7 =>
      (bif x7.2 != 0 then
          some true
        else
          some false : Option (Bool)).bind fun x8 =>
      bif x8 then
        some false
      else
        (screen_Do x7.1 a2).bind fun x9 =>
        (bif decide (a3 < 0) then
            some true
          else
            bif decide (a3 > 5) then
              some true
            else
              some false : Option (Bool)).bind fun x10 =>
        bif x10 then
          some true
        else
          (bif a3 == 0 then
              (screen_Do x9 [(4, a4, a5, 0, [], [])]).bind fun x22 =>
              some (x22.1, x22.2.1, x22.2.2.1, x22.2.2.2.1, x22.2.2.2.2.1, x22.2.2.2.2.2.1, x22.2.2.2.2.2.2.1, x22.2.2.2.2.2.2.2.1.1, x22.2.2.2.2.2.2.2.1.2.1, x22.2.2.2.2.2.2.2.1.2.2, x22.2.2.2.2.2.2.2.2.1, x22.2.2.2.2.2.2.2.2.2.1, x22.2.2.2.2.2.2.2.2.2.2.1, x22.2.2.2.2.2.2.2.2.2.2.2.1.1.1, x22.2.2.2.2.2.2.2.2.2.2.2.1.1.2.1, x22.2.2.2.2.2.2.2.2.2.2.2.1.1.2.2.1.1, x22.2.2.2.2.2.2.2.2.2.2.2.1.1.2.2.1.2.1, x22.2.2.2.2.2.2.2.2.2.2.2.1.1.2.2.1.2.2, x22.2.2.2.2.2.2.2.2.2.2.2.1.1.2.2.2.1, x22.2.2.2.2.2.2.2.2.2.2.2.1.1.2.2.2.2, x22.2.2.2.2.2.2.2.2.2.2.2.1.2.1, x22.2.2.2.2.2.2.2.2.2.2.2.1.2.2.1, x22.2.2.2.2.2.2.2.2.2.2.2.1.2.2.2.1.1, x22.2.2.2.2.2.2.2.2.2.2.2.1.2.2.2.1.2.1, x22.2.2.2.2.2.2.2.2.2.2.2.1.2.2.2.1.2.2, x22.2.2.2.2.2.2.2.2.2.2.2.1.2.2.2.2.1, x22.2.2.2.2.2.2.2.2.2.2.2.1.2.2.2.2.2, x22.2.2.2.2.2.2.2.2.2.2.2.2.1.1, x22.2.2.2.2.2.2.2.2.2.2.2.2.1.2.1, x22.2.2.2.2.2.2.2.2.2.2.2.2.1.2.2.1, x22.2.2.2.2.2.2.2.2.2.2.2.2.1.2.2.2, x22.2.2.2.2.2.2.2.2.2.2.2.2.2)
            else
              bif a3 == 1 then
                (screen_Do x9 [(5, a4, a5, 0, [], [])]).bind fun x21 =>
                some (x21.1, x21.2.1, x21.2.2.1, x21.2.2.2.1, x21.2.2.2.2.1, x21.2.2.2.2.2.1, x21.2.2.2.2.2.2.1, x21.2.2.2.2.2.2.2.1.1, x21.2.2.2.2.2.2.2.1.2.1, x21.2.2.2.2.2.2.2.1.2.2, x21.2.2.2.2.2.2.2.2.1, x21.2.2.2.2.2.2.2.2.2.1, x21.2.2.2.2.2.2.2.2.2.2.1, x21.2.2.2.2.2.2.2.2.2.2.2.1.1.1, x21.2.2.2.2.2.2.2.2.2.2.2.1.1.2.1, x21.2.2.2.2.2.2.2.2.2.2.2.1.1.2.2.1.1, x21.2.2.2.2.2.2.2.2.2.2.2.1.1.2.2.1.2.1, x21.2.2.2.2.2.2.2.2.2.2.2.1.1.2.2.1.2.2, x21.2.2.2.2.2.2.2.2.2.2.2.1.1.2.2.2.1, x21.2.2.2.2.2.2.2.2.2.2.2.1.1.2.2.2.2, x21.2.2.2.2.2.2.2.2.2.2.2.1.2.1, x21.2.2.2.2.2.2.2.2.2.2.2.1.2.2.1, x21.2.2.2.2.2.2.2.2.2.2.2.1.2.2.2.1.1, x21.2.2.2.2.2.2.2.2.2.2.2.1.2.2.2.1.2.1, x21.2.2.2.2.2.2.2.2.2.2.2.1.2.2.2.1.2.2, x21.2.2.2.2.2.2.2.2.2.2.2.1.2.2.2.2.1, x21.2.2.2.2.2.2.2.2.2.2.2.1.2.2.2.2.2, x21.2.2.2.2.2.2.2.2.2.2.2.2.1.1, x21.2.2.2.2.2.2.2.2.2.2.2.2.1.2.1, x21.2.2.2.2.2.2.2.2.2.2.2.2.1.2.2.1, x21.2.2.2.2.2.2.2.2.2.2.2.2.1.2.2.2, x21.2.2.2.2.2.2.2.2.2.2.2.2.2)
              else
                bif a3 == 2 then
                  (screen_Do x9 [(6, a4, a5, 0, [], [])]).bind fun x20 =>
                  some (x20.1, x20.2.1, x20.2.2.1, x20.2.2.2.1, x20.2.2.2.2.1, x20.2.2.2.2.2.1, x20.2.2.2.2.2.2.1, x20.2.2.2.2.2.2.2.1.1, x20.2.2.2.2.2.2.2.1.2.1, x20.2.2.2.2.2.2.2.1.2.2, x20.2.2.2.2.2.2.2.2.1, x20.2.2.2.2.2.2.2.2.2.1, x20.2.2.2.2.2.2.2.2.2.2.1, x20.2.2.2.2.2.2.2.2.2.2.2.1.1.1, x20.2.2.2.2.2.2.2.2.2.2.2.1.1.2.1, x20.2.2.2.2.2.2.2.2.2.2.2.1.1.2.2.1.1, x20.2.2.2.2.2.2.2.2.2.2.2.1.1.2.2.1.2.1, x20.2.2.2.2.2.2.2.2.2.2.2.1.1.2.2.1.2.2, x20.2.2.2.2.2.2.2.2.2.2.2.1.1.2.2.2.1, x20.2.2.2.2.2.2.2.2.2.2.2.1.1.2.2.2.2, x20.2.2.2.2.2.2.2.2.2.2.2.1.2.1, x20.2.2.2.2.2.2.2.2.2.2.2.1.2.2.1, x20.2.2.2.2.2.2.2.2.2.2.2.1.2.2.2.1.1, x20.2.2.2.2.2.2.2.2.2.2.2.1.2.2.2.1.2.1, x20.2.2.2.2.2.2.2.2.2.2.2.1.2.2.2.1.2.2, x20.2.2.2.2.2.2.2.2.2.2.2.1.2.2.2.2.1, x20.2.2.2.2.2.2.2.2.2.2.2.1.2.2.2.2.2, x20.2.2.2.2.2.2.2.2.2.2.2.2.1.1, x20.2.2.2.2.2.2.2.2.2.2.2.2.1.2.1, x20.2.2.2.2.2.2.2.2.2.2.2.2.1.2.2.1, x20.2.2.2.2.2.2.2.2.2.2.2.2.1.2.2.2, x20.2.2.2.2.2.2.2.2.2.2.2.2.2)
                else
                  bif a3 == 3 then
                    (screen_Do x9 [(7, a4, a5, 0, [], [])]).bind fun x19 =>
                    some (x19.1, x19.2.1, x19.2.2.1, x19.2.2.2.1, x19.2.2.2.2.1, x19.2.2.2.2.2.1, x19.2.2.2.2.2.2.1, x19.2.2.2.2.2.2.2.1.1, x19.2.2.2.2.2.2.2.1.2.1, x19.2.2.2.2.2.2.2.1.2.2, x19.2.2.2.2.2.2.2.2.1, x19.2.2.2.2.2.2.2.2.2.1, x19.2.2.2.2.2.2.2.2.2.2.1, x19.2.2.2.2.2.2.2.2.2.2.2.1.1.1, x19.2.2.2.2.2.2.2.2.2.2.2.1.1.2.1, x19.2.2.2.2.2.2.2.2.2.2.2.1.1.2.2.1.1, x19.2.2.2.2.2.2.2.2.2.2.2.1.1.2.2.1.2.1, x19.2.2.2.2.2.2.2.2.2.2.2.1.1.2.2.1.2.2, x19.2.2.2.2.2.2.2.2.2.2.2.1.1.2.2.2.1, x19.2.2.2.2.2.2.2.2.2.2.2.1.1.2.2.2.2, x19.2.2.2.2.2.2.2.2.2.2.2.1.2.1, x19.2.2.2.2.2.2.2.2.2.2.2.1.2.2.1, x19.2.2.2.2.2.2.2.2.2.2.2.1.2.2.2.1.1, x19.2.2.2.2.2.2.2.2.2.2.2.1.2.2.2.1.2.1, x19.2.2.2.2.2.2.2.2.2.2.2.1.2.2.2.1.2.2, x19.2.2.2.2.2.2.2.2.2.2.2.1.2.2.2.2.1, x19.2.2.2.2.2.2.2.2.2.2.2.1.2.2.2.2.2, x19.2.2.2.2.2.2.2.2.2.2.2.2.1.1, x19.2.2.2.2.2.2.2.2.2.2.2.2.1.2.1, x19.2.2.2.2.2.2.2.2.2.2.2.2.1.2.2.1, x19.2.2.2.2.2.2.2.2.2.2.2.2.1.2.2.2, x19.2.2.2.2.2.2.2.2.2.2.2.2.2)
                  else
                    bif a3 == 4 then
                      (screen_Do x9 [(8, a4, a5, 0, [], [])]).bind fun x18 =>
                      some (x18.1, x18.2.1, x18.2.2.1, x18.2.2.2.1, x18.2.2.2.2.1, x18.2.2.2.2.2.1, x18.2.2.2.2.2.2.1, x18.2.2.2.2.2.2.2.1.1, x18.2.2.2.2.2.2.2.1.2.1, x18.2.2.2.2.2.2.2.1.2.2, x18.2.2.2.2.2.2.2.2.1, x18.2.2.2.2.2.2.2.2.2.1, x18.2.2.2.2.2.2.2.2.2.2.1, x18.2.2.2.2.2.2.2.2.2.2.2.1.1.1, x18.2.2.2.2.2.2.2.2.2.2.2.1.1.2.1, x18.2.2.2.2.2.2.2.2.2.2.2.1.1.2.2.1.1, x18.2.2.2.2.2.2.2.2.2.2.2.1.1.2.2.1.2.1, x18.2.2.2.2.2.2.2.2.2.2.2.1.1.2.2.1.2.2, x18.2.2.2.2.2.2.2.2.2.2.2.1.1.2.2.2.1, x18.2.2.2.2.2.2.2.2.2.2.2.1.1.2.2.2.2, x18.2.2.2.2.2.2.2.2.2.2.2.1.2.1, x18.2.2.2.2.2.2.2.2.2.2.2.1.2.2.1, x18.2.2.2.2.2.2.2.2.2.2.2.1.2.2.2.1.1, x18.2.2.2.2.2.2.2.2.2.2.2.1.2.2.2.1.2.1, x18.2.2.2.2.2.2.2.2.2.2.2.1.2.2.2.1.2.2, x18.2.2.2.2.2.2.2.2.2.2.2.1.2.2.2.2.1, x18.2.2.2.2.2.2.2.2.2.2.2.1.2.2.2.2.2, x18.2.2.2.2.2.2.2.2.2.2.2.2.1.1, x18.2.2.2.2.2.2.2.2.2.2.2.2.1.2.1, x18.2.2.2.2.2.2.2.2.2.2.2.2.1.2.2.1, x18.2.2.2.2.2.2.2.2.2.2.2.2.1.2.2.2, x18.2.2.2.2.2.2.2.2.2.2.2.2.2)
                    else
                      bif a3 == 5 then
                        (screen_Do x9 [(9, a4, a5, 0, [], [])]).bind fun x17 =>
                        some (x17.1, x17.2.1, x17.2.2.1, x17.2.2.2.1, x17.2.2.2.2.1, x17.2.2.2.2.2.1, x17.2.2.2.2.2.2.1, x17.2.2.2.2.2.2.2.1.1, x17.2.2.2.2.2.2.2.1.2.1, x17.2.2.2.2.2.2.2.1.2.2, x17.2.2.2.2.2.2.2.2.1, x17.2.2.2.2.2.2.2.2.2.1, x17.2.2.2.2.2.2.2.2.2.2.1, x17.2.2.2.2.2.2.2.2.2.2.2.1.1.1, x17.2.2.2.2.2.2.2.2.2.2.2.1.1.2.1, x17.2.2.2.2.2.2.2.2.2.2.2.1.1.2.2.1.1, x17.2.2.2.2.2.2.2.2.2.2.2.1.1.2.2.1.2.1, x17.2.2.2.2.2.2.2.2.2.2.2.1.1.2.2.1.2.2, x17.2.2.2.2.2.2.2.2.2.2.2.1.1.2.2.2.1, x17.2.2.2.2.2.2.2.2.2.2.2.1.1.2.2.2.2, x17.2.2.2.2.2.2.2.2.2.2.2.1.2.1, x17.2.2.2.2.2.2.2.2.2.2.2.1.2.2.1, x17.2.2.2.2.2.2.2.2.2.2.2.1.2.2.2.1.1, x17.2.2.2.2.2.2.2.2.2.2.2.1.2.2.2.1.2.1, x17.2.2.2.2.2.2.2.2.2.2.2.1.2.2.2.1.2.2, x17.2.2.2.2.2.2.2.2.2.2.2.1.2.2.2.2.1, x17.2.2.2.2.2.2.2.2.2.2.2.1.2.2.2.2.2, x17.2.2.2.2.2.2.2.2.2.2.2.2.1.1, x17.2.2.2.2.2.2.2.2.2.2.2.2.1.2.1, x17.2.2.2.2.2.2.2.2.2.2.2.2.1.2.2.1, x17.2.2.2.2.2.2.2.2.2.2.2.2.1.2.2.2, x17.2.2.2.2.2.2.2.2.2.2.2.2.2)
                      else
                        none : Option (Int × Int × (List (List (Int × K72c5.T))) × (List (List (Int × K72c5.T))) × Int × Int × Bool × Int × Int × Int × Int × Int × Int × Int × Int × Int × Int × Int × Bool × Bool × Int × Int × Int × Int × Int × Bool × Bool × Int × Int × Int × Int × List Int)).bind fun x23 =>
          (bif decide (x23.2.2.2.2.1 < 0) then
              some true
            else
              bif decide (x23.2.2.2.2.1 ≥ x23.1) then
                some true
              else
                bif decide (x23.2.2.2.2.2.1 < 0) then
                  some true
                else
                  bif decide (x23.2.2.2.2.2.1 ≥ x23.2.1) then
                    some true
                  else
                    bif x23.2.2.2.2.2.2.1 then
                      some true
                    else
                      some false : Option (Bool)).bind fun x24 =>
          bif x24 then
            some false
          else
            (screen_Same (x23.1, x23.2.1, x23.2.2.1, x23.2.2.2.1, x9.2.2.2.2.1, x9.2.2.2.2.2.1, x9.2.2.2.2.2.2.1, (x23.2.2.2.2.2.2.2.1, x23.2.2.2.2.2.2.2.2.1, x23.2.2.2.2.2.2.2.2.2.1), x23.2.2.2.2.2.2.2.2.2.2.1, x23.2.2.2.2.2.2.2.2.2.2.2.1, x23.2.2.2.2.2.2.2.2.2.2.2.2.1, ((x23.2.2.2.2.2.2.2.2.2.2.2.2.2.1, x23.2.2.2.2.2.2.2.2.2.2.2.2.2.2.1, (x23.2.2.2.2.2.2.2.2.2.2.2.2.2.2.2.1, x23.2.2.2.2.2.2.2.2.2.2.2.2.2.2.2.2.1, x23.2.2.2.2.2.2.2.2.2.2.2.2.2.2.2.2.2.1), x23.2.2.2.2.2.2.2.2.2.2.2.2.2.2.2.2.2.2.1, x23.2.2.2.2.2.2.2.2.2.2.2.2.2.2.2.2.2.2.2.1), x23.2.2.2.2.2.2.2.2.2.2.2.2.2.2.2.2.2.2.2.2.1, x23.2.2.2.2.2.2.2.2.2.2.2.2.2.2.2.2.2.2.2.2.2.1, (x23.2.2.2.2.2.2.2.2.2.2.2.2.2.2.2.2.2.2.2.2.2.2.1, x23.2.2.2.2.2.2.2.2.2.2.2.2.2.2.2.2.2.2.2.2.2.2.2.1, x23.2.2.2.2.2.2.2.2.2.2.2.2.2.2.2.2.2.2.2.2.2.2.2.2.1), x23.2.2.2.2.2.2.2.2.2.2.2.2.2.2.2.2.2.2.2.2.2.2.2.2.2.1, x23.2.2.2.2.2.2.2.2.2.2.2.2.2.2.2.2.2.2.2.2.2.2.2.2.2.2.1), (x23.2.2.2.2.2.2.2.2.2.2.2.2.2.2.2.2.2.2.2.2.2.2.2.2.2.2.2.1, x23.2.2.2.2.2.2.2.2.2.2.2.2.2.2.2.2.2.2.2.2.2.2.2.2.2.2.2.2.1, x23.2.2.2.2.2.2.2.2.2.2.2.2.2.2.2.2.2.2.2.2.2.2.2.2.2.2.2.2.2.1, x23.2.2.2.2.2.2.2.2.2.2.2.2.2.2.2.2.2.2.2.2.2.2.2.2.2.2.2.2.2.2.1), x23.2.2.2.2.2.2.2.2.2.2.2.2.2.2.2.2.2.2.2.2.2.2.2.2.2.2.2.2.2.2.2) x9).bind fun x25 =>
            some x25
end Go.SH
namespace Go.SH

theorem w64 (x : Int) : IntKind.i64.wrap x = (x + 9223372036854775808) % 18446744073709551616 - 9223372036854775808 := by
  simp [IntKind.wrap, IntKind.signed, IntKind.bits]
  omega
theorem w64id {x : Int} (h : -9223372036854775808 ≤ x ∧ x ≤ 9223372036854775807) : IntKind.i64.wrap x = x := by rw [w64]; omega
theorem dec_t {p : Prop} [Decidable p] (h : p) : decide p = true := by simp [h]
theorem dec_f {p : Prop} [Decidable p] (h : ¬ p) : decide p = false := by simp [h]
theorem getI_nat {α : Type} (l : List α) (i : Nat) : getI l (i : Int) = l[i]? := by simp [getI]

abbrev PenT := Int × Int × Int
abbrev CellT := Int × (Int × Int) × Int × Int × Int × Int
def mayPen (p : PenT) : Bool := decide (0 ≤ p.1 ∧ p.1 ≤ 255) && (decide (0 ≤ p.2.1 ∧ p.2.1 ≤ 256) && decide (0 ≤ p.2.2 ∧ p.2.2 ≤ 256))
theorem pen_May_1_eq (a m : Int) : pen_May_1 a m = some (decide (0 ≤ a ∧ a ≤ m)) := by
  unfold pen_May_1
  by_cases h : 0 ≤ a
  · rw [dec_t (by omega : a ≥ 0)]; simp [h]
  · rw [dec_f (by omega : ¬ a ≥ 0)]; simp [h]
theorem pen_May_eq (p : PenT) : pen_May p = some (mayPen p) := by
  unfold pen_May mayPen
  simp only [pen_May_1_eq, Option.bind_some]
  cases decide (0 ≤ p.1 ∧ p.1 ≤ 255) <;> cases decide (0 ≤ p.2.1 ∧ p.2.1 ≤ 256) <;> rfl

/-! ### columns of a code point -/
def colsBad (c : Int) : Bool := decide (c < 32) || (decide (127 ≤ c) && decide (c < 160)) || (decide (55296 ≤ c) && decide (c ≤ 57343)) || decide (1114111 < c)
def colsOf (c : Int) : Int := bif colsBad c then -1 else match tab_bounds.find? (fun e => decide (c ≤ e.2.1)) with
  | some e => bif decide (e.1 ≤ c) then e.2.2 else 1
  | none => 1

theorem find_first {α : Type} {q : α → Bool} : ∀ {l : List α} {k : Nat}, (∀ i x, i < k → l[i]? = some x → q x = false) → (∀ x, l[k]? = some x → q x = true) → l.find? q = l[k]?
  | [], k, _, _ => by simp
  | x :: l, 0, _, h2 => by simp [List.find?, h2 x rfl]
  | x :: l, k + 1, h1, h2 => by
    rw [List.find?, h1 0 x (by omega) rfl]
    exact find_first (l := l) (k := k) (fun i y hi hy => h1 (i + 1) y (by omega) (by simpa using hy)) fun y hy => h2 y (by simpa using hy)

def tabP (c : Int) (i : Nat) : Bool := match tab_bounds[i]? with
  | some e => decide (c ≤ e.2.1)
  | none => true
theorem tab_mono : ∀ i j : _root_.Fin 22, i.val ≤ j.val → (match tab_bounds[i.val]?, tab_bounds[j.val]? with | some a, some b => decide (a.2.1 ≤ b.2.1) | _, _ => false) = true := by decide +kernel
theorem tabP_mono {c : Int} {i j : Nat} (hj : j < 22) (hij : i ≤ j) (h : tabP c i = true) : tabP c j = true := by
  have hm := tab_mono ⟨i, by omega⟩ ⟨j, hj⟩ hij
  unfold tabP at h ⊢
  simp only at hm
  split at hm
  · rename_i a b ha hb
    rw [ha] at h; rw [hb]
    simp at hm h ⊢
    omega
  · simp at hm
theorem tab_len : tab_bounds.length = 22 := by decide +kernel

theorem half (lo hi : Nat) (h : lo + hi < 100) : IntKind.i64.wrap (Int.fdiv (IntKind.u64.wrap (IntKind.i64.wrap ((lo : Int) + (hi : Int)))) (2 ^ 1)) = (((lo + hi) / 2 : Nat) : Int) := by
  have h1 : IntKind.i64.wrap ((lo : Int) + (hi : Int)) = ((lo + hi : Nat) : Int) := by rw [w64]; omega
  rw [h1]
  have h2 : IntKind.u64.wrap ((lo + hi : Nat) : Int) = ((lo + hi : Nat) : Int) := by simp [IntKind.wrap, IntKind.signed, IntKind.bits]; omega
  rw [h2, Int.fdiv_eq_ediv_of_nonneg _ (by decide), w64]
  omega

theorem search_step_in {c : Int} {lo hi : Nat} (h : lo < hi) (hh : hi ≤ 22) : sort_Search_4a9_loop1 c ((lo : Int), (hi : Int)) = some (.inr (bif tabP c ((lo + hi) / 2) then ((lo : Int), (((lo + hi) / 2 : Nat) : Int)) else ((((lo + hi) / 2 + 1 : Nat) : Int), (hi : Int)))) := by
  unfold sort_Search_4a9_loop1 cols_Of_1_030
  rw [dec_t (by simpa using h : (((lo : Int), (hi : Int)) : Int × Int).1 < (((lo : Int), (hi : Int)) : Int × Int).2)]
  simp only [half lo hi (by omega), getI_nat, tabP, cond_true, Option.bind_some]
  have hl : (lo + hi) / 2 < tab_bounds.length := by rw [tab_len]; omega
  rw [List.getElem?_eq_getElem hl]
  simp only [Option.bind_some, ge_iff_le]
  by_cases hp : c ≤ (tab_bounds[(lo + hi) / 2]).2.1
  · simp [hp]
  · simp only [dec_f hp, Bool.not_false, cond_true, Option.bind_some, cond_false]
    rw [w64id (by omega)]; rfl
theorem search_step_end {c : Int} {lo : Nat} : sort_Search_4a9_loop1 c ((lo : Int), (lo : Int)) = some (.inl (lo : Int)) := by
  unfold sort_Search_4a9_loop1
  simp
theorem search_loop {c : Int} : ∀ (m lo hi : Nat), hi - lo ≤ m → lo ≤ hi → hi ≤ 22 → (∀ i, i < lo → tabP c i = false) → (∀ i, hi ≤ i → i < 22 → tabP c i = true) →
    ∃ k : Nat, k ≤ 22 ∧ loopO (sort_Search_4a9_loop1 c) ((lo : Int), (hi : Int)) = some (k : Int) ∧ (∀ i, i < k → tabP c i = false) ∧ ∀ i, k ≤ i → i < 22 → tabP c i = true
  | m, lo, hi, hm, h1, h2, h3, h4 => by
    by_cases he : lo = hi
    · subst he
      exact ⟨lo, h2, by rw [loopO_eq, search_step_end], h3, h4⟩
    · cases m with
      | zero => omega
      | succ m =>
        rw [loopO_eq, search_step_in (by omega) h2]
        cases hp : tabP c ((lo + hi) / 2) with
        | true => exact search_loop m lo ((lo + hi) / 2) (by omega) (by omega) (by omega) h3 fun i hi1 hi2 => tabP_mono hi2 hi1 hp
        | false =>
          refine search_loop m ((lo + hi) / 2 + 1) hi (by omega) (by omega) h2 (fun i hi1 => ?_) h4
          cases hq : tabP c i with
          | false => rfl
          | true => rw [tabP_mono (by omega) (by omega : i ≤ (lo + hi) / 2) hq] at hp; simp at hp
theorem cols_Of_eq (c : Int) : cols_Of c = some (colsOf c) := by
  unfold cols_Of colsOf
  have hb : ∀ (x : Option Int), (bif decide (c < 32) then some true else bif decide (c ≥ 127) then bif decide (c < 160) then some true else bif decide (c ≥ 55296) then bif decide (c ≤ 57343) then some true else bif decide (c > 1114111) then some true else some false else bif decide (c > 1114111) then some true else some false
      else bif decide (c ≥ 55296) then bif decide (c ≤ 57343) then some true else bif decide (c > 1114111) then some true else some false else bif decide (c > 1114111) then some true else some false : Option Bool) = some (colsBad c) := by
    intro _
    unfold colsBad
    simp only [ge_iff_le, gt_iff_lt]
    cases decide (c < 32) <;> cases decide (127 ≤ c) <;> cases decide (c < 160) <;> cases decide (55296 ≤ c) <;> cases decide (c ≤ 57343) <;> cases decide (1114111 < c) <;> rfl
  rw [hb none]
  simp only [Option.bind_some]
  cases colsBad c with
  | true => rfl
  | false =>
    simp only [cond_false]
    unfold sort_Search_4a9
    obtain ⟨k, k1, k2, k3, k4⟩ := search_loop (c := c) 22 0 22 (by omega) (by omega) (by omega) (by omega) (by omega)
    have k2' : loopO (sort_Search_4a9_loop1 c) (0, 22) = some (k : Int) := k2
    rw [k2']
    simp only [Option.bind_some]
    have hf : tab_bounds.find? (fun e => decide (c ≤ e.2.1)) = tab_bounds[k]? := find_first (fun i x hi hx => by
        have := k3 i hi; unfold tabP at this; rw [hx] at this; exact this) fun x hx => by
        have := k4 k (Nat.le_refl _) (by have := (List.getElem?_eq_some_iff.1 hx).1; rw [tab_len] at this; exact this)
        unfold tabP at this; rw [hx] at this; exact this
    rw [hf]
    by_cases hk : k < 22
    · rw [dec_t (by omega : (k : Int) < 22)]
      have hl : k < tab_bounds.length := by rw [tab_len]; exact hk
      simp only [cond_true, getI_nat, List.getElem?_eq_getElem hl, Option.bind_some]
      have hw : ∀ i : _root_.Fin 22, (match tab_bounds[i.val]? with | some e => decide (0 ≤ e.2.2 ∧ e.2.2 ≤ 2) | none => false) = true := by decide +kernel
      have hw' := hw ⟨k, hk⟩
      simp only [List.getElem?_eq_getElem hl, decide_eq_true_eq] at hw'
      cases decide ((tab_bounds[k]).1 ≤ c) with
      | true => simp only [cond_true, Option.bind_some]; rw [w64id (by omega)]
      | false => rfl
    · rw [dec_f (by omega : ¬ (k : Int) < 22), List.getElem?_eq_none (by rw [tab_len]; omega)]
      rfl
end Go.SH
namespace Go.SH

/-! ### loops over an index -/
def firstAt {R : Type} (P : Nat → Option R) : Nat → Nat → Option R
  | _, 0 => none
  | i, m + 1 => match P i with
    | some r => some r
    | none => firstAt P (i + 1) m
def stepO {R : Type} (o : Option R) (i : Nat) : R ⊕ Int := match o with
  | some r => .inl r
  | none => .inr ((i + 1 : Nat) : Int)
def badAt {α : Type} (f : α → Bool) (l : List α) (i : Nat) : Bool := match l[i]? with
  | some x => f x
  | none => false
def idxOf (bad : Nat → Bool) (i : Nat) : Option (Int ⊕ Unit) := bif bad i then some (.inl (i : Int)) else none
theorem loop_for {R : Type} {step : Int → Option (R ⊕ Int)} {n : Nat} {P : Nat → Option R} {e : R} (hin : ∀ i : Nat, i < n → step (i : Int) = some (stepO (P i) i)) (hend : step (n : Int) = some (.inl e)) :
    ∀ (m i : Nat), i + m = n → loopO step (i : Int) = some ((firstAt P i m).getD e)
  | 0, i, h => by
    have : i = n := by omega
    subst this
    rw [loopO_eq, hend]; rfl
  | m + 1, i, h => by
    rw [loopO_eq, hin i (by omega)]
    unfold firstAt
    cases hp : P i with
    | some r => rfl
    | none => exact loop_for hin hend m (i + 1) (by omega)
theorem firstAt_none {R : Type} {P : Nat → Option R} : ∀ {m i : Nat}, firstAt P i m = none ↔ ∀ j, i ≤ j → j < i + m → P j = none
  | 0, i => by simp [firstAt]; omega
  | m + 1, i => by
    unfold firstAt
    cases hp : P i with
    | some r =>
      simp only [reduceCtorEq, false_iff]
      intro h; rw [h i (by omega) (by omega)] at hp; simp at hp
    | none =>
      simp only
      rw [firstAt_none]
      constructor
      · intro h j h1 h2
        by_cases e : j = i
        · subst e; exact hp
        · exact h j (by omega) (by omega)
      · intro h j h1 h2; exact h j (by omega) (by omega)
/-- A loop that asks the same of each index. -/
theorem loop_all {R : Type} {step : Int → Option (R ⊕ Int)} {n : Nat} {ok : Nat → Bool} {e b : R} (hin : ∀ i : Nat, i < n → step (i : Int) = some (bif ok i then .inr ((i + 1 : Nat) : Int) else .inl b)) (hend : step (n : Int) = some (.inl e)) :
    loopO step 0 = some (bif (List.range n).all ok then e else b) := by
  have h := loop_for (step := step) (n := n) (P := fun i => bif ok i then none else some b) (e := e) (fun i hi => by rw [hin i hi]; cases ok i <;> rfl) hend n 0 (by omega)
  rw [show ((0 : Nat) : Int) = 0 from rfl] at h
  rw [h]
  congr 1
  have key : ∀ (m i : Nat), (firstAt (fun i => bif ok i then none else some b) i m).getD e = bif (List.range' i m).all ok then e else b := by
    intro m
    induction m with
    | zero => intro i; rfl
    | succ m ih =>
      intro i
      unfold firstAt
      rw [List.range'_succ, List.all_cons]
      cases ok i with
      | true => simp only [cond_true, Bool.true_and]; exact ih (i + 1)
      | false => rfl
  rw [key n 0, List.range_eq_range']

/-! ### cells and lines -/
def markedM (m : Int × Int) : Bool := bif m.1 == 0 then m.2 == 0 else (colsOf m.1 == 0) && ((m.2 == 0) || (colsOf m.2 == 0))
theorem line_marked_eq (m : Int × Int) : line_marked m = some (markedM m) := by
  unfold line_marked markedM
  simp only [cols_Of_eq, Option.bind_some]
  cases (m.1 == 0) <;> cases (colsOf m.1 == 0) <;> cases (m.2 == 0) <;> simp
def mayCell (c : CellT) : Bool := bif (c.2.2.1 == 0) || (c.2.2.1 == 1) then mayPen c.2.2.2 && ((colsOf c.1 == c.2.2.1 + 1) && markedM c.2.1)
  else (c.2.2.1 == 2) && (mayPen c.2.2.2 && ((c.1 == 0) && ((c.2.1.1 == 0) && (c.2.1.2 == 0))))
theorem line_may_eq (c : CellT) : line_may c = some (mayCell c) := by
  unfold line_may mayCell
  simp only [pen_May_eq, cols_Of_eq, line_marked_eq, Option.bind_some, beq_self_eq_true, Bool.and_true, Bool.true_and]
  by_cases h0 : c.2.2.1 = 0
  · rw [h0]
    simp only [beq_self_eq_true, cond_true, Option.bind_some, Bool.true_or]
    rw [w64id (by omega)]
    cases mayPen c.2.2.2 <;> cases (colsOf c.1 == 0 + 1) <;> rfl
  · have e0 : (c.2.2.1 == 0) = false := by simpa using h0
    rw [e0]
    by_cases h1 : c.2.2.1 = 1
    · rw [h1]
      simp only [cond_false, Option.bind_some, beq_self_eq_true, cond_true, Bool.or_true]
      rw [w64id (by omega)]
      cases mayPen c.2.2.2 <;> cases (colsOf c.1 == 1 + 1) <;> rfl
    · have e1 : (c.2.2.1 == 1) = false := by simpa using h1
      rw [e1]
      simp only [cond_false, Option.bind_some, Bool.or_self]
      cases (c.2.2.1 == 2) <;> cases mayPen c.2.2.2 <;> simp

/-- What is asked of the i-th cell of a line. -/
def okAt (l : List CellT) (i : Nat) : Bool := match l[i]? with
  | some c =>
    let left := decide (0 < i) && match l[i - 1]? with | some d => d.2.2.1 == 1 | none => false
    mayCell c && ((left == (c.2.2.1 == 2)) && ((!left || match l[i - 1]? with | some d => d.2.2.2 == c.2.2.2 | none => false) && !((c.2.2.1 == 1) && (i + 1 == l.length))))
  | none => true
def mayLine (l : List CellT) : Bool := decide (l.length ≤ 1000) && (List.range l.length).all (okAt l)
theorem pen_beq (p q : PenT) : ((p.1 == q.1) && ((p.2.1 == q.2.1) && ((p.2.2 == q.2.2) && true))) = (p == q) := by
  obtain ⟨a, b, c⟩ := p; obtain ⟨a', b', c'⟩ := q
  simp only [Bool.and_true]
  rfl
theorem line_May_step {l : List CellT} {i : Nat} (h : i < l.length) (hb : l.length ≤ 1000) : line_May_loop1 l (i : Int) = some (bif okAt l i then .inr ((i + 1 : Nat) : Int) else .inl (.inl ())) := by
  unfold line_May_loop1 okAt
  rw [dec_t (by omega : (i : Int) < (l.length : Int))]
  simp only [Option.bind_some, cond_true, getI_nat, List.getElem?_eq_getElem h, line_may_eq]
  have hw : IntKind.i64.wrap ((i : Int) + 1) = ((i + 1 : Nat) : Int) := by rw [w64id (by omega)]; rfl
  have hl : (decide ((i : Int) = IntKind.i64.wrap ((l.length : Int) - 1))) = (i + 1 == l.length) := by
    rw [w64id (by omega), Bool.eq_iff_iff]
    simp only [decide_eq_true_eq, beq_iff_eq]
    omega
  have hl' : ((i : Int) == IntKind.i64.wrap ((l.length : Int) - 1)) = (i + 1 == l.length) := by rw [← hl]; rfl
  rw [hw, hl']
  by_cases h0 : 0 < i
  · rw [dec_t (by omega : (i : Int) > 0), dec_t h0]
    have hp : IntKind.i64.wrap ((i : Int) - 1) = ((i - 1 : Nat) : Int) := by rw [w64id (by omega)]; omega
    have hi : i - 1 < l.length := by omega
    simp only [cond_true, hp, getI_nat, List.getElem?_eq_getElem hi, Option.bind_some, Bool.true_and, pen_beq]
    cases mayCell l[i] <;> cases (l[i - 1].2.2.1 == 1) <;> cases (l[i].2.2.1 == 2) <;> cases (l[i - 1].2.2.2 == l[i].2.2.2) <;> cases (l[i].2.2.1 == 1) <;> cases (i + 1 == l.length) <;> rfl
  · rw [dec_f (by omega : ¬ (i : Int) > 0), dec_f h0]
    simp only [cond_false, Option.bind_some, Bool.false_and, Bool.not_false, Bool.true_or, Bool.true_and]
    cases mayCell l[i] <;> cases (l[i].2.2.1 == 2) <;> cases (l[i].2.2.1 == 1) <;> cases (i + 1 == l.length) <;> rfl
theorem line_May_end {l : List CellT} : line_May_loop1 l (l.length : Int) = some (.inl (.inr ())) := by simp [line_May_loop1]
theorem line_May_eq (l : List CellT) : line_May l = some (mayLine l) := by
  unfold line_May mayLine
  by_cases hb : l.length ≤ 1000
  · rw [dec_f (by omega : ¬ (l.length : Int) > 1000), dec_t hb]
    simp only [cond_false, Option.bind_some, Bool.true_and]
    rw [loop_all (n := l.length) (ok := okAt l) (fun i hi => line_May_step hi hb) line_May_end]
    cases (List.range l.length).all (okAt l) <;> rfl
  · rw [dec_t (by omega : (l.length : Int) > 1000), dec_f hb]
    rfl
end Go.SH
namespace Go.SH

theorem contains_idx {bad : Nat → Bool} : ∀ (m i : Nat), ((match (firstAt (idxOf bad) i m).getD (.inr ()) with | .inl x => some x | .inr _ => some (-1) : Option Int).bind fun x => some (decide (x ≥ 0))) = some ((List.range' i m).any bad)
  | 0, i => by simp [firstAt]
  | m + 1, i => by
    unfold firstAt idxOf
    rw [List.range'_succ, List.any_cons]
    cases hb : bad i with
    | true => simp
    | false => simp only [cond_false, Bool.false_or]; exact contains_idx m (i + 1)
theorem any_idx {α : Type} {f : α → Bool} : ∀ (l : List α), (List.range l.length).any (badAt f l) = l.any f := by
  intro l
  rw [Bool.eq_iff_iff]
  simp only [List.any_eq_true, List.mem_range, badAt]
  constructor
  · rintro ⟨i, hi, h⟩
    rw [List.getElem?_eq_getElem hi] at h
    exact ⟨_, List.getElem_mem hi, h⟩
  · rintro ⟨x, hx, h⟩
    obtain ⟨i, hi, rfl⟩ := List.mem_iff_getElem.1 hx
    exact ⟨i, hi, by rw [List.getElem?_eq_getElem hi]; exact h⟩
theorem grid_side_eq (n : Int) : grid_side n = some (decide (1 ≤ n ∧ n ≤ 200)) := by
  unfold grid_side
  by_cases h : 1 ≤ n
  · rw [dec_t (by omega : n ≥ 1)]; simp [h]
  · rw [dec_f (by omega : ¬ n ≥ 1)]; simp [h]
abbrev GridT := List (List CellT)
/-- How wide a grid is. -/
def widthG (g : GridT) : Nat := match g with
  | [] => 0
  | l :: _ => l.length
def mayGrid (g : GridT) : Bool := decide (1 ≤ g.length ∧ g.length ≤ 200) && (decide (1 ≤ widthG g ∧ widthG g ≤ 200) && g.all fun l => (l.length == widthG g) && mayLine l)
theorem widthG_get {g : GridT} {l : List CellT} (h : g[0]? = some l) : widthG g = l.length := by
  cases g with
  | nil => simp at h
  | cons x g => simp at h; subst h; rfl
theorem grid_May_1_eq {l : List CellT} {g : GridT} (h : g ≠ []) : grid_May_1_649 l g = some (!((l.length == widthG g) && mayLine l)) := by
  unfold grid_May_1_649
  cases g with
  | nil => exact absurd rfl h
  | cons x g =>
    rw [show (0 : Int) = ((0 : Nat) : Int) from rfl, getI_nat]
    simp only [List.getElem?_cons_zero, Option.bind_some, line_May_eq, widthG]
    have e : ((l.length : Int) != (x.length : Int)) = !(l.length == x.length) := by
      rw [Bool.eq_iff_iff]; simp; omega
    rw [e]
    cases (l.length == x.length) <;> rfl
theorem index_dd0_step {a g : GridT} (hg : g ≠ []) (ha : a.length ≤ 1000) {i : Nat} (hi : i < a.length) : slices_IndexFunc_dd0_loop1 a g (i : Int) = some (stepO (idxOf (badAt (fun l => !((l.length == widthG g) && mayLine l)) a) i) i) := by
  unfold slices_IndexFunc_dd0_loop1 stepO idxOf badAt
  rw [dec_t (by omega : (i : Int) < (a.length : Int))]
  simp only [Option.bind_some, cond_true, getI_nat, List.getElem?_eq_getElem hi, grid_May_1_eq hg]
  have hw : IntKind.i64.wrap ((i : Int) + 1) = ((i + 1 : Nat) : Int) := by rw [w64id (by omega)]; rfl
  rw [hw]
  cases (!((a[i].length == widthG g) && mayLine a[i])) <;> rfl
theorem contains_dd0_eq {a g : GridT} (hg : g ≠ []) (ha : a.length ≤ 1000) : slices_ContainsFunc_dd0 a g = some (a.any fun l => !((l.length == widthG g) && mayLine l)) := by
  unfold slices_ContainsFunc_dd0 slices_IndexFunc_dd0
  have h := loop_for (step := slices_IndexFunc_dd0_loop1 a g) (n := a.length) (P := idxOf (badAt (fun l => !((l.length == widthG g) && mayLine l)) a)) (e := (.inr ())) (fun i hi => index_dd0_step hg ha hi) (by simp [slices_IndexFunc_dd0_loop1]) a.length 0 (by omega)
  rw [show ((0 : Nat) : Int) = 0 from rfl] at h
  rw [h]
  simp only [Option.bind_some]
  have := contains_idx (bad := badAt (fun l => !((l.length == widthG g) && mayLine l)) a) a.length 0
  rw [← List.range_eq_range', any_idx] at this
  exact this
theorem grid_May_eq {g : GridT} (hb : g.length ≤ 140737488355328) : grid_May g = some (mayGrid g) := by
  unfold grid_May mayGrid
  simp only [grid_side_eq, Option.bind_some]
  by_cases h : 1 ≤ g.length ∧ g.length ≤ 200
  · rw [dec_t h, dec_t (by omega : 1 ≤ (g.length : Int) ∧ (g.length : Int) ≤ 200)]
    have hne : g ≠ [] := by intro e; subst e; simp at h
    obtain ⟨l, hl⟩ : ∃ l, g[0]? = some l := ⟨_, List.getElem?_eq_getElem (by omega : 0 < g.length)⟩
    have hwd := widthG_get hl
    rw [show (0 : Int) = ((0 : Nat) : Int) from rfl, getI_nat, hl]
    simp only [Bool.not_true, cond_false, Option.bind_some, Bool.true_and]
    by_cases h2 : 1 ≤ l.length ∧ l.length ≤ 200
    · rw [dec_t (by omega : 1 ≤ widthG g ∧ widthG g ≤ 200), dec_t (by omega : 1 ≤ (l.length : Int) ∧ (l.length : Int) ≤ 200)]
      simp only [Bool.not_true, cond_false, Option.bind_some, Bool.true_and]
      rw [contains_dd0_eq hne (by omega)]
      simp only [Option.bind_some, List.not_any_eq_all_not, Bool.not_not]
    · rw [dec_f (by omega : ¬ (1 ≤ widthG g ∧ widthG g ≤ 200)), dec_f (by omega : ¬ (1 ≤ (l.length : Int) ∧ (l.length : Int) ≤ 200))]
      rfl
  · rw [dec_f h, dec_f (by omega : ¬ (1 ≤ (g.length : Int) ∧ (g.length : Int) ≤ 200))]
    rfl
end Go.SH
namespace Go.SH

abbrev SpotT := Int × Int × PenT × Bool × Bool
abbrev ScrT := Int × Int × GridT × GridT × Int × Int × Bool × PenT × Int × Int × Int × (SpotT × SpotT) × (Int × Int × Int × Int) × List Int
def maySpot (x : SpotT) : Bool := decide (0 ≤ x.1 ∧ x.1 < 200) && (decide (0 ≤ x.2.1 ∧ x.2.1 < 200) && mayPen x.2.2.1)
theorem screen_spot_1_eq (n : Int) : screen_spot_1 n = some (decide (0 ≤ n ∧ n < 200)) := by
  unfold screen_spot_1
  by_cases h : 0 ≤ n
  · rw [dec_t (by omega : n ≥ 0)]; simp [h]
  · rw [dec_f (by omega : ¬ n ≥ 0)]; simp [h]
theorem screen_spot_eq (x : SpotT) : screen_spot x = some (maySpot x) := by
  unfold screen_spot maySpot
  simp only [screen_spot_1_eq, pen_May_eq, Option.bind_some]
  cases decide (0 ≤ x.1 ∧ x.1 < 200) <;> cases decide (0 ≤ x.2.1 ∧ x.2.1 < 200) <;> rfl
theorem screen_May_1_eq (n m : Int) : screen_May_1_1b3 n m = some (decide (0 ≤ n ∧ n < m)) := by
  unfold screen_May_1_1b3
  by_cases h : 0 ≤ n
  · rw [dec_t (by omega : n ≥ 0)]; simp [h]
  · rw [dec_f (by omega : ¬ n ≥ 0)]; simp [h]
def mayTitle (l : List Int) : Bool := decide (l.length ≤ 60) && l.all fun c => decide (1 ≤ colsOf c)
theorem index_c49_step {a : List Int} (ha : a.length ≤ 60) {i : Nat} (hi : i < a.length) : slices_IndexFunc_c49_loop1 a (i : Int) = some (stepO (idxOf (badAt (fun c => !decide (1 ≤ colsOf c)) a) i) i) := by
  unfold slices_IndexFunc_c49_loop1 stepO idxOf badAt
  rw [dec_t (by omega : (i : Int) < (a.length : Int))]
  simp only [Option.bind_some, cond_true, getI_nat, List.getElem?_eq_getElem hi, screen_titled_1, cols_Of_eq]
  have hw : IntKind.i64.wrap ((i : Int) + 1) = ((i + 1 : Nat) : Int) := by rw [w64id (by omega)]; rfl
  rw [hw]
  have e : decide (colsOf a[i] < 1) = !decide (1 ≤ colsOf a[i]) := by rw [Bool.eq_iff_iff]; simp
  rw [e]
  cases (!decide (1 ≤ colsOf a[i])) <;> rfl
theorem screen_titled_eq (l : List Int) : screen_titled l = some (mayTitle l) := by
  unfold screen_titled mayTitle
  by_cases h : l.length ≤ 60
  · rw [dec_t (by omega : (l.length : Int) ≤ 60), dec_t h]
    simp only [cond_true, Bool.true_and]
    unfold slices_ContainsFunc_c49 slices_IndexFunc_c49
    have h1 := loop_for (step := slices_IndexFunc_c49_loop1 l) (n := l.length) (P := idxOf (badAt (fun c => !decide (1 ≤ colsOf c)) l)) (e := (.inr ())) (fun i hi => index_c49_step h hi) (by simp [slices_IndexFunc_c49_loop1]) l.length 0 (by omega)
    rw [show ((0 : Nat) : Int) = 0 from rfl] at h1
    rw [h1]
    simp only [Option.bind_some]
    have h2 := contains_idx (bad := badAt (fun c => !decide (1 ≤ colsOf c)) l) l.length 0
    rw [← List.range_eq_range', any_idx] at h2
    have h3 := congrArg (fun o => Option.bind o fun x1 => some (!x1)) h2
    simp only [Option.bind_some, List.not_any_eq_all_not, Bool.not_not] at h3
    exact h3
  · rw [dec_f (by omega : ¬ (l.length : Int) ≤ 60), dec_f h]
    rfl
/-- Is a grid one of that size? -/
def sizedM (g : GridT) (rows cols : Int) : Bool := mayGrid g && (((g.length : Int) == rows) && ((widthG g : Int) == cols))
theorem screen_sized_eq {g : GridT} {s : ScrT} (hb : g.length ≤ 140737488355328) : screen_sized g s = some (sizedM g s.1 s.2.1) := by
  unfold screen_sized sizedM
  rw [grid_May_eq hb]
  simp only [Option.bind_some]
  cases hm : mayGrid g with
  | false => rfl
  | true =>
    simp only [cond_true, Bool.true_and]
    cases ((g.length : Int) == s.1) with
    | false => rfl
    | true =>
      have hl : 1 ≤ g.length := by
        simp only [mayGrid, Bool.and_eq_true, decide_eq_true_eq] at hm; exact hm.1.1
      obtain ⟨l, hl⟩ : ∃ l, g[0]? = some l := ⟨_, List.getElem?_eq_getElem (by omega : 0 < g.length)⟩
      rw [show (0 : Int) = ((0 : Nat) : Int) from rfl, getI_nat, hl, widthG_get hl]
      rfl
def otherM (modes : Int) : Bool := ibits .and .i64 modes 128 != 0
def mayScr (s : ScrT) : Bool :=
  (sizedM s.2.2.1 s.1 s.2.1 && ((otherM s.2.2.2.2.2.2.2.2.2.2.1 == decide (0 < s.2.2.2.1.length)) && (!otherM s.2.2.2.2.2.2.2.2.2.2.1 || sizedM s.2.2.2.1 s.1 s.2.1))) &&
  ((decide (0 ≤ s.2.2.2.2.1 ∧ s.2.2.2.2.1 < s.1) && (decide (0 ≤ s.2.2.2.2.2.2.2.2.1 ∧ s.2.2.2.2.2.2.2.2.1 < s.1) && (decide (0 ≤ s.2.2.2.2.2.2.2.2.2.1 ∧ s.2.2.2.2.2.2.2.2.2.1 < s.1) && (decide (0 ≤ s.2.2.2.2.2.1) && (decide (s.2.2.2.2.2.1 < s.2.1) && (!s.2.2.2.2.2.2.1 || decide (s.2.1 - 1 ≤ s.2.2.2.2.2.1))))))) &&
  ((!decide (s.2.2.2.2.2.2.2.2.2.1 ≤ s.2.2.2.2.2.2.2.2.1) || decide (s.1 ≤ 1)) && (decide (0 ≤ s.2.2.2.2.2.2.2.2.2.2.1) && decide (s.2.2.2.2.2.2.2.2.2.2.1 ≤ 255))) &&
  (mayPen s.2.2.2.2.2.2.2.1 && (maySpot s.2.2.2.2.2.2.2.2.2.2.2.1.1 && (maySpot s.2.2.2.2.2.2.2.2.2.2.2.1.2 && mayTitle s.2.2.2.2.2.2.2.2.2.2.2.2.2))))
theorem screen_May_eq {s : ScrT} (h1 : s.2.2.1.length ≤ 140737488355328) (h2 : s.2.2.2.1.length ≤ 140737488355328) : screen_May s = some (mayScr s) := by
  obtain ⟨rows, cols, grid, main, row, col, late, pen, top, bottom, modes, saved, tabs, title⟩ := s
  simp only at h1 h2
  unfold screen_May mayScr
  simp only [screen_sized_eq (s := (rows, cols, grid, main, row, col, late, pen, top, bottom, modes, saved, tabs, title)) h1, screen_sized_eq (s := (rows, cols, grid, main, row, col, late, pen, top, bottom, modes, saved, tabs, title)) h2, screen_May_1_eq, pen_May_eq, screen_spot_eq, screen_titled_eq, Option.bind_some]
  have hm : decide ((main.length : Int) > 0) = decide (0 < main.length) := by rw [Bool.eq_iff_iff]; simp
  rw [hm]
  have ho : (ibits .and .i64 modes 128 != 0) = otherM modes := rfl
  rw [ho]
  cases hs : sizedM grid rows cols with
  | false => rfl
  | true =>
    have hr : 1 ≤ cols ∧ cols ≤ 200 := by
      simp only [sizedM, mayGrid, Bool.and_eq_true, decide_eq_true_eq, beq_iff_eq] at hs
      omega
    have hw : IntKind.i64.wrap (cols - 1) = cols - 1 := w64id (by omega)
    rw [hw]
    have e1 : decide (col < 0) = !decide (0 ≤ col) := by rw [Bool.eq_iff_iff]; simp
    have e2 : decide (col ≥ cols) = !decide (col < cols) := by rw [Bool.eq_iff_iff]; simp
    have e3 : decide (col < cols - 1) = !decide (cols - 1 ≤ col) := by rw [Bool.eq_iff_iff]; simp
    have e4 : decide (rows > 1) = !decide (rows ≤ 1) := by rw [Bool.eq_iff_iff]; simp
    have e5 : decide (modes < 0) = !decide (0 ≤ modes) := by rw [Bool.eq_iff_iff]; simp
    have e6 : decide (modes > 255) = !decide (modes ≤ 255) := by rw [Bool.eq_iff_iff]; simp
    rw [e1, e2, e3, e4, e5, e6, show decide (top ≥ bottom) = decide (bottom ≤ top) from rfl]
    generalize decide (0 ≤ row ∧ row < rows) = b1
    generalize decide (0 ≤ top ∧ top < rows) = b2
    generalize decide (0 ≤ bottom ∧ bottom < rows) = b3
    generalize decide (0 ≤ col) = b4
    generalize decide (col < cols) = b5
    generalize decide (cols - 1 ≤ col) = b6
    generalize decide (rows ≤ 1) = b7
    generalize decide (0 ≤ modes) = b8
    generalize decide (modes ≤ 255) = b9
    generalize decide (bottom ≤ top) = b10
    generalize decide (0 < main.length) = b11
    generalize sizedM main rows cols = b12
    generalize otherM modes = b13
    generalize mayPen pen = b14
    generalize maySpot saved.1 = b15
    generalize maySpot saved.2 = b16
    generalize mayTitle title = b17
    cases b13 <;> cases b11 <;> cases b12 <;> first
      | rfl
      | (simp only [Bool.not_true, Bool.not_false, cond_true, cond_false, Option.bind_some, Bool.true_and, Bool.false_and, beq_self_eq_true, Bool.true_or, Bool.or_true, Bool.false_or]
         cases b1 <;> cases b2 <;> cases b3 <;> first
          | rfl
          | (cases b4 <;> cases b5 <;> cases late <;> cases b6 <;> first
             | rfl
             | (cases b10 <;> cases b7 <;> cases b8 <;> cases b9 <;> first
                | rfl
                | (cases b14 <;> cases b15 <;> cases b16 <;> first | rfl | (cases b17 <;> rfl)))))
end Go.SH
namespace Go.SH

theorem Mul_all : ∀ n : _root_.Fin 1001, bits_Mul 1 (n.val : Int) = some (0, (n.val : Int)) := by decide +kernel
def zeroC : CellT := (0, (0, 0), 0, 0, 0, 0)
def rst (x : CellT) (N k : Nat) : List CellT := List.replicate k x ++ List.replicate (N - k) zeroC
theorem rst_cpy (x : CellT) {N k : Nat} (h : k ≤ N) : cpy (rst x N k) k (((rst x N k).drop 0).take k) (min (((rst x N k).drop 0).take k).length (N - k)) = rst x N (k + min k (N - k)) := by
  have e1 : ((rst x N k).drop 0).take k = List.replicate k x := by
    unfold rst
    rw [List.drop_zero, List.take_append_of_le_length (by simp), List.take_of_length_le (by simp)]
  rw [e1]
  unfold cpy rst
  rw [List.length_replicate, List.take_append_of_le_length (by simp), List.take_of_length_le (by simp), List.take_replicate, List.drop_append, List.drop_eq_nil_of_le (by simp), List.nil_append, List.length_replicate, List.drop_replicate, ← List.append_assoc, List.replicate_append_replicate]
  congr 2 <;> omega
theorem Repeat_step (x : CellT) {N k : Nat} (hN : N ≤ 1000) (h : k ≤ N) : slices_Repeat_4bb_loop1 (0, (N : Int)) ((k : Int), rst x N k) = some (bif decide (k < N) then .inr (((k + min k (N - k) : Nat) : Int), rst x N (k + min k (N - k))) else .inl (rst x N k)) := by
  unfold slices_Repeat_4bb_loop1
  have hw : (IntKind.i64.wrap (N : Int)).toNat = N := by rw [w64id (by omega)]; omega
  have hl : (rst x N k).length = N := by unfold rst; simp; omega
  simp only [hw]
  by_cases hk : k < N
  · rw [dec_t (by omega : (k : Int) < (N : Int)), dec_t hk]
    simp only [Option.bind_some, cond_true, Int.toNat_natCast, hl]
    rw [req_pos (by omega), req_pos (by omega), req_pos (by omega), req_pos (by omega), rst_cpy x h]
    have e1 : (((rst x N k).drop 0).take k).length = k := by simp [hl]; omega
    rw [e1, w64id (by omega)]
    rfl
  · rw [dec_f (by omega : ¬ (k : Int) < (N : Int)), dec_f hk]
    rfl
theorem Repeat_loop (x : CellT) {N : Nat} (hN : N ≤ 1000) : ∀ (m k : Nat), N - k ≤ m → k ≤ N → (1 ≤ k ∨ N = 0) → loopO (slices_Repeat_4bb_loop1 (0, (N : Int))) ((k : Int), rst x N k) = some (List.replicate N x)
  | m, k, hm, h, h1 => by
    rw [loopO_eq, Repeat_step x hN h]
    by_cases hk : k < N
    · rw [dec_t hk]
      cases m with
      | zero => omega
      | succ m => exact Repeat_loop x hN m (k + min k (N - k)) (by omega) (by omega) (.inl (by omega))
    · rw [dec_f hk]
      have : k = N := by omega
      subst this
      simp [rst]
theorem Repeat_eq (x : CellT) {N : Nat} (hN : N ≤ 1000) : slices_Repeat_4bb [x] (N : Int) = some (List.replicate N x) := by
  unfold slices_Repeat_4bb
  rw [dec_f (by omega : ¬ (N : Int) < 0)]
  have e0 : IntKind.u64.wrap 1 = 1 := by decide +kernel
  have e1 : IntKind.u64.wrap (([x].length : Nat) : Int) = 1 := e0
  have e2 : IntKind.u64.wrap (N : Int) = (N : Int) := by simp [IntKind.wrap, IntKind.signed, IntKind.bits]; omega
  rw [e1, e2, Mul_all ⟨N, by omega⟩]
  simp only [Option.bind_some, cond_false]
  rw [dec_f (by omega : ¬ (0 : Int) > 0), dec_f (by omega : ¬ (N : Int) > 9223372036854775807)]
  simp only [Option.bind_some, cond_false]
  have hw : (IntKind.i64.wrap (N : Int)) = N := w64id (by omega)
  simp only [hw, Int.toNat_natCast]
  rw [req_pos (by unfold maxBy; omega), req_pos (by simp)]
  have e3 : cpy (List.replicate N (0, (0, 0), 0, 0, 0, 0) : List CellT) 0 [x] (min [x].length N) = rst x N (min 1 N) := by
    cases N with
    | zero => rfl
    | succ N =>
      have : min 1 (N + 1) = 1 := by omega
      simp only [List.length_singleton, this]
      unfold cpy rst zeroC
      simp [List.replicate_succ]
  have h := Repeat_loop x hN N (min 1 N) (by omega) (by omega) (by omega)
  rw [← e3] at h
  have h' : loopO (slices_Repeat_4bb_loop1 (0, (N : Int))) (((min ([x] : List CellT).length N : Nat) : Int), cpy (List.replicate N (0, (0, 0), 0, 0, 0, 0) : List CellT) 0 [x] (min ([x] : List CellT).length N)) = some (List.replicate N x) := h
  erw [h']
  simp only [Option.bind_some]
  rw [req_pos (by simp)]
/-- A blank of a pen. -/
def blankC (p : PenT) : CellT := (32, (0, 0), 0, 0, 0, p.2.2)
def blankL (n : Nat) (p : PenT) : List CellT := List.replicate n (blankC p)
theorem line_Blank_eq {n : Nat} (hn : n ≤ 1000) {p : PenT} (hp : mayPen p = true) : line_Blank (n : Int) p = some (blankL n p) := by
  unfold line_Blank
  rw [dec_f (by omega : ¬ (n : Int) < 0), dec_f (by omega : ¬ (n : Int) > 1000)]
  simp only [cond_false, pen_May_eq, hp, Option.bind_some, Bool.not_true, line_blank]
  have := Repeat_eq (blankC p) hn
  unfold blankC at this
  erw [this]
  rfl
end Go.SH
namespace Go.SH

def gst (r : List CellT) (N k : Nat) : GridT := List.replicate k r ++ List.replicate (N - k) []
theorem gst_set (r : List CellT) {N k : Nat} (h : k < N) : (gst r N k)[k]? = some [] ∧ (gst r N k).set k r = gst r N (k + 1) := by
  unfold gst
  obtain ⟨m, rfl⟩ : ∃ m, N = k + 1 + m := ⟨N - (k + 1), by omega⟩
  have e1 : k + 1 + m - k = m + 1 := by omega
  have e2 : k + 1 + m - (k + 1) = m := by omega
  rw [e1, e2, List.replicate_succ]
  constructor
  · rw [List.getElem?_append_right (by simp)]; simp
  · rw [List.set_append_right _ _ (by simp)]
    simp only [List.length_replicate, Nat.sub_self, List.set_cons_zero]
    rw [show List.replicate (k + 1) r = List.replicate k r ++ [r] from List.replicate_succ', List.append_assoc]
    rfl
theorem Blank_step {N n : Nat} (hN : N ≤ 200) (hn : n ≤ 200) {p : PenT} (hp : mayPen p = true) {k : Nat} (h : k < N) : grid_Blank_d0d_loop1 (N : Int) (n : Int) p ((k : Int), gst (blankL n p) N k) = some (.inr (((k + 1 : Nat) : Int), gst (blankL n p) N (k + 1))) := by
  unfold grid_Blank_d0d_loop1
  obtain ⟨e1, e2⟩ := gst_set (blankL n p) h
  simp only [Int.toNat_natCast]
  rw [dec_t (by omega : (k : Int) < (N : Int))]
  simp only [Option.bind_some, cond_true]
  rw [line_Blank_eq (by omega) hp]
  simp only [Option.bind_some]
  rw [req_pos (by omega)]
  erw [e1]
  simp only [Option.bind_some]
  erw [e2]
  rw [w64id (by omega)]
  rfl
theorem Blank_loop {N n : Nat} (hN : N ≤ 200) (hn : n ≤ 200) {p : PenT} (hp : mayPen p = true) : ∀ (m k : Nat), k + m = N → loopO (grid_Blank_d0d_loop1 (N : Int) (n : Int) p) ((k : Int), gst (blankL n p) N k) = some (List.replicate N (blankL n p))
  | 0, k, h => by
    have : k = N := by omega
    subst this
    rw [loopO_eq]
    have : grid_Blank_d0d_loop1 (k : Int) (n : Int) p ((k : Int), gst (blankL n p) k k) = some (.inl (gst (blankL n p) k k)) := by
      unfold grid_Blank_d0d_loop1
      simp
    rw [this]
    simp [gst]
  | m + 1, k, h => by
    rw [loopO_eq, Blank_step hN hn hp (by omega)]
    exact Blank_loop hN hn hp m (k + 1) (by omega)
def blankG (rows cols : Nat) (p : PenT) : GridT := List.replicate rows (blankL cols p)
theorem grid_Blank_d0d_eq {rows cols : Nat} (hr : 1 ≤ rows ∧ rows ≤ 200) (hc : 1 ≤ cols ∧ cols ≤ 200) {p : PenT} (hp : mayPen p = true) : grid_Blank_d0d (rows : Int) (cols : Int) p = some (blankG rows cols p) := by
  unfold grid_Blank_d0d
  simp only [grid_side_eq, pen_May_eq, Option.bind_some]
  rw [dec_t (by omega : 1 ≤ (rows : Int) ∧ (rows : Int) ≤ 200), dec_t (by omega : 1 ≤ (cols : Int) ∧ (cols : Int) ≤ 200)]
  simp only [hp, Bool.not_true, cond_false, Option.bind_some, Int.toNat_natCast]
  rw [req_pos (by unfold maxBy; omega)]
  have h := Blank_loop hr.2 hc.2 hp rows 0 (by omega)
  have e : gst (blankL cols p) rows 0 = List.replicate rows [] := by unfold gst; simp
  rw [e] at h
  erw [h]
  simp only [Option.bind_some]
  rw [req_pos (by simp)]
  rfl
theorem grid_Blank_d0d_no {rows cols : Int} {p : PenT} (h : ¬ ((1 ≤ rows ∧ rows ≤ 200) ∧ (1 ≤ cols ∧ cols ≤ 200))) : grid_Blank_d0d rows cols p = some [] := by
  unfold grid_Blank_d0d
  simp only [grid_side_eq, pen_May_eq, Option.bind_some]
  by_cases h1 : 1 ≤ rows ∧ rows ≤ 200
  · rw [dec_t h1, dec_f (fun h2 => h ⟨h1, h2⟩)]; rfl
  · rw [dec_f h1]; rfl
/-- The usual stops. -/
noncomputable def usual (n : Nat) : Int × Int × Int × Int := (tabs_Usual (n : Int)).getD (0, 0, 0, 0)
theorem Usual_all : ∀ n : _root_.Fin 201, (tabs_Usual (n.val : Int)).isSome = true := by decide +kernel
theorem tabs_Usual_eq {n : Nat} (h : n ≤ 200) : tabs_Usual (n : Int) = some (usual n) := by
  have := Usual_all ⟨n, by omega⟩
  unfold usual
  simp only at this
  cases hc : tabs_Usual (n : Int) with
  | none => rw [hc] at this; simp at this
  | some x => rfl
def noSpot : SpotT := (0, 0, (0, 0, 0), false, false)
/-- A new screen. -/
noncomputable def newS (rows cols : Nat) : ScrT := ((rows : Int), (cols : Int), blankG rows cols (0, 0, 0), [], 0, 0, false, (0, 0, 0), 0, (rows : Int) - 1, 9, (noSpot, noSpot), usual cols, [])
def nilS : ScrT := (0, 0, [], [], 0, 0, false, (0, 0, 0), 0, 0, 0, (noSpot, noSpot), (0, 0, 0, 0), [])
theorem screen_New_eq {rows cols : Nat} (hr : 1 ≤ rows ∧ rows ≤ 200) (hc : 1 ≤ cols ∧ cols ≤ 200) : screen_New (rows : Int) (cols : Int) = some (newS rows cols, 0) := by
  unfold screen_New
  rw [grid_Blank_d0d_eq hr hc (by decide)]
  simp only [Option.bind_some]
  have e : ((((blankG rows cols (0, 0, 0)).length : Nat) : Int) == 0) = false := by
    unfold blankG; simp; omega
  erw [e]
  simp only [cond_false, Option.bind_some]
  rw [tabs_Usual_eq hc.2]
  simp only [Option.bind_some]
  rw [req_pos trivial, w64id (by omega)]
  rfl
theorem screen_New_no {rows cols : Int} (h : ¬ ((1 ≤ rows ∧ rows ≤ 200) ∧ (1 ≤ cols ∧ cols ≤ 200))) : screen_New rows cols = some (nilS, 2) := by
  unfold screen_New
  rw [grid_Blank_d0d_no h]
  rfl
end Go.SH
namespace Go.SH

theorem Clone_eq {l : List CellT} (h : l.length ≤ 1000) : slices_Clone_0e3 l = some l := by
  unfold slices_Clone_0e3; rw [req_pos (by unfold maxBy; omega)]
theorem copied_step {g : GridT} {k : Nat} (hk : k < g.length) (hg : g.length ≤ 200) (hl : ∀ l ∈ g, l.length ≤ 1000) : screen_copied_82d_loop1 g ((k : Int), g.take k) = some (.inr (((k + 1 : Nat) : Int), g.take (k + 1))) := by
  unfold screen_copied_82d_loop1
  rw [dec_t (by omega : (k : Int) < (g.length : Int))]
  simp only [Option.bind_some, cond_true, getI_nat, List.getElem?_eq_getElem hk]
  rw [Clone_eq (hl _ (List.getElem_mem hk))]
  simp only [Option.bind_some]
  have e : g.take k ++ [g[k]] = g.take (k + 1) := by simp
  rw [req_pos trivial, req_pos trivial, req_pos (by simp only [List.length_append, List.length_take, List.length_singleton]; unfold maxBy; omega), req_pos trivial, w64id (by omega)]
  erw [e]
  rfl
theorem copied_loop {g : GridT} (hg : g.length ≤ 200) (hl : ∀ l ∈ g, l.length ≤ 1000) : ∀ (m k : Nat), k + m = g.length → loopO (screen_copied_82d_loop1 g) ((k : Int), g.take k) = some g
  | 0, k, h => by
    have e : k = g.length := by omega
    subst e
    rw [loopO_eq]
    have : screen_copied_82d_loop1 g ((g.length : Int), g.take g.length) = some (.inl g) := by
      unfold screen_copied_82d_loop1
      simp
      rw [req_pos trivial]
    rw [this]
  | m + 1, k, h => by
    rw [loopO_eq, copied_step (by omega) hg hl]
    exact copied_loop hg hl m (k + 1) (by omega)
theorem copied_eq {g : GridT} (hg : g.length ≤ 200) (hl : ∀ l ∈ g, l.length ≤ 1000) : screen_copied_82d g = some g := by
  unfold screen_copied_82d
  have h := copied_loop hg hl g.length 0 (by omega)
  rw [List.take_zero] at h
  erw [h]
  simp only [Option.bind_some]
  rw [req_pos trivial]
theorem CloneT_eq {l : List Int} (h : l.length ≤ 1000) : slices_Clone_b44 l = some l := by
  unfold slices_Clone_b44; rw [req_pos (by unfold maxBy; omega)]

/-! ### a screen, laid flat -/
abbrev FlatT := GridT × GridT × List Int × Int × Int × Int × Int × Bool × Int × Int × Int × Int × Int × Int × Int × Int × Int × Int × Int × Bool × Bool × Int × Int × Int × Int × Int × Bool × Bool × Int × Int × Int × Int
def flat : ScrT → FlatT
  | (r, c, g, m, row, col, late, (pb, pf, pk), top, bot, md, ((s1r, s1c, (s1pb, s1pf, s1pk), s1o, s1l), s2r, s2c, (s2pb, s2pf, s2pk), s2o, s2l), (t1, t2, t3, t4), ti) => (g, m, ti, r, c, row, col, late, pb, pf, pk, top, bot, md, s1r, s1c, s1pb, s1pf, s1pk, s1o, s1l, s2r, s2c, s2pb, s2pf, s2pk, s2o, s2l, t1, t2, t3, t4)
def unflat : FlatT → ScrT
  | (g, m, ti, r, c, row, col, late, pb, pf, pk, top, bot, md, s1r, s1c, s1pb, s1pf, s1pk, s1o, s1l, s2r, s2c, s2pb, s2pf, s2pk, s2o, s2l, t1, t2, t3, t4) => (r, c, g, m, row, col, late, (pb, pf, pk), top, bot, md, ((s1r, s1c, (s1pb, s1pf, s1pk), s1o, s1l), s2r, s2c, (s2pb, s2pf, s2pk), s2o, s2l), (t1, t2, t3, t4), ti)
theorem unflat_flat (s : ScrT) : unflat (flat s) = s := rfl
theorem flat_unflat (s : FlatT) : flat (unflat s) = s := rfl
abbrev ChT := Int × Int × Int × Int × List Int × List Int
/-- One change, as the program does it. -/
noncomputable def chgP (ch : ChT) : ScrT → Option FlatT
  | (r, c, g, m, row, col, late, (pb, pf, pk), top, bot, md, ((s1r, s1c, (s1pb, s1pf, s1pk), s1o, s1l), s2r, s2c, (s2pb, s2pf, s2pk), s2o, s2l), (t1, t2, t3, t4), ti) => screen_work_change_e36 ch r c row col late pb pf pk top bot md s1r s1c s1pb s1pf s1pk s1o s1l s2r s2c s2pb s2pf s2pk s2o s2l t1 t2 t3 t4 g m ti
def betw (n lo hi : Int) : Int := if (if hi < n then hi else n) > lo then (if hi < n then hi else n) else lo
/-- Numbers of a change are brought between limits, but of two kinds. -/
def normC (ch : ChT) : ChT := bif (ch.1 != 20) && (ch.1 != 27) then (ch.1, betw ch.2.1 (-1000) 1000, betw ch.2.2.1 (-1000) 1000, ch.2.2.2) else ch
theorem between_eq (n lo hi : Int) : screen_between n lo hi = some (betw n lo hi) := rfl
theorem Do_step {l : List ChT} {i : Nat} {ch : ChT} (h : l[i]? = some ch) (hb : l.length ≤ 1000000) (s : ScrT) : screen_Do_loop1 l ((i : Int), flat s) = (chgP (normC ch) s).bind fun x => some (.inr (((i + 1 : Nat) : Int), x)) := by
  obtain ⟨r, c, g, m, row, col, late, ⟨pb, pf, pk⟩, top, bot, md, ⟨⟨s1r, s1c, ⟨s1pb, s1pf, s1pk⟩, s1o, s1l⟩, s2r, s2c, ⟨s2pb, s2pf, s2pk⟩, s2o, s2l⟩, ⟨t1, t2, t3, t4⟩, ti⟩ := s
  have hi : i < l.length := (List.getElem?_eq_some_iff.1 h).1
  unfold screen_Do_loop1
  rw [dec_t (by omega : (i : Int) < (l.length : Int))]
  have hw : IntKind.i64.wrap ((i : Int) + 1) = ((i + 1 : Nat) : Int) := by rw [w64id (by omega)]; rfl
  simp only [Option.bind_some, cond_true, getI_nat, h, between_eq, flat, chgP, hw]
  have hn : ((bif ch.1 != 20 then bif ch.1 != 27 then some true else some false else some false : Option Bool).bind fun x34 => bif x34 then some (betw ch.2.1 (-1000) 1000, betw ch.2.2.1 (-1000) 1000) else some (ch.2.1, ch.2.2.1)) = some ((normC ch).2.1, (normC ch).2.2.1) := by
    unfold normC
    cases (ch.1 != 20) <;> cases (ch.1 != 27) <;> rfl
  erw [hn]
  simp only [Option.bind_some]
  have hn1 : (normC ch).1 = ch.1 ∧ (normC ch).2.2.2 = ch.2.2.2 := by
    unfold normC
    cases ((ch.1 != 20) && (ch.1 != 27)) <;> exact ⟨rfl, rfl⟩
  have e : (ch.1, (normC ch).2.1, (normC ch).2.2.1, ch.2.2.2) = normC ch := by rw [← hn1.1, ← hn1.2]
  erw [e]
  rw [req_pos trivial, req_pos trivial, req_pos trivial]
  congr 1
theorem Do_end {l : List ChT} (s : ScrT) : screen_Do_loop1 l ((l.length : Int), flat s) = some (.inl (flat s)) := by
  obtain ⟨r, c, g, m, row, col, late, ⟨pb, pf, pk⟩, top, bot, md, ⟨⟨s1r, s1c, ⟨s1pb, s1pf, s1pk⟩, s1o, s1l⟩, s2r, s2c, ⟨s2pb, s2pf, s2pk⟩, s2o, s2l⟩, ⟨t1, t2, t3, t4⟩, ti⟩ := s
  unfold screen_Do_loop1
  rw [dec_f (by omega : ¬ (l.length : Int) < (l.length : Int))]
  simp only [Option.bind_some, cond_false, flat]
  rw [req_pos trivial, req_pos trivial, req_pos trivial]
/-- Changes, one behind the other. -/
noncomputable def foldP : List ChT → ScrT → Option ScrT
  | [], s => some s
  | ch :: r, s => (chgP (normC ch) s).bind fun x => foldP r (unflat x)
theorem Do_loop {l : List ChT} (hb : l.length ≤ 1000000) : ∀ (m i : Nat) (s : ScrT), i + m = l.length → loopO (screen_Do_loop1 l) ((i : Int), flat s) = (foldP (l.drop i) s).map flat
  | 0, i, s, h => by
    have e : i = l.length := by omega
    subst e
    rw [loopO_eq, Do_end]
    simp [foldP]
  | m + 1, i, s, h => by
    have hi : i < l.length := by omega
    rw [loopO_eq, Do_step (List.getElem?_eq_getElem hi) hb, List.drop_eq_getElem_cons hi]
    unfold foldP
    cases hc : chgP (normC l[i]) s with
    | none => rfl
    | some x =>
      have := Do_loop hb m (i + 1) (unflat x) (by omega)
      rw [flat_unflat] at this
      exact this
theorem may_len {s : ScrT} (h : mayScr s = true) : s.2.2.1.length ≤ 200 ∧ (∀ l ∈ s.2.2.1, l.length ≤ 1000) ∧ s.2.2.2.1.length ≤ 200 ∧ (∀ l ∈ s.2.2.2.1, l.length ≤ 1000) ∧ s.2.2.2.2.2.2.2.2.2.2.2.2.2.length ≤ 60 := by
  obtain ⟨rows, cols, grid, main, row, col, late, pen, top, bottom, modes, saved, tabs, title⟩ := s
  have key : ∀ {g : GridT}, mayGrid g = true → g.length ≤ 200 ∧ ∀ l ∈ g, l.length ≤ 1000 := by
    intro g hg
    simp only [mayGrid, Bool.and_eq_true, decide_eq_true_eq, List.all_eq_true, beq_iff_eq] at hg
    refine ⟨hg.1.2, fun l hl => ?_⟩
    have := (hg.2.2 l hl).1
    omega
  unfold mayScr at h
  simp only [Bool.and_eq_true] at h
  obtain ⟨⟨hg, hm1, hm2⟩, ⟨h2, h3⟩, h4, h5, h6, ht⟩ := h
  simp only [sizedM, Bool.and_eq_true] at hg
  simp only [mayTitle, Bool.and_eq_true, decide_eq_true_eq] at ht
  simp only [beq_iff_eq] at hm1
  simp only [sizedM, Bool.and_eq_true, Bool.or_eq_true, Bool.not_eq_true'] at hm2
  refine ⟨(key hg.1).1, (key hg.1).2, ?_, ?_, ht.1⟩
  · rcases hm2 with hm2 | hm2
    · rw [hm2] at hm1
      have : ¬ 0 < main.length := by intro h; simp [h] at hm1
      simp only; omega
    · exact (key hm2.1).1
  · rcases hm2 with hm2 | hm2
    · rw [hm2] at hm1
      have : ¬ 0 < main.length := by intro h; simp [h] at hm1
      have : main = [] := List.eq_nil_of_length_eq_zero (by omega)
      subst this; simp
    · exact (key hm2.1).2
theorem Do_eq {s : ScrT} {l : List ChT} (h : mayScr s = true) (hb : l.length ≤ 1000000) : screen_Do s l = foldP l s := by
  obtain ⟨h1, h2, h3, h4, h5⟩ := may_len h
  obtain ⟨r, c, g, m, row, col, late, ⟨pb, pf, pk⟩, top, bot, md, ⟨⟨s1r, s1c, ⟨s1pb, s1pf, s1pk⟩, s1o, s1l⟩, s2r, s2c, ⟨s2pb, s2pf, s2pk⟩, s2o, s2l⟩, ⟨t1, t2, t3, t4⟩, ti⟩ := s
  unfold screen_Do
  rw [screen_May_eq (by omega) (by omega), h]
  simp only [Option.bind_some, Bool.not_true, cond_false]
  rw [copied_eq h1 h2, copied_eq h3 h4, CloneT_eq (show ti.length ≤ 1000 from Nat.le_trans h5 (by omega))]
  simp only [Option.bind_some]
  rw [req_pos trivial, req_pos trivial, req_pos trivial]
  have := Do_loop hb l.length 0 (r, c, g, m, row, col, late, (pb, pf, pk), top, bot, md, ((s1r, s1c, (s1pb, s1pf, s1pk), s1o, s1l), s2r, s2c, (s2pb, s2pf, s2pk), s2o, s2l), (t1, t2, t3, t4), ti) (by omega)
  rw [List.drop_zero] at this
  erw [this]
  cases foldP l (r, c, g, m, row, col, late, (pb, pf, pk), top, bot, md, ((s1r, s1c, (s1pb, s1pf, s1pk), s1o, s1l), s2r, s2c, (s2pb, s2pf, s2pk), s2o, s2l), (t1, t2, t3, t4), ti) with
  | none => rfl
  | some x =>
    simp only [Option.map_some, Option.bind_some]
    rfl
end Go.SH
namespace Go.SH

/-- A line torn at a place. -/
def tornM (l : List CellT) (a : Int) : List CellT := bif decide (0 < a) && decide (a < l.length) then match l[a.toNat]?, l[a.toNat - 1]? with
    | some c, some d => bif c.2.2.1 == 2 then (l.set (a.toNat - 1) (blankC d.2.2.2)).set a.toNat (blankC c.2.2.2) else l
    | _, _ => l
  else l
theorem tornM_len (l : List CellT) (a : Int) : (tornM l a).length = l.length := by
  unfold tornM
  cases (decide (0 < a) && decide (a < l.length)) with
  | false => rfl
  | true =>
    simp only [cond_true]
    split
    · rename_i c d _ _
      cases (c.2.2.1 == 2) <;> simp
    · rfl
theorem torn_eq {l : List CellT} (hl : l.length ≤ 1000) (a : Int) : line_torn_ed0 a l = some (tornM l a) := by
  unfold line_torn_ed0 tornM
  by_cases h0 : 0 < a
  · rw [dec_t h0]
    by_cases h1 : a < l.length
    · rw [dec_t h1]
      have e1 : a.toNat < l.length := by omega
      have e2 : a.toNat - 1 < l.length := by omega
      have hw : (IntKind.i64.wrap (a - 1)) = a - 1 := w64id (by omega)
      have hw2 : (a - 1).toNat = a.toNat - 1 := by omega
      simp only [cond_true, Bool.and_self, hw, hw2, List.getElem?_eq_getElem e1, List.getElem?_eq_getElem e2, Option.bind_some, line_blank]
      rw [req_pos (by omega)]
      cases hc : (l[a.toNat].2.2.1 == 2) with
      | false => rfl
      | true =>
        simp only [cond_true, Option.bind_some]
        rw [req_pos (by omega), req_pos (by omega), req_pos (by omega), req_pos (by omega)]
        have e3 : a.toNat < (l.set (a.toNat - 1) (32, (0, 0), 0, 0, 0, l[a.toNat - 1].2.2.2.2.2)).length := by simp; omega
        erw [List.getElem?_eq_getElem e3]
        rfl
    · rw [dec_f h1]
      rfl
  · rw [dec_f h0]
    rfl
theorem colsOf_r (c : Int) : -1 ≤ colsOf c ∧ colsOf c ≤ 2 := by
  unfold colsOf
  cases colsBad c with
  | true => exact ⟨by simp, by simp⟩
  | false =>
    simp only [cond_false]
    split
    · rename_i e he
      have hm := List.mem_of_find?_eq_some he
      have hw : tab_bounds.all (fun e => decide (0 ≤ e.2.2 ∧ e.2.2 ≤ 2)) = true := by decide +kernel
      have := List.all_eq_true.1 hw e hm
      simp only [decide_eq_true_eq] at this
      cases decide (e.1 ≤ c) <;> simp <;> omega
    · omega
/-- A line in which a code point stands. -/
def putM (l : List CellT) (a : Int) (c : Int) (p : PenT) : List CellT :=
  bif decide (colsOf c < 1) || (decide (a < 0) || decide (a > l.length - colsOf c)) then l else
    let m := (tornM (tornM l a) (a + colsOf c)).set a.toNat (c, (0, 0), colsOf c - 1, p)
    bif colsOf c == 2 then m.set (a.toNat + 1) (0, (0, 0), 2, p) else m
theorem Put_eq {l : List CellT} {a c : Int} {p : PenT} (hl : mayLine l = true) (hp : mayPen p = true) : line_Put l a c p = some (putM l a c p) := by
  have hlen : l.length ≤ 1000 := by
    simp only [mayLine, Bool.and_eq_true, decide_eq_true_eq] at hl; exact hl.1
  have hr := colsOf_r c
  unfold line_Put putM line_fine
  simp only [line_May_eq, hl, pen_May_eq, hp, cond_true, Option.bind_some, Bool.not_true, cond_false, cols_Of_eq]
  rw [Clone_eq hlen]
  simp only [Option.bind_some]
  have hw : IntKind.i64.wrap ((l.length : Int) - colsOf c) = (l.length : Int) - colsOf c := w64id (by omega)
  rw [hw]
  cases h1 : decide (colsOf c < 1) with
  | true => simp only [cond_true, Option.bind_some, Bool.true_or]; rw [req_pos trivial]
  | false =>
    cases h2 : decide (a < 0) with
    | true => simp only [cond_true, cond_false, Option.bind_some, Bool.true_or, Bool.false_or]; rw [req_pos trivial]
    | false =>
      cases h3 : decide (a > (l.length : Int) - colsOf c) with
      | true => simp only [cond_true, cond_false, Option.bind_some, Bool.true_or, Bool.false_or]; rw [req_pos trivial]
      | false =>
        simp only [decide_eq_false_iff_not] at h1 h2 h3
        have hw2 : IntKind.i64.wrap (a + colsOf c) = a + colsOf c := w64id (by omega)
        have hw3 : IntKind.i64.wrap (colsOf c - 1) = colsOf c - 1 := w64id (by omega)
        have hw4 : IntKind.i64.wrap (a + 1) = a + 1 := w64id (by omega)
        have e1 : (a + 1).toNat = a.toNat + 1 := by omega
        simp only [cond_false, Option.bind_some, Bool.or_self, hw2, hw3, hw4, e1]
        rw [req_pos trivial, torn_eq hlen]
        simp only [Option.bind_some]
        rw [req_pos (tornM_len l a).symm, torn_eq (by rw [tornM_len]; exact hlen)]
        simp only [Option.bind_some]
        rw [req_pos (by omega)]
        have hm : (tornM (tornM l a) (a + colsOf c)).length = l.length := by rw [tornM_len, tornM_len]
        have e2 : a.toNat < (tornM (tornM l a) (a + colsOf c)).length := by omega
        erw [List.getElem?_eq_getElem e2]
        simp only [Option.bind_some]
        cases h4 : (colsOf c == 2) with
        | false =>
          simp only [cond_false, Option.bind_some]
          rw [req_pos (by simp [hm])]
        | true =>
          simp only [beq_iff_eq] at h4
          simp only [cond_true, Option.bind_some]
          rw [req_pos (by omega)]
          have e3 : a.toNat + 1 < ((tornM (tornM l a) (a + colsOf c)).set a.toNat (c, (0, 0), colsOf c - 1, p)).length := by simp; omega
          erw [List.getElem?_eq_getElem e3]
          simp only [Option.bind_some]
          rw [req_pos (by simp [hm])]
end Go.SH
namespace Go.SH

theorem req_true {R : Type} {k : Option R} : req True k = k := req_pos trivial
theorem goTo_plain {n m rows cols top bot md : Int} (hr : 1 ≤ rows ∧ rows ≤ 200) (hc : 1 ≤ cols ∧ cols ≤ 200) (hm : (ibits .and .i64 md 2 != 0) = false) : screen_work_goTo_5c0 n m rows cols top bot md = some (betw n 0 (rows - 1), betw m 0 (cols - 1)) := by
  unfold screen_work_goTo_5c0
  rw [hm]
  simp only [cond_false, Option.bind_some, between_eq]
  rw [w64id (by omega), w64id (by omega)]
theorem betw_r (n hi : Int) (h : 0 ≤ hi) : 0 ≤ betw n 0 hi ∧ betw n 0 hi ≤ hi := by
  unfold betw
  split <;> (split <;> omega)
theorem print_plain {c rows cols row col pb pf pk top bot md : Int} {g m : GridT} {ti : List Int} {l : List CellT} (h1 : colsOf c = 1) (hcols : 1 ≤ cols ∧ cols ≤ 200) (hrow : 0 ≤ row) (hcol : 0 ≤ col ∧ col + 1 < cols) (hg : g[row.toNat]? = some l) (hl : mayLine l = true) (hp : mayPen (pb, pf, pk) = true) (hm : (ibits .and .i64 md 4 != 0) = false) :
    screen_work_print_d8d c rows cols row col false pb pf pk top bot md g m ti = some (g.set row.toNat (putM l col c (pb, pf, pk)), row, col + 1, false) := by
  have hlt : row.toNat < g.length := (List.getElem?_eq_some_iff.1 hg).1
  unfold screen_work_print_d8d
  simp only [cols_Of_eq, h1, Option.bind_some]
  rw [req_pos (by omega), hg]
  simp only [Option.bind_some]
  rw [dec_f (by omega : ¬ (1 : Int) < 0), dec_f (by omega : ¬ (1 : Int) > cols)]
  simp only [cond_false, Option.bind_some, show ((1 : Int) == 0) = false from rfl]
  rw [req_pos trivial]
  simp only [Option.bind_some]
  have hw : IntKind.i64.wrap (cols - 1) = cols - 1 := w64id (by omega)
  have hw2 : IntKind.i64.wrap (col + 1) = col + 1 := w64id (by omega)
  rw [hw, dec_f (by omega : ¬ col > cols - 1)]
  simp only [cond_false, Option.bind_some]
  rw [req_pos trivial]
  simp only [Option.bind_some]
  rw [req_pos (by omega), hg]
  simp only [Option.bind_some, hm, cond_false, Put_eq hl hp, hw2]
  rw [req_pos (by omega)]
  rw [dec_f (by omega : ¬ col + 1 ≥ cols)]
  simp only [cond_false, Option.bind_some]
  rw [req_pos (by simp)]
end Go.SH
namespace Go.SH

/-- A screen with another grid, row, column, late. -/
def setC (s : ScrT) (g : GridT) (row col : Int) (late : Bool) : ScrT := (s.1, s.2.1, g, s.2.2.2.1, row, col, late, s.2.2.2.2.2.2.2)
theorem chg_print {s : ScrT} {ch : ChT} {l : List CellT} (h0 : ch.1 = 1) (h1 : colsOf ch.2.2.2.1 = 1) (hcols : 1 ≤ s.2.1 ∧ s.2.1 ≤ 200) (hrow : 0 ≤ s.2.2.2.2.1) (hcol : 0 ≤ s.2.2.2.2.2.1 ∧ s.2.2.2.2.2.1 + 1 < s.2.1) (hla : s.2.2.2.2.2.2.1 = false) (hg : s.2.2.1[s.2.2.2.2.1.toNat]? = some l) (hl : mayLine l = true) (hp : mayPen s.2.2.2.2.2.2.2.1 = true) (hm : (ibits .and .i64 s.2.2.2.2.2.2.2.2.2.2.1 4 != 0) = false) :
    chgP ch s = some (flat (setC s (s.2.2.1.set s.2.2.2.2.1.toNat (putM l s.2.2.2.2.2.1 ch.2.2.2.1 s.2.2.2.2.2.2.2.1)) s.2.2.2.2.1 (s.2.2.2.2.2.1 + 1) false)) := by
  obtain ⟨r, c, g, m, row, col, late, ⟨pb, pf, pk⟩, top, bot, md, ⟨⟨s1r, s1c, ⟨s1pb, s1pf, s1pk⟩, s1o, s1l⟩, s2r, s2c, ⟨s2pb, s2pf, s2pk⟩, s2o, s2l⟩, ⟨t1, t2, t3, t4⟩, ti⟩ := s
  simp only at hcols hrow hcol hla hg hp hm
  subst hla
  show screen_work_change_e36 ch _ _ _ _ _ _ _ _ _ _ _ _ _ _ _ _ _ _ _ _ _ _ _ _ _ _ _ _ _ _ _ _ = _
  unfold screen_work_change_e36
  rw [h0]
  simp only [show ((1 : Int) == 1) = true from rfl, cond_true, Option.bind_some]
  rw [req_pos trivial, req_pos trivial, req_pos trivial, print_plain h1 hcols hrow hcol hg hl hp hm]
  simp only [Option.bind_some]
  rw [req_pos trivial, req_pos trivial, req_pos trivial]
  rfl
theorem chg_move {s : ScrT} {ch : ChT} {l : List CellT} (h0 : ch.1 = 5) (hr : 1 ≤ s.1 ∧ s.1 ≤ 200) (hc : 1 ≤ s.2.1 ∧ s.2.1 ≤ 200) (hg : (s.2.2.1.length : Int) = s.1) (hm : (ibits .and .i64 s.2.2.2.2.2.2.2.2.2.2.1 2 != 0) = false) :
    chgP ch s = some (flat (setC s s.2.2.1 (betw ch.2.1 0 (s.1 - 1)) (betw ch.2.2.1 0 (s.2.1 - 1)) false)) := by
  obtain ⟨r, c, g, m, row, col, late, ⟨pb, pf, pk⟩, top, bot, md, ⟨⟨s1r, s1c, ⟨s1pb, s1pf, s1pk⟩, s1o, s1l⟩, s2r, s2c, ⟨s2pb, s2pf, s2pk⟩, s2o, s2l⟩, ⟨t1, t2, t3, t4⟩, ti⟩ := s
  simp only at hr hc hg hm
  have hb := betw_r ch.2.1 (r - 1) (by omega)
  show screen_work_change_e36 ch _ _ _ _ _ _ _ _ _ _ _ _ _ _ _ _ _ _ _ _ _ _ _ _ _ _ _ _ _ _ _ _ = _
  unfold screen_work_change_e36 screen_work_move_e36 screen_work_edit_e36
  rw [h0]
  simp only [Int.reduceBEq, Int.reduceLE, Int.reduceGE, ge_iff_le, decide_true, decide_false, Int.reduceEq, cond_true, cond_false, Option.bind_some, req_true, goTo_plain hr hc hm]
  have hlt : (betw ch.2.1 0 (r - 1)).toNat < g.length := by omega
  rw [req_pos (by omega), List.getElem?_eq_getElem hlt]
  simp only [Int.reduceBEq, Int.reduceLE, Int.reduceGE, ge_iff_le, decide_true, decide_false, Int.reduceEq, cond_true, cond_false, Option.bind_some, req_true]
  rfl
end Go.SH
namespace Go.SH

/-- Cells that stand alone. -/
def plainC (c : CellT) : Bool := (c.2.2.1 == 0) && mayCell c
def plainL (l : List CellT) : Bool := l.all plainC
theorem plain_get {l : List CellT} (h : plainL l = true) {i : Nat} {c : CellT} (hc : l[i]? = some c) : c.2.2.1 = 0 ∧ mayCell c = true := by
  have := List.all_eq_true.1 h c (List.mem_of_getElem? hc)
  simp only [plainC, Bool.and_eq_true, beq_iff_eq] at this
  exact this
theorem plain_may {l : List CellT} (h : plainL l = true) (hl : l.length ≤ 1000) : mayLine l = true := by
  unfold mayLine
  rw [dec_t hl, Bool.true_and, List.all_eq_true]
  intro i hi
  rw [List.mem_range] at hi
  unfold okAt
  rw [List.getElem?_eq_getElem hi]
  obtain ⟨h1, h2⟩ := plain_get h (List.getElem?_eq_getElem hi)
  have h3 : (decide (0 < i) && match l[i - 1]? with | some d => d.2.2.1 == 1 | none => false) = false := by
    cases hd : decide (0 < i) with
    | false => rfl
    | true =>
      have hi2 : i - 1 < l.length := by omega
      rw [List.getElem?_eq_getElem hi2]
      have := (plain_get h (List.getElem?_eq_getElem hi2)).1
      simp [this]
  simp only [h2, Bool.true_and]
  erw [h3]
  simp [h1]
theorem plain_torn {l : List CellT} (h : plainL l = true) (a : Int) : tornM l a = l := by
  unfold tornM
  cases (decide (0 < a) && decide (a < l.length)) with
  | false => rfl
  | true =>
    simp only [cond_true]
    split
    · rename_i c d hc hd
      have := (plain_get h hc).1
      rw [this]; rfl
    · rfl
theorem plain_put {l : List CellT} (h : plainL l = true) {a c : Int} {p : PenT} (hc : colsOf c = 1) (ha : 0 ≤ a ∧ a < l.length) : putM l a c p = l.set a.toNat (c, (0, 0), 0, p) := by
  unfold putM
  rw [hc, plain_torn h, plain_torn h, dec_f (by omega : ¬ (1 : Int) < 1), dec_f (by omega : ¬ a < 0), dec_f (by omega : ¬ a > (l.length : Int) - 1)]
  rfl
theorem plain_letter {c : Int} {p : PenT} (hc : colsOf c = 1) (hp : mayPen p = true) : plainC (c, (0, 0), 0, p) = true := by
  unfold plainC mayCell
  simp only [beq_self_eq_true, Bool.true_or, cond_true, Bool.true_and, hc, hp]
  rfl
theorem plain_set {l : List CellT} (h : plainL l = true) {c : CellT} (hc : plainC c = true) (i : Nat) : plainL (l.set i c) = true := by
  unfold plainL at h ⊢
  rw [List.all_eq_true] at h ⊢
  intro x hx
  rcases List.mem_or_eq_of_mem_set hx with hx | rfl
  · exact h x hx
  · exact hc
theorem colsOf_blank : colsOf 32 = 1 := by decide +kernel
theorem plain_blank (n : Nat) {p : PenT} (hp : mayPen p = true) : plainL (blankL n p) = true := by
  unfold plainL blankL
  rw [List.all_eq_true]
  intro x hx
  obtain ⟨_, rfl⟩ := List.mem_replicate.1 hx
  refine plain_letter colsOf_blank ?_
  simp only [mayPen, Bool.and_eq_true, decide_eq_true_eq] at hp ⊢
  omega
theorem letters_cols : ∀ i : _root_.Fin 26, colsOf (97 + (i.val : Int)) = 1 := by decide +kernel
/-- A grid of plain lines. -/
theorem plain_grid {g : GridT} {rows cols : Nat} (hr : 1 ≤ rows ∧ rows ≤ 200) (hc : 1 ≤ cols ∧ cols ≤ 200) (hg : g.length = rows) (hl : ∀ l ∈ g, l.length = cols ∧ plainL l = true) : sizedM g (rows : Int) (cols : Int) = true := by
  have hw : widthG g = cols := by
    cases g with
    | nil => simp at hg; omega
    | cons x g => exact (hl x (by simp)).1
  unfold sizedM mayGrid
  rw [hw, hg, dec_t hr, dec_t hc]
  simp only [Bool.true_and, beq_self_eq_true, Bool.and_true, List.all_eq_true, Bool.and_eq_true, beq_iff_eq]
  intro l h
  exact ⟨(hl l h).1, plain_may (hl l h).2 (by have := (hl l h).1; omega)⟩
end Go.SH
namespace Go.SH

/-- A new screen on which letters were printed. -/
noncomputable def psS (rows cols : Nat) (g : GridT) (row col : Nat) (p : PenT) : ScrT := ((rows : Int), (cols : Int), g, [], (row : Int), (col : Int), false, p, 0, (rows : Int) - 1, 9, (noSpot, noSpot), usual cols, [])
theorem bits9 : otherM 9 = false ∧ (ibits .and .i64 9 2 != 0) = false ∧ (ibits .and .i64 9 4 != 0) = false := by decide +kernel
theorem psS_may {rows cols row col : Nat} {g : GridT} {p : PenT} (hr : 1 ≤ rows ∧ rows ≤ 200) (hc : 1 ≤ cols ∧ cols ≤ 200) (hg : g.length = rows) (hl : ∀ l ∈ g, l.length = cols ∧ plainL l = true) (hrow : row < rows) (hcol : col < cols) (hp : mayPen p = true) : mayScr (psS rows cols g row col p) = true := by
  unfold mayScr psS
  simp only [bits9.1, plain_grid hr hc hg hl, hp, Bool.true_and, Bool.not_false, Bool.true_or, Bool.and_true, List.length_nil]
  have e1 : maySpot noSpot = true := by decide
  have e2 : mayTitle [] = true := by decide
  rw [e1, e2, dec_t (by omega : (0 : Int) ≤ (row : Int) ∧ (row : Int) < (rows : Int)), dec_t (by omega : (0 : Int) ≤ 0 ∧ (0 : Int) < (rows : Int)), dec_t (by omega : (0 : Int) ≤ (rows : Int) - 1 ∧ (rows : Int) - 1 < (rows : Int)), dec_t (by omega : (0 : Int) ≤ (col : Int)), dec_t (by omega : (col : Int) < (cols : Int))]
  by_cases h : rows ≤ 1
  · rw [dec_t (by omega : (rows : Int) ≤ 1)]; simp
  · rw [dec_f (by omega : ¬ (rows : Int) - 1 ≤ 0)]; simp
theorem betw_id {n lo hi : Int} (h : lo ≤ n ∧ n ≤ hi) : betw n lo hi = n := by
  unfold betw
  rw [if_neg (by omega : ¬ hi < n)]
  split <;> omega
theorem Do_move {rows cols row col n m : Nat} {g : GridT} {p : PenT} (hr : 1 ≤ rows ∧ rows ≤ 200) (hc : 1 ≤ cols ∧ cols ≤ 200) (hg : g.length = rows) (hl : ∀ l ∈ g, l.length = cols ∧ plainL l = true) (hrow : row < rows) (hcol : col < cols) (hp : mayPen p = true) (hn : n < rows) (hm : m < cols) :
    screen_Do (psS rows cols g row col p) [(5, (n : Int), (m : Int), 0, [], [])] = some (psS rows cols g n m p) := by
  rw [Do_eq (psS_may hr hc hg hl hrow hcol hp) (by simp)]
  unfold foldP
  have e : normC (5, (n : Int), (m : Int), 0, [], []) = (5, (n : Int), (m : Int), 0, [], []) := by
    unfold normC
    rw [betw_id (by simp only; omega), betw_id (by simp only; omega)]
    rfl
  rw [e, chg_move (l := []) rfl (by simp only [psS]; omega) (by simp only [psS]; omega) (by simp only [psS]; omega) (by simp only [psS]; exact bits9.2.1)]
  simp only [Option.bind_some, unflat_flat, foldP]
  have e1 : betw (n : Int) 0 ((rows : Int) - 1) = n := betw_id (by omega)
  have e2 : betw (m : Int) 0 ((cols : Int) - 1) = m := betw_id (by omega)
  simp only [psS, setC, e1, e2]
theorem Do_print {rows cols row col : Nat} {g : GridT} {p : PenT} {l : List CellT} {c : Int} (hr : 1 ≤ rows ∧ rows ≤ 200) (hc : 1 ≤ cols ∧ cols ≤ 200) (hg : g.length = rows) (hl : ∀ l ∈ g, l.length = cols ∧ plainL l = true) (hrow : row < rows) (hcol : col + 1 < cols) (hp : mayPen p = true) (hgl : g[row]? = some l) (hcc : colsOf c = 1) :
    screen_Do (psS rows cols g row col p) [(1, 0, 0, c, [], [])] = some (psS rows cols (g.set row (l.set col (c, (0, 0), 0, p))) row (col + 1) p) := by
  obtain ⟨h1, h2⟩ := hl l (List.mem_of_getElem? hgl)
  rw [Do_eq (psS_may hr hc hg hl hrow (by omega) hp) (by simp)]
  unfold foldP
  have e : normC (1, 0, 0, c, [], []) = (1, 0, 0, c, [], []) := by
    unfold normC
    rw [betw_id (by simp only; omega), ]
    rfl
  rw [e, chg_print (l := l) rfl hcc (by simp only [psS]; omega) (by simp only [psS]; omega) (by simp only [psS]; omega) (by simp only [psS]) (by simpa only [psS, Int.toNat_natCast] using hgl) (plain_may h2 (by omega)) (by simp only [psS]; exact hp) (by simp only [psS]; exact bits9.2.2)]
  simp only [Option.bind_some, unflat_flat, foldP]
  simp only [psS, setC, Int.toNat_natCast]
  rw [plain_put h2 hcc (by omega), Int.toNat_natCast]
  rfl
end Go.SH
namespace Go.SH

/-- The letter that a byte stands for. -/
def letterI (x : UInt8) : Int := IntKind.i32.wrap ((UInt8.ofInt (IntKind.u8.wrap ((97 : Int) + ((UInt8.ofInt (Int.tmod (x.toNat : Int) 26)).toNat : Int)))).toNat : Int)
theorem letter_all : ∀ i : _root_.Fin 256, (decide (97 ≤ letterI (UInt8.ofNat i.val)) && decide (letterI (UInt8.ofNat i.val) < 123)) = true := by decide +kernel
theorem letter_cols (x : UInt8) : colsOf (letterI x) = 1 := by
  have h := letter_all ⟨x.toNat, x.toNat_lt⟩
  simp only [UInt8.ofNat_toNat, Bool.and_eq_true, decide_eq_true_eq] at h
  have := letters_cols ⟨(letterI x - 97).toNat, by omega⟩
  simp only at this
  rw [show (97 : Int) + (((letterI x - 97).toNat : Nat) : Int) = letterI x from by omega] at this
  exact this
/-- What stands at a place. -/
def cellP (col : Nat) (ls : List UInt8) (p : PenT) (j : Nat) : CellT := if col ≤ j then match ls[j - col]? with
    | some x => (letterI x, (0, 0), 0, p)
    | none => (32, (0, 0), 0, 0, 0, 0)
  else (32, (0, 0), 0, 0, 0, 0)
def lineP (n col : Nat) (ls : List UInt8) (p : PenT) : List CellT := (List.range n).map (cellP col ls p)
theorem lineP_len (n col : Nat) (ls : List UInt8) (p : PenT) : (lineP n col ls p).length = n := by simp [lineP]
theorem lineP_get {n col : Nat} {ls : List UInt8} {p : PenT} {j : Nat} (h : j < n) : (lineP n col ls p)[j]? = some (cellP col ls p j) := by simp [lineP, h]
theorem lineP_nil (n col : Nat) (p : PenT) : lineP n col [] p = blankL n (0, 0, 0) := by
  refine List.ext_getElem? fun j => ?_
  unfold blankL blankC
  rw [List.getElem?_replicate]
  by_cases h : j < n
  · rw [lineP_get h, if_pos h]
    unfold cellP
    split <;> simp
  · rw [if_neg h, List.getElem?_eq_none (by rw [lineP_len]; omega)]
theorem lineP_set {n col k : Nat} {ls : List UInt8} {p : PenT} {x : UInt8} (hx : ls[k]? = some x) (h : col + k < n) : (lineP n col (ls.take k) p).set (col + k) (letterI x, (0, 0), 0, p) = lineP n col (ls.take (k + 1)) p := by
  have hk : k < ls.length := (List.getElem?_eq_some_iff.1 hx).1
  refine List.ext_getElem? fun j => ?_
  rw [List.getElem?_set, lineP_len]
  by_cases hj : j < n
  · rw [lineP_get hj, lineP_get hj]
    by_cases e : col + k = j
    · subst e
      rw [if_pos rfl, if_pos h]
      unfold cellP
      rw [if_pos (by omega), show col + k - col = k from by omega, List.getElem?_take, if_pos (by omega), hx]
    · rw [if_neg e]
      unfold cellP
      split
      · rw [List.getElem?_take, List.getElem?_take]
        by_cases h2 : j - col < k
        · rw [if_pos h2, if_pos (by omega)]
        · rw [if_neg h2, if_neg (by omega)]
      · rfl
  · rw [List.getElem?_eq_none (by rw [lineP_len]; omega), List.getElem?_eq_none (by rw [lineP_len]; omega)]
    split
    · omega
    · rfl
theorem lineP_plain (n col : Nat) (ls : List UInt8) {p : PenT} (hp : mayPen p = true) : plainL (lineP n col ls p) = true := by
  unfold plainL lineP
  rw [List.all_eq_true]
  intro c hc
  obtain ⟨j, _, rfl⟩ := List.mem_map.1 hc
  have hb : plainC (32, (0, 0), 0, 0, 0, 0) = true := plain_letter colsOf_blank (by decide)
  unfold cellP
  split
  · split
    · exact plain_letter (letter_cols _) hp
    · exact hb
  · exact hb
def gridP (rows cols row col : Nat) (ls : List UInt8) (p : PenT) : GridT := (blankG rows cols (0, 0, 0)).set row (lineP cols col ls p)
theorem gridP_nil (rows cols row col : Nat) (p : PenT) : gridP rows cols row col [] p = blankG rows cols (0, 0, 0) := by
  unfold gridP
  rw [lineP_nil]
  refine List.ext_getElem? fun j => ?_
  rw [List.getElem?_set]
  split
  · rename_i e; subst e
    unfold blankG
    rw [List.getElem?_replicate, List.length_replicate]
  · rfl
theorem gridP_ok {rows cols row col : Nat} (ls : List UInt8) {p : PenT} (hp : mayPen p = true) : (gridP rows cols row col ls p).length = rows ∧ ∀ l ∈ gridP rows cols row col ls p, l.length = cols ∧ plainL l = true := by
  refine ⟨by simp [gridP, blankG], fun l hl => ?_⟩
  rcases List.mem_or_eq_of_mem_set hl with h | rfl
  · obtain ⟨_, rfl⟩ := List.mem_replicate.1 h
    exact ⟨by simp [blankL], plain_blank cols (by decide)⟩
  · exact ⟨lineP_len _ _ _ _, lineP_plain _ _ _ hp⟩
theorem gridP_get {rows cols row col : Nat} {ls : List UInt8} {p : PenT} {i : Nat} (h : i < rows) : (gridP rows cols row col ls p)[i]? = some (if row = i then lineP cols col ls p else blankL cols (0, 0, 0)) := by
  unfold gridP
  rw [List.getElem?_set]
  split
  · rename_i e; subst e; rw [if_pos (by simpa [blankG] using h)]
  · simp [blankG, h]
theorem gridP_set {rows cols row col k : Nat} {ls : List UInt8} {p : PenT} {x : UInt8} (hx : ls[k]? = some x) (h : col + k < cols) : (gridP rows cols row col (ls.take k) p).set row ((lineP cols col (ls.take k) p).set (col + k) (letterI x, (0, 0), 0, p)) = gridP rows cols row col (ls.take (k + 1)) p := by
  unfold gridP
  rw [List.set_set, lineP_set hx h]
end Go.SH
namespace Go.SH

abbrev WideT := Int × Int × GridT × GridT × Int × Int × Bool × Int × Int × Int × Int × Int × Int × Int × Int × Int × Int × Int × Bool × Bool × Int × Int × Int × Int × Int × Bool × Bool × Int × Int × Int × Int × List Int
def flatW : ScrT → WideT
  | (r, c, g, m, row, col, late, (pb, pf, pk), top, bot, md, ((s1r, s1c, (s1pb, s1pf, s1pk), s1o, s1l), s2r, s2c, (s2pb, s2pf, s2pk), s2o, s2l), (t1, t2, t3, t4), ti) => (r, c, g, m, row, col, late, pb, pf, pk, top, bot, md, s1r, s1c, s1pb, s1pf, s1pk, s1o, s1l, s2r, s2c, s2pb, s2pf, s2pk, s2o, s2l, t1, t2, t3, t4, ti)
theorem prints1_step {ls : List UInt8} {k : Nat} {x : UInt8} (hx : ls[k]? = some x) (hb : ls.length ≤ 1000) (s : ScrT) : oriellaw17_ScreenPrints_loop1 ls ((k : Int), flatW s) = (screen_Do s [(1, 0, 0, letterI x, [], [])]).bind fun s' => some (.inr (((k + 1 : Nat) : Int), flatW s')) := by
  obtain ⟨r, c, g, m, row, col, late, ⟨pb, pf, pk⟩, top, bot, md, ⟨⟨s1r, s1c, ⟨s1pb, s1pf, s1pk⟩, s1o, s1l⟩, s2r, s2c, ⟨s2pb, s2pf, s2pk⟩, s2o, s2l⟩, ⟨t1, t2, t3, t4⟩, ti⟩ := s
  have hk : k < ls.length := (List.getElem?_eq_some_iff.1 hx).1
  unfold oriellaw17_ScreenPrints_loop1
  rw [dec_t (by omega : (k : Int) < (ls.length : Int))]
  simp only [Option.bind_some, cond_true, getI_nat, hx, flatW]
  rw [w64id (by omega)]
  rfl
theorem prints1_end {ls : List UInt8} (s : ScrT) : oriellaw17_ScreenPrints_loop1 ls ((ls.length : Int), flatW s) = some (.inl (flatW s)) := by
  obtain ⟨r, c, g, m, row, col, late, ⟨pb, pf, pk⟩, top, bot, md, ⟨⟨s1r, s1c, ⟨s1pb, s1pf, s1pk⟩, s1o, s1l⟩, s2r, s2c, ⟨s2pb, s2pf, s2pk⟩, s2o, s2l⟩, ⟨t1, t2, t3, t4⟩, ti⟩ := s
  unfold oriellaw17_ScreenPrints_loop1
  rw [dec_f (by omega : ¬ (ls.length : Int) < (ls.length : Int))]
  rfl
theorem prints1_loop {rows cols row col : Nat} {ls : List UInt8} {p : PenT} (hr : 1 ≤ rows ∧ rows ≤ 200) (hc : 1 ≤ cols ∧ cols ≤ 200) (hrow : row < rows) (hcol : col + ls.length < cols) (hp : mayPen p = true) : ∀ (m k : Nat), k + m = ls.length →
    loopO (oriellaw17_ScreenPrints_loop1 ls) ((k : Int), flatW (psS rows cols (gridP rows cols row col (ls.take k) p) row (col + k) p)) = some (flatW (psS rows cols (gridP rows cols row col ls p) row (col + ls.length) p))
  | 0, k, h => by
    have e : k = ls.length := by omega
    subst e
    rw [loopO_eq, prints1_end, List.take_length]
  | m + 1, k, h => by
    have hk : k < ls.length := by omega
    obtain ⟨h1, h2⟩ := gridP_ok (rows := rows) (cols := cols) (row := row) (col := col) (ls.take k) hp
    rw [loopO_eq, prints1_step (List.getElem?_eq_getElem hk) (by omega), Do_print (l := lineP cols col (ls.take k) p) hr hc h1 h2 hrow (by omega) hp (by rw [gridP_get hrow, if_pos rfl]) (letter_cols _), gridP_set (List.getElem?_eq_getElem hk) (by omega)]
    exact prints1_loop hr hc hrow hcol hp m (k + 1) (by omega)

theorem prints3_step {rows cols row col i j : Nat} {ls : List UInt8} {p : PenT} (hrow : row < rows) (hcol : col + ls.length < cols) (hc : cols ≤ 200) (hi : i < rows) (hj : j < cols) {rc : Nat} :
    oriellaw17_ScreenPrints_loop3 (cols : Int) (i : Int) (row : Int) (col : Int) ls p (flatW (psS rows cols (gridP rows cols row col ls p) row rc p)) (j : Int) = some (.inr ((j + 1 : Nat) : Int)) := by
  have hg : (flatW (psS rows cols (gridP rows cols row col ls p) row rc p)).2.2.1 = gridP rows cols row col ls p := rfl
  unfold oriellaw17_ScreenPrints_loop3
  rw [hg, dec_t (by omega : (j : Int) < (cols : Int))]
  simp only [Option.bind_some, cond_true, getI_nat, gridP_get hi]
  have hw : IntKind.i64.wrap ((col : Int) + (ls.length : Int)) = (col : Int) + (ls.length : Int) := w64id (by omega)
  have hw2 : IntKind.i64.wrap ((j : Int) + 1) = ((j + 1 : Nat) : Int) := by rw [w64id (by omega)]; rfl
  rw [hw, hw2]
  have hlen : ((if row = i then lineP cols col ls p else blankL cols (0, 0, 0)).length : Int) = (cols : Int) := by
    split
    · rw [lineP_len]
    · simp [blankL]
  rw [hlen]
  simp only [bne_self_eq_false, cond_false, Option.bind_some]
  have hcell : (if row = i then lineP cols col ls p else blankL cols (0, 0, 0))[j]? = some (if row = i then cellP col ls p j else (32, (0, 0), 0, 0, 0, 0)) := by
    split
    · exact lineP_get hj
    · simp [blankL, blankC, hj]
  rw [hcell]
  simp only [Option.bind_some]
  by_cases h1 : row = i
  · subst h1
    rw [if_pos rfl]
    simp only [beq_self_eq_true, cond_true]
    by_cases h2 : col ≤ j
    · rw [dec_t (by omega : (j : Int) ≥ (col : Int))]
      by_cases h3 : j < col + ls.length
      · have hk : j - col < ls.length := by omega
        rw [dec_t (by omega : (j : Int) < (col : Int) + (ls.length : Int))]
        simp only [cond_true, Option.bind_some]
        have hw3 : IntKind.i64.wrap ((j : Int) - (col : Int)) = ((j - col : Nat) : Int) := by rw [w64id (by omega)]; omega
        rw [hw3, getI_nat, List.getElem?_eq_getElem hk]
        simp only [Option.bind_some]
        unfold cellP
        rw [if_pos h2, List.getElem?_eq_getElem hk]
        simp [letterI]
      · rw [dec_f (by omega : ¬ (j : Int) < (col : Int) + (ls.length : Int))]
        simp only [cond_true, cond_false, Option.bind_some]
        unfold cellP
        rw [if_pos h2, List.getElem?_eq_none (by omega)]
        rfl
    · rw [dec_f (by omega : ¬ (j : Int) ≥ (col : Int))]
      simp only [cond_false, Option.bind_some]
      unfold cellP
      rw [if_neg h2]
      rfl
  · rw [if_neg h1]
    have e : ((i : Int) == (row : Int)) = false := by simp; omega
    rw [e]
    rfl
theorem prints3_loop {rows cols row col i : Nat} {ls : List UInt8} {p : PenT} (hrow : row < rows) (hcol : col + ls.length < cols) (hc : cols ≤ 200) (hi : i < rows) {rc : Nat} :
    loopO (oriellaw17_ScreenPrints_loop3 (cols : Int) (i : Int) (row : Int) (col : Int) ls p (flatW (psS rows cols (gridP rows cols row col ls p) row rc p))) 0 = some (.inr ()) := by
  rw [loop_all (n := cols) (ok := fun _ => true) (e := .inr ()) (b := .inl ()) (fun j hj => prints3_step hrow hcol hc hi hj) (by unfold oriellaw17_ScreenPrints_loop3; rw [dec_f (by omega : ¬ (cols : Int) < (cols : Int))]; rfl)]
  have : (List.range cols).all (fun _ => true) = true := by simp
  rw [this]; rfl
theorem prints2_loop {rows cols row col : Nat} {ls : List UInt8} {p : PenT} (hr : rows ≤ 200) (hrow : row < rows) (hcol : col + ls.length < cols) (hc : cols ≤ 200) {rc : Nat} :
    loopO (oriellaw17_ScreenPrints_loop2 (rows : Int) (cols : Int) (row : Int) (col : Int) ls p (flatW (psS rows cols (gridP rows cols row col ls p) row rc p))) 0 = some (.inr ()) := by
  rw [loop_all (n := rows) (ok := fun _ => true) (e := .inr ()) (b := .inl ()) (fun i hi => by
      unfold oriellaw17_ScreenPrints_loop2
      rw [dec_t (by omega : (i : Int) < (rows : Int))]
      simp only [Option.bind_some, cond_true]
      rw [prints3_loop hrow hcol hc hi]
      simp only [Option.bind_some]
      rw [w64id (by omega)]
      rfl) (by unfold oriellaw17_ScreenPrints_loop2; rw [dec_f (by omega : ¬ (rows : Int) < (rows : Int))]; rfl)]
  have : (List.range rows).all (fun _ => true) = true := by simp
  rw [this]; rfl
end Go.SH
namespace Go.SH

theorem prints_true (a0 a1 a2 a3 : Int) (ls : List UInt8) (p : PenT) : oriellaw17_ScreenPrints a0 a1 a2 a3 ls p = some true := by
  unfold oriellaw17_ScreenPrints oriellaw17_known
  simp only [Option.bind_some, Bool.not_true, cond_false]
  cases g0 : decide (a0 < 1) with
  | true => rfl
  | false =>
  cases g1 : decide (a0 > 30) with
  | true => rfl
  | false =>
  cases g2 : decide (a1 < 1) with
  | true => rfl
  | false =>
  cases g3 : decide (a1 > 30) with
  | true => rfl
  | false =>
  cases g4 : decide (a2 < 0) with
  | true => rfl
  | false =>
  cases g5 : decide (a2 ≥ a0) with
  | true => rfl
  | false =>
  cases g6 : decide (a3 < 0) with
  | true => rfl
  | false =>
  cases g7 : decide (a3 ≥ a1) with
  | true => rfl
  | false =>
  cases g8 : decide ((ls.length : Int) ≥ (IntKind.i64.wrap (a1 - a3))) with
  | true => rfl
  | false =>
  cases g9 : decide (p.1 < 0) with
  | true => rfl
  | false =>
  cases g10 : decide (p.1 > 255) with
  | true => rfl
  | false =>
  cases g11 : decide (p.2.1 < 0) with
  | true => rfl
  | false =>
  cases g12 : decide (p.2.1 > 256) with
  | true => rfl
  | false =>
  cases g13 : decide (p.2.2 < 0) with
  | true => rfl
  | false =>
  cases g14 : decide (p.2.2 > 256) with
  | true => rfl
  | false =>
  simp only [decide_eq_false_iff_not] at *
  obtain ⟨rows, rfl⟩ : ∃ n : Nat, a0 = n := ⟨a0.toNat, by omega⟩
  obtain ⟨cols, rfl⟩ : ∃ n : Nat, a1 = n := ⟨a1.toNat, by omega⟩
  obtain ⟨row, rfl⟩ : ∃ n : Nat, a2 = n := ⟨a2.toNat, by omega⟩
  obtain ⟨col, rfl⟩ : ∃ n : Nat, a3 = n := ⟨a3.toNat, by omega⟩
  rw [w64id (by omega)] at g8
  have hr : 1 ≤ rows ∧ rows ≤ 200 := by omega
  have hc : 1 ≤ cols ∧ cols ≤ 200 := by omega
  have hp : mayPen p = true := by
    simp only [mayPen, Bool.and_eq_true, decide_eq_true_eq]
    omega
  have hcol : col + ls.length < cols := by omega
  obtain ⟨k1, k2⟩ := gridP_ok (rows := rows) (cols := cols) (row := row) (col := col) [] hp
  rw [gridP_nil] at k1 k2
  simp only [cond_false, Option.bind_some]
  rw [screen_New_eq hr hc]
  simp only [Option.bind_some, bne_self_eq_false, cond_false]
  have e0 : ((newS rows cols).1, (newS rows cols).2.1, (newS rows cols).2.2.1, (newS rows cols).2.2.2.1, (newS rows cols).2.2.2.2.1, (newS rows cols).2.2.2.2.2.1, (newS rows cols).2.2.2.2.2.2.1, p, (newS rows cols).2.2.2.2.2.2.2.2) = psS rows cols (blankG rows cols (0, 0, 0)) 0 0 p := rfl
  erw [e0]
  rw [Do_move hr hc k1 k2 (by omega) (by omega) hp (by omega) (by omega)]
  simp only [Option.bind_some]
  have hL := prints1_loop (rows := rows) (cols := cols) (row := row) (col := col) (ls := ls) (p := p) hr hc (by omega) hcol hp ls.length 0 (by omega)
  rw [List.take_zero, gridP_nil, Nat.add_zero] at hL
  have hL' : loopO (oriellaw17_ScreenPrints_loop1 ls) (0, flatW (psS rows cols (blankG rows cols (0, 0, 0)) row col p)) = some (flatW (psS rows cols (gridP rows cols row col ls p) row (col + ls.length) p)) := hL
  erw [hL']
  simp only [Option.bind_some]
  have q1 : (flatW (psS rows cols (gridP rows cols row col ls p) row (col + ls.length) p)).2.2.2.2.1 = (row : Int) := rfl
  have q2 : (flatW (psS rows cols (gridP rows cols row col ls p) row (col + ls.length) p)).2.2.2.2.2.1 = ((col + ls.length : Nat) : Int) := rfl
  have q3 : (flatW (psS rows cols (gridP rows cols row col ls p) row (col + ls.length) p)).2.2.2.2.2.2.1 = false := rfl
  have q4 : (((flatW (psS rows cols (gridP rows cols row col ls p) row (col + ls.length) p)).2.2.1.length : Nat) : Int) = (rows : Int) := by
    show (((gridP rows cols row col ls p).length : Nat) : Int) = _
    rw [(gridP_ok ls hp).1]
  have hw : IntKind.i64.wrap ((col : Int) + (ls.length : Int)) = ((col + ls.length : Nat) : Int) := by rw [w64id (by omega)]; omega
  erw [q1, q2, q3, q4, hw]
  simp only [bne_self_eq_false, cond_false, Option.bind_some]
  rw [prints2_loop hr.2 (by omega) hcol hc.2]
  rfl
end Go.SH
