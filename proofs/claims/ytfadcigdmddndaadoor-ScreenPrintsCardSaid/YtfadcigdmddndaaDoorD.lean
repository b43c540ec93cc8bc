/- Part 4. -/
import Derived.Test.YtfadcigdmddndaaDoorC
import Derived.KernelRfl
set_option linter.unusedVariables false
set_option linter.unusedSimpArgs false
set_option maxRecDepth 100000
namespace Go.SH
noncomputable def grid_side (a0 : Int) : Option (Bool) :=
  bif decide (a0 ≥ 1) then
    some (decide (a0 ≤ 200))
  else
    some false
noncomputable def pen_May_1 (a0 : Int) (a1 : Int) : Option (Bool) :=
  bif decide (a0 ≥ 0) then
    some (decide (a0 ≤ a1))
  else
    some false
noncomputable def pen_May (a0 : K92a5.T) : Option (Bool) :=
  (pen_May_1 a0.1 255).bind fun x1 =>
  bif x1 then
    (pen_May_1 a0.2.1 256).bind fun x2 =>
    bif x2 then
      (pen_May_1 a0.2.2 256).bind fun x3 =>
      some x3
    else
      some false
  else
    some false
noncomputable def line_blank (a0 : K92a5.T) : Option ((Int × K72c5.T)) :=
  some (32, (0, 0), 0, 0, 0, a0.2.2)
noncomputable def bits_Mul64 (a0 : Int) (a1 : Int) : Option (Int × Int) :=
  some (IntKind.u64.wrap ((IntKind.u64.wrap ((IntKind.u64.wrap ((Int.fdiv a0 (2 ^ 32)) * (Int.fdiv a1 (2 ^ 32)))) + (Int.fdiv (IntKind.u64.wrap ((IntKind.u64.wrap ((Int.fdiv a0 (2 ^ 32)) * (ibits .and .u64 a1 4294967295))) + (Int.fdiv (IntKind.u64.wrap ((ibits .and .u64 a0 4294967295) * (ibits .and .u64 a1 4294967295))) (2 ^ 32)))) (2 ^ 32)))) + (Int.fdiv (IntKind.u64.wrap ((ibits .and .u64 (IntKind.u64.wrap ((IntKind.u64.wrap ((Int.fdiv a0 (2 ^ 32)) * (ibits .and .u64 a1 4294967295))) + (Int.fdiv (IntKind.u64.wrap ((ibits .and .u64 a0 4294967295) * (ibits .and .u64 a1 4294967295))) (2 ^ 32)))) 4294967295) + (IntKind.u64.wrap ((ibits .and .u64 a0 4294967295) * (Int.fdiv a1 (2 ^ 32)))))) (2 ^ 32))), IntKind.u64.wrap (a0 * a1))
noncomputable def bits_Mul (a0 : Int) (a1 : Int) : Option (Int × Int) :=
  (bits_Mul64 a0 a1).bind fun x1 =>
  some (x1.1, x1.2)
noncomputable def slices_Repeat_4bb_loop1 (x2 : Int × Int) (x5 : Int × (List (Int × K72c5.T))) : Option ((((List (Int × K72c5.T)))) ⊕ (Int × (List (Int × K72c5.T)))) :=
    (bif decide (x5.1 < (((IntKind.i64.wrap x2.2).toNat : Nat) : Int)) then
        some true
      else
        some false : Option (Bool)).bind fun x6 =>
    bif x6 then
      req (0 ≤ x5.1 ∧ x5.1 ≤ (((IntKind.i64.wrap x2.2).toNat : Nat) : Int) ∧ (((IntKind.i64.wrap x2.2).toNat : Nat) : Int) ≤ (((IntKind.i64.wrap x2.2).toNat : Nat) : Int)) <|
      req (0 ≤ (0 : Int) ∧ (0 : Int) ≤ x5.1 ∧ x5.1 ≤ (((IntKind.i64.wrap x2.2).toNat : Nat) : Int)) <|
      req (x5.1.toNat + ((IntKind.i64.wrap x2.2).toNat - x5.1.toNat) ≤ x5.2.length) <|
      req (0 + x5.1.toNat ≤ x5.2.length) <|
      some (.inr (IntKind.i64.wrap (x5.1 + ((min ((x5.2.drop 0).take x5.1.toNat).length ((IntKind.i64.wrap x2.2).toNat - x5.1.toNat) : Nat) : Int)), cpy x5.2 x5.1.toNat ((x5.2.drop 0).take x5.1.toNat) (min ((x5.2.drop 0).take x5.1.toNat).length ((IntKind.i64.wrap x2.2).toNat - x5.1.toNat))))
    else
      some (.inl x5.2)
noncomputable def slices_Repeat_4bb (a0 : List (Int × K72c5.T)) (a1 : Int) : Option ((List (Int × K72c5.T))) :=
  (bif decide (a1 < 0) then
      some true
    else
      some false : Option (Bool)).bind fun x1 =>
  bif x1 then
    none
  else
    (bits_Mul (IntKind.u64.wrap (a0.length : Int)) (IntKind.u64.wrap a1)).bind fun x2 =>
    (bif decide (x2.1 > 0) then
        some true
      else
        bif decide (x2.2 > 9223372036854775807) then
          some true
        else
          some false : Option (Bool)).bind fun x3 =>
    bif x3 then
      none
    else
      req (0 ≤ (IntKind.i64.wrap x2.2) ∧ (IntKind.i64.wrap x2.2) ≤ (IntKind.i64.wrap x2.2) ∧ (IntKind.i64.wrap x2.2).toNat * 48 ≤ maxBy) <|
      req (0 + ((IntKind.i64.wrap x2.2).toNat) ≤ (List.replicate ((IntKind.i64.wrap x2.2).toNat) (0, (0, 0), 0, 0, 0, 0) : List (Int × K72c5.T)).length) <|
      (loopO (slices_Repeat_4bb_loop1 x2) (((min a0.length ((IntKind.i64.wrap x2.2).toNat) : Nat) : Int), cpy (List.replicate ((IntKind.i64.wrap x2.2).toNat) (0, (0, 0), 0, 0, 0, 0) : List (Int × K72c5.T)) 0 a0 (min a0.length ((IntKind.i64.wrap x2.2).toNat)))).bind fun x7 =>
      req ((IntKind.i64.wrap x2.2).toNat = x7.length) (some x7)
noncomputable def line_Blank (a0 : Int) (a1 : K92a5.T) : Option ((List (Int × K72c5.T))) :=
  (bif decide (a0 < 0) then
      some true
    else
      bif decide (a0 > 1000) then
        some true
      else
        (pen_May a1).bind fun x2 =>
        bif !x2 then
          some true
        else
          some false : Option (Bool)).bind fun x3 =>
  bif x3 then
    some ([])
  else
    (line_blank a1).bind fun x4 =>
    (slices_Repeat_4bb [x4] a0).bind fun x5 =>
    some x5
noncomputable def grid_Blank_d0d_loop1 (a0 : Int) (a1 : Int) (a2 : K92a5.T) (x11 : Int × (List (List (Int × K72c5.T)))) : Option ((((List (List (Int × K72c5.T))))) ⊕ (Int × (List (List (Int × K72c5.T))))) :=
    (bif decide (x11.1 < ((a0.toNat : Nat) : Int)) then
        some true
      else
        some false : Option (Bool)).bind fun x12 =>
    bif x12 then
      (line_Blank a1 a2).bind fun x13 =>
      req (0 ≤ x11.1 ∧ x11.1 < ((a0.toNat : Nat) : Int)) <|
      (x11.2[x11.1.toNat]?).bind fun x14 =>
      some (.inr (IntKind.i64.wrap (x11.1 + 1), x11.2.set x11.1.toNat x13))
    else
      some (.inl x11.2)
noncomputable def grid_Blank_d0d (a0 : Int) (a1 : Int) (a2 : K92a5.T) : Option ((List (List (Int × K72c5.T)))) :=
  ((grid_side a0).bind fun x4 =>
    bif !x4 then
      some true
    else
      (grid_side a1).bind fun x5 =>
      bif !x5 then
        some true
      else
        (pen_May a2).bind fun x6 =>
        bif !x6 then
          some true
        else
          some false : Option (Bool)).bind fun x7 =>
  bif x7 then
    some ([])
  else
    req (0 ≤ a0 ∧ a0 ≤ a0 ∧ a0.toNat * 24 ≤ maxBy) <|
    (loopO (grid_Blank_d0d_loop1 a0 a1 a2) (0, (List.replicate a0.toNat [] : List (List (Int × K72c5.T))))).bind fun x15 =>
    req (a0.toNat = x15.length) (some x15)
noncomputable def tabs_side (a0 : Int) : Option (Bool) :=
  bif decide (a0 ≥ 0) then
    some (decide (a0 < 200))
  else
    some false
noncomputable def tabs_Set (a0 : Int × Kf613.T) (a1 : Int) : Option ((Int × Kf613.T)) :=
  (((tabs_side a1).bind fun x5 =>
      bif x5 then
        some true
      else
        some false : Option (Bool)).bind fun x6 =>
    bif x6 then
      bif (IntKind.i64.wrap (Int.tdiv a1 64)) == 0 then
        req (0 ≤ (Int.tmod a1 64)) <|
        bif (IntKind.i64.wrap (Int.tdiv a1 64)) == 0 then
          some (ibits .or .u64 a0.1 (IntKind.u64.wrap ((1 : Int) * 2 ^ (min (Int.tmod a1 64).toNat 64))), a0.2.1, a0.2.2.1, a0.2.2.2)
        else
          bif (IntKind.i64.wrap (Int.tdiv a1 64)) == 1 then
            some (a0.1, ibits .or .u64 a0.1 (IntKind.u64.wrap ((1 : Int) * 2 ^ (min (Int.tmod a1 64).toNat 64))), a0.2.2.1, a0.2.2.2)
          else
            bif (IntKind.i64.wrap (Int.tdiv a1 64)) == 2 then
              some (a0.1, a0.2.1, ibits .or .u64 a0.1 (IntKind.u64.wrap ((1 : Int) * 2 ^ (min (Int.tmod a1 64).toNat 64))), a0.2.2.2)
            else
              bif (IntKind.i64.wrap (Int.tdiv a1 64)) == 3 then
                some (a0.1, a0.2.1, a0.2.2.1, ibits .or .u64 a0.1 (IntKind.u64.wrap ((1 : Int) * 2 ^ (min (Int.tmod a1 64).toNat 64))))
              else
                none
      else
        bif (IntKind.i64.wrap (Int.tdiv a1 64)) == 1 then
          req (0 ≤ (Int.tmod a1 64)) <|
          bif (IntKind.i64.wrap (Int.tdiv a1 64)) == 0 then
            some (ibits .or .u64 a0.2.1 (IntKind.u64.wrap ((1 : Int) * 2 ^ (min (Int.tmod a1 64).toNat 64))), a0.2.1, a0.2.2.1, a0.2.2.2)
          else
            bif (IntKind.i64.wrap (Int.tdiv a1 64)) == 1 then
              some (a0.1, ibits .or .u64 a0.2.1 (IntKind.u64.wrap ((1 : Int) * 2 ^ (min (Int.tmod a1 64).toNat 64))), a0.2.2.1, a0.2.2.2)
            else
              bif (IntKind.i64.wrap (Int.tdiv a1 64)) == 2 then
                some (a0.1, a0.2.1, ibits .or .u64 a0.2.1 (IntKind.u64.wrap ((1 : Int) * 2 ^ (min (Int.tmod a1 64).toNat 64))), a0.2.2.2)
              else
                bif (IntKind.i64.wrap (Int.tdiv a1 64)) == 3 then
                  some (a0.1, a0.2.1, a0.2.2.1, ibits .or .u64 a0.2.1 (IntKind.u64.wrap ((1 : Int) * 2 ^ (min (Int.tmod a1 64).toNat 64))))
                else
                  none
        else
          bif (IntKind.i64.wrap (Int.tdiv a1 64)) == 2 then
            req (0 ≤ (Int.tmod a1 64)) <|
            bif (IntKind.i64.wrap (Int.tdiv a1 64)) == 0 then
              some (ibits .or .u64 a0.2.2.1 (IntKind.u64.wrap ((1 : Int) * 2 ^ (min (Int.tmod a1 64).toNat 64))), a0.2.1, a0.2.2.1, a0.2.2.2)
            else
              bif (IntKind.i64.wrap (Int.tdiv a1 64)) == 1 then
                some (a0.1, ibits .or .u64 a0.2.2.1 (IntKind.u64.wrap ((1 : Int) * 2 ^ (min (Int.tmod a1 64).toNat 64))), a0.2.2.1, a0.2.2.2)
              else
                bif (IntKind.i64.wrap (Int.tdiv a1 64)) == 2 then
                  some (a0.1, a0.2.1, ibits .or .u64 a0.2.2.1 (IntKind.u64.wrap ((1 : Int) * 2 ^ (min (Int.tmod a1 64).toNat 64))), a0.2.2.2)
                else
                  bif (IntKind.i64.wrap (Int.tdiv a1 64)) == 3 then
                    some (a0.1, a0.2.1, a0.2.2.1, ibits .or .u64 a0.2.2.1 (IntKind.u64.wrap ((1 : Int) * 2 ^ (min (Int.tmod a1 64).toNat 64))))
                  else
                    none
          else
            bif (IntKind.i64.wrap (Int.tdiv a1 64)) == 3 then
              req (0 ≤ (Int.tmod a1 64)) <|
              bif (IntKind.i64.wrap (Int.tdiv a1 64)) == 0 then
                some (ibits .or .u64 a0.2.2.2 (IntKind.u64.wrap ((1 : Int) * 2 ^ (min (Int.tmod a1 64).toNat 64))), a0.2.1, a0.2.2.1, a0.2.2.2)
              else
                bif (IntKind.i64.wrap (Int.tdiv a1 64)) == 1 then
                  some (a0.1, ibits .or .u64 a0.2.2.2 (IntKind.u64.wrap ((1 : Int) * 2 ^ (min (Int.tmod a1 64).toNat 64))), a0.2.2.1, a0.2.2.2)
                else
                  bif (IntKind.i64.wrap (Int.tdiv a1 64)) == 2 then
                    some (a0.1, a0.2.1, ibits .or .u64 a0.2.2.2 (IntKind.u64.wrap ((1 : Int) * 2 ^ (min (Int.tmod a1 64).toNat 64))), a0.2.2.2)
                  else
                    bif (IntKind.i64.wrap (Int.tdiv a1 64)) == 3 then
                      some (a0.1, a0.2.1, a0.2.2.1, ibits .or .u64 a0.2.2.2 (IntKind.u64.wrap ((1 : Int) * 2 ^ (min (Int.tmod a1 64).toNat 64))))
                    else
                      none
            else
              none
    else
      some (a0.1, a0.2.1, a0.2.2.1, a0.2.2.2) : Option (Int × Int × Int × Int)).bind fun x7 =>
  some x7
noncomputable def tabs_Wider_loop1 (a2 : Int) (a1 : Int) (x7 : Int × Int × Int × Int × Int) : Option (((Int × Int × Int × Int)) ⊕ (Int × Int × Int × Int × Int)) :=
    (bif decide (x7.1 < (if (200 : Int) < a2 then (200 : Int) else a2)) then
        some true
      else
        some false : Option (Bool)).bind fun x8 =>
    bif x8 then
      ((bif decide (x7.1 ≥ a1) then
            some true
          else
            some false : Option (Bool)).bind fun x11 =>
        bif x11 then
          (tabs_Set x7.2 x7.1).bind fun x12 =>
          some (x12.1, x12.2.1, x12.2.2.1, x12.2.2.2)
        else
          some (x7.2.1, x7.2.2.1, x7.2.2.2.1, x7.2.2.2.2) : Option (Int × Int × Int × Int)).bind fun x13 =>
      some (.inr (IntKind.i64.wrap (x7.1 + 8), x13.1, x13.2.1, x13.2.2.1, x13.2.2.2))
    else
      some (.inl (x7.2.1, x7.2.2.1, x7.2.2.2.1, x7.2.2.2.2))
noncomputable def tabs_Wider (a0 : Int × Kf613.T) (a1 : Int) (a2 : Int) : Option ((Int × Kf613.T)) :=
  (loopO (tabs_Wider_loop1 a2 a1) (8, a0.1, a0.2.1, a0.2.2.1, a0.2.2.2)).bind fun x14 =>
  some x14
noncomputable def tabs_Usual (a0 : Int) : Option ((Int × Kf613.T)) :=
  (tabs_Wider (0, 0, 0, 0) 0 a0).bind fun x1 =>
  some x1
noncomputable def screen_New (a0 : Int) (a1 : Int) : Option ((Int × Int × K05d1.T) × Int) :=
  (grid_Blank_d0d a0 a1 (0, 0, 0)).bind fun x1 =>
  (bif ((x1.length : Nat) : Int) == 0 then
      some true
    else
      some false : Option (Bool)).bind fun x2 =>
  bif x2 then
    some ((0, 0, [], [], 0, 0, false, (0, 0, 0), 0, 0, 0, ((0, 0, (0, 0, 0), false, false), 0, 0, (0, 0, 0), false, false), (0, 0, 0, 0), []), 2)
  else
    (tabs_Usual a1).bind fun x3 =>
    req (x1.length = x1.length) (some ((a0, a1, x1, [], 0, 0, false, (0, 0, 0), 0, IntKind.i64.wrap (a0 - 1), 9, ((0, 0, (0, 0, 0), false, false), 0, 0, (0, 0, 0), false, false), x3, []), 0))
noncomputable def cols_Of_1_030 (a0 : Int) (a1 : Int) : Option (Bool) :=
  (getI tab_bounds a0).bind fun x1 =>
  some (decide (x1.2.1 ≥ a1))
noncomputable def sort_Search_4a9_loop1 (a1 : Int) (x5 : Int × Int) : Option (((Int)) ⊕ (Int × Int)) :=
    (bif decide (x5.1 < x5.2) then
        some true
      else
        some false : Option (Bool)).bind fun x6 =>
    bif x6 then
      ((cols_Of_1_030 (IntKind.i64.wrap (Int.fdiv (IntKind.u64.wrap (IntKind.i64.wrap (x5.1 + x5.2))) (2 ^ 1))) a1).bind fun x8 =>
        bif !x8 then
          some true
        else
          some false : Option (Bool)).bind fun x9 =>
      bif x9 then
        some (.inr (IntKind.i64.wrap ((IntKind.i64.wrap (Int.fdiv (IntKind.u64.wrap (IntKind.i64.wrap (x5.1 + x5.2))) (2 ^ 1))) + 1), x5.2))
      else
        some (.inr (x5.1, IntKind.i64.wrap (Int.fdiv (IntKind.u64.wrap (IntKind.i64.wrap (x5.1 + x5.2))) (2 ^ 1))))
    else
      some (.inl x5.1)
noncomputable def sort_Search_4a9 (a0 : Int) (a1 : Int) : Option (Int) :=
  (loopO (sort_Search_4a9_loop1 a1) (0, a0)).bind fun x10 =>
  some x10
noncomputable def cols_Of (a0 : Int) : Option (Int) :=
  (bif decide (a0 < 32) then
      some true
    else
      bif decide (a0 ≥ 127) then
        bif decide (a0 < 160) then
          some true
        else
          bif decide (a0 ≥ 55296) then
            bif decide (a0 ≤ 57343) then
              some true
            else
              bif decide (a0 > 1114111) then
                some true
              else
                some false
          else
            bif decide (a0 > 1114111) then
              some true
            else
              some false
      else
        bif decide (a0 ≥ 55296) then
          bif decide (a0 ≤ 57343) then
            some true
          else
            bif decide (a0 > 1114111) then
              some true
            else
              some false
        else
          bif decide (a0 > 1114111) then
            some true
          else
            some false : Option (Bool)).bind fun x1 =>
  bif x1 then
    some (-1)
  else
    (sort_Search_4a9 22 a0).bind fun x2 =>
    (bif decide (x2 < 22) then
        (getI tab_bounds x2).bind fun x4 =>
        bif decide (x4.1 ≤ a0) then
          some true
        else
          some false
      else
        some false : Option (Bool)).bind fun x5 =>
    bif x5 then
      (getI tab_bounds x2).bind fun x6 =>
      some (IntKind.i64.wrap x6.2.2)
    else
      some 1
noncomputable def line_marked (a0 : Int × Int) : Option (Bool) :=
  (bif a0.1 == 0 then
      some true
    else
      some false : Option (Bool)).bind fun x1 =>
  bif x1 then
    some (a0.2 == 0)
  else
    (cols_Of a0.1).bind fun x2 =>
    bif x2 == 0 then
      bif a0.2 == 0 then
        some true
      else
        (cols_Of a0.2).bind fun x3 =>
        some (x3 == 0)
    else
      some false
noncomputable def line_may (a0 : Int × K72c5.T) : Option (Bool) :=
  ((bif a0.2.2.1 == 0 then
        some true
      else
        some false : Option (Bool)).bind fun x2 =>
    bif x2 then
      some x2
    else
      bif a0.2.2.1 == 1 then
        some true
      else
        some false : Option (Bool)).bind fun x3 =>
  bif x3 then
    (pen_May a0.2.2.2).bind fun x4 =>
    bif x4 then
      (cols_Of a0.1).bind fun x5 =>
      bif x5 == (IntKind.i64.wrap (a0.2.2.1 + 1)) then
        (line_marked a0.2.1).bind fun x6 =>
        some x6
      else
        some false
    else
      some false
  else
    (bif a0.2.2.1 == 2 then
        some true
      else
        some false : Option (Bool)).bind fun x7 =>
    bif x7 then
      (pen_May a0.2.2.2).bind fun x8 =>
      bif x8 then
        some ((a0.1 == 0) && (((a0.2.1.1 == 0) && ((a0.2.1.2 == 0) && true)) && ((a0.2.2.1 == 2) && (((a0.2.2.2.1 == a0.2.2.2.1) && ((a0.2.2.2.2.1 == a0.2.2.2.2.1) && ((a0.2.2.2.2.2 == a0.2.2.2.2.2) && true))) && true))))
      else
        some false
    else
      some false
noncomputable def line_May_loop1 (a0 : List (Int × K72c5.T)) (x7 : Int) : Option (((Unit) ⊕ (Unit)) ⊕ (Int)) :=
    (bif decide (x7 < (a0.length : Int)) then
        some true
      else
        some false : Option (Bool)).bind fun x8 =>
    bif x8 then
      (getI a0 x7).bind fun x9 =>
      (bif decide (x7 > 0) then
          (getI a0 (IntKind.i64.wrap (x7 - 1))).bind fun x11 =>
          some (x11.2.2.1 == 1)
        else
          some false : Option (Bool)).bind fun x12 =>
      ((line_may x9).bind fun x15 =>
        bif !x15 then
          some true
        else
          bif !(x12 == (x9.2.2.1 == 2)) then
            some true
          else
            bif x12 then
              (getI a0 (IntKind.i64.wrap (x7 - 1))).bind fun x16 =>
              bif !((x16.2.2.2.1 == x9.2.2.2.1) && ((x16.2.2.2.2.1 == x9.2.2.2.2.1) && ((x16.2.2.2.2.2 == x9.2.2.2.2.2) && true))) then
                some true
              else
                bif x9.2.2.1 == 1 then
                  bif x7 == (IntKind.i64.wrap ((a0.length : Int) - 1)) then
                    some true
                  else
                    some false
                else
                  some false
            else
              bif x9.2.2.1 == 1 then
                bif x7 == (IntKind.i64.wrap ((a0.length : Int) - 1)) then
                  some true
                else
                  some false
              else
                some false : Option (Bool)).bind fun x17 =>
      bif x17 then
        some (.inl (.inl ()))
      else
        some (.inr (IntKind.i64.wrap (x7 + 1)))
    else
      some (.inl (.inr ()))
noncomputable def line_May (a0 : List (Int × K72c5.T)) : Option (Bool) :=
  (bif decide ((a0.length : Int) > 1000) then
      some true
    else
      some false : Option (Bool)).bind fun x1 =>
  bif x1 then
    some false
  else
    (loopO (line_May_loop1 a0) 0).bind fun o => match o with
    | .inl _ =>
      some false
    | .inr _ =>
      some true
noncomputable def grid_May_1_649 (a0 : List (Int × K72c5.T)) (a1 : List (List (Int × K72c5.T))) : Option (Bool) :=
  (getI a1 0).bind fun x1 =>
  bif (a0.length : Int) != (x1.length : Int) then
    some true
  else
    (line_May a0).bind fun x2 =>
    some (!x2)
noncomputable def slices_IndexFunc_dd0_loop1 (a0 : List (List (Int × K72c5.T))) (a1 : List (List (Int × K72c5.T))) (x7 : Int) : Option (((Int) ⊕ (Unit)) ⊕ (Int)) :=
    (bif decide (x7 < (a0.length : Int)) then
        some true
      else
        some false : Option (Bool)).bind fun x8 =>
    bif x8 then
      ((getI a0 x7).bind fun x11 =>
        (grid_May_1_649 x11 a1).bind fun x12 =>
        bif x12 then
          some true
        else
          some false : Option (Bool)).bind fun x13 =>
      bif x13 then
        some (.inl (.inl x7))
      else
        some (.inr (IntKind.i64.wrap (x7 + 1)))
    else
      some (.inl (.inr ()))
noncomputable def slices_IndexFunc_dd0 (a0 : List (List (Int × K72c5.T))) (a1 : List (List (Int × K72c5.T))) : Option (Int) :=
  (loopO (slices_IndexFunc_dd0_loop1 a0 a1) 0).bind fun o => match o with
  | .inl x14 =>
    some x14
  | .inr _ =>
    some (-1)
noncomputable def slices_ContainsFunc_dd0 (a0 : List (List (Int × K72c5.T))) (a1 : List (List (Int × K72c5.T))) : Option (Bool) :=
  (slices_IndexFunc_dd0 a0 a1).bind fun x1 =>
  some (decide (x1 ≥ 0))
noncomputable def grid_May (a0 : List (List (Int × K72c5.T))) : Option (Bool) :=
  ((grid_side (a0.length : Int)).bind fun x4 =>
    bif !x4 then
      some true
    else
      (getI a0 0).bind fun x5 =>
      (grid_side (x5.length : Int)).bind fun x6 =>
      bif !x6 then
        some true
      else
        some false : Option (Bool)).bind fun x7 =>
  bif x7 then
    some false
  else
    (slices_ContainsFunc_dd0 a0 a0).bind fun x8 =>
    some (!x8)
noncomputable def screen_sized (a0 : List (List (Int × K72c5.T))) (a1 : Int × Int × K05d1.T) : Option (Bool) :=
  (grid_May a0).bind fun x1 =>
  bif x1 then
    bif (a0.length : Int) == a1.1 then
      (getI a0 0).bind fun x2 =>
      some ((x2.length : Int) == a1.2.1)
    else
      some false
  else
    some false
noncomputable def screen_May_1_1b3 (a0 : Int) (a1 : Int) : Option (Bool) :=
  bif decide (a0 ≥ 0) then
    some (decide (a0 < a1))
  else
    some false
noncomputable def screen_spot_1 (a0 : Int) : Option (Bool) :=
  bif decide (a0 ≥ 0) then
    some (decide (a0 < 200))
  else
    some false
noncomputable def screen_spot (a0 : K36e7.T) : Option (Bool) :=
  (screen_spot_1 a0.1).bind fun x1 =>
  bif x1 then
    (screen_spot_1 a0.2.1).bind fun x2 =>
    bif x2 then
      (pen_May a0.2.2.1).bind fun x3 =>
      some x3
    else
      some false
  else
    some false
noncomputable def screen_titled_1 (a0 : Int) : Option (Bool) :=
  (cols_Of a0).bind fun x1 =>
  some (decide (x1 < 1))
noncomputable def slices_IndexFunc_c49_loop1 (a0 : List Int) (x7 : Int) : Option (((Int) ⊕ (Unit)) ⊕ (Int)) :=
    (bif decide (x7 < (a0.length : Int)) then
        some true
      else
        some false : Option (Bool)).bind fun x8 =>
    bif x8 then
      ((getI a0 x7).bind fun x11 =>
        (screen_titled_1 x11).bind fun x12 =>
        bif x12 then
          some true
        else
          some false : Option (Bool)).bind fun x13 =>
      bif x13 then
        some (.inl (.inl x7))
      else
        some (.inr (IntKind.i64.wrap (x7 + 1)))
    else
      some (.inl (.inr ()))
noncomputable def slices_IndexFunc_c49 (a0 : List Int) : Option (Int) :=
  (loopO (slices_IndexFunc_c49_loop1 a0) 0).bind fun o => match o with
  | .inl x14 =>
    some x14
  | .inr _ =>
    some (-1)
noncomputable def slices_ContainsFunc_c49 (a0 : List Int) : Option (Bool) :=
  (slices_IndexFunc_c49 a0).bind fun x1 =>
  some (decide (x1 ≥ 0))
noncomputable def screen_titled (a0 : List Int) : Option (Bool) :=
  bif decide ((a0.length : Int) ≤ 60) then
    (slices_ContainsFunc_c49 a0).bind fun x1 =>
    some (!x1)
  else
    some false
noncomputable def screen_May (a0 : Int × Int × K05d1.T) : Option (Bool) :=
  ((screen_sized a0.2.2.1 a0).bind fun x3 =>
    bif !x3 then
      some true
    else
      bif !(((ibits .and .i64 a0.2.2.2.2.2.2.2.2.2.2.1 128) != 0) == (decide ((a0.2.2.2.1.length : Int) > 0))) then
        some true
      else
        bif (ibits .and .i64 a0.2.2.2.2.2.2.2.2.2.2.1 128) != 0 then
          (screen_sized a0.2.2.2.1 a0).bind fun x4 =>
          bif !x4 then
            some true
          else
            some false
        else
          some false : Option (Bool)).bind fun x5 =>
  bif x5 then
    some false
  else
    ((screen_May_1_1b3 a0.2.2.2.2.1 a0.1).bind fun x9 =>
      bif !x9 then
        some true
      else
        (screen_May_1_1b3 a0.2.2.2.2.2.2.2.2.1 a0.1).bind fun x10 =>
        bif !x10 then
          some true
        else
          (screen_May_1_1b3 a0.2.2.2.2.2.2.2.2.2.1 a0.1).bind fun x11 =>
          bif !x11 then
            some true
          else
            bif decide (a0.2.2.2.2.2.1 < 0) then
              some true
            else
              bif decide (a0.2.2.2.2.2.1 ≥ a0.2.1) then
                some true
              else
                bif a0.2.2.2.2.2.2.1 then
                  bif decide (a0.2.2.2.2.2.1 < (IntKind.i64.wrap (a0.2.1 - 1))) then
                    some true
                  else
                    some false
                else
                  some false : Option (Bool)).bind fun x12 =>
    bif x12 then
      some false
    else
      (bif decide (a0.2.2.2.2.2.2.2.2.1 ≥ a0.2.2.2.2.2.2.2.2.2.1) then
          bif decide (a0.1 > 1) then
            some true
          else
            bif decide (a0.2.2.2.2.2.2.2.2.2.2.1 < 0) then
              some true
            else
              bif decide (a0.2.2.2.2.2.2.2.2.2.2.1 > 255) then
                some true
              else
                some false
        else
          bif decide (a0.2.2.2.2.2.2.2.2.2.2.1 < 0) then
            some true
          else
            bif decide (a0.2.2.2.2.2.2.2.2.2.2.1 > 255) then
              some true
            else
              some false : Option (Bool)).bind fun x13 =>
      bif x13 then
        some false
      else
        (pen_May a0.2.2.2.2.2.2.2.1).bind fun x14 =>
        bif x14 then
          (screen_spot a0.2.2.2.2.2.2.2.2.2.2.2.1.1).bind fun x15 =>
          bif x15 then
            (screen_spot a0.2.2.2.2.2.2.2.2.2.2.2.1.2).bind fun x16 =>
            bif x16 then
              (screen_titled a0.2.2.2.2.2.2.2.2.2.2.2.2.2).bind fun x17 =>
              some x17
            else
              some false
          else
            some false
        else
          some false
noncomputable def slices_Clone_0e3_raw (a0 : List (Int × K72c5.T)) : Option ((List (Int × K72c5.T))) :=
  bif a0.isEmpty then
    agree (some ([]))
      (req ((([] : List (Int × K72c5.T)) ++ a0).length * 48 ≤ maxBy) <|
      req ((([] : List (Int × K72c5.T)) ++ a0).length = (([] : List (Int × K72c5.T)) ++ a0).length) (some (([] : List (Int × K72c5.T)) ++ a0)))
  else
    req ((([] : List (Int × K72c5.T)) ++ a0).length * 48 ≤ maxBy) <|
    req ((([] : List (Int × K72c5.T)) ++ a0).length = (([] : List (Int × K72c5.T)) ++ a0).length) (some (([] : List (Int × K72c5.T)) ++ a0))
noncomputable def slices_Clone_0e3 (a0 : List (Int × K72c5.T)) : Option ((List (Int × K72c5.T))) :=
  req (a0.length * 48 ≤ maxBy) (some a0)
theorem slices_Clone_0e3_law {a0 : List (Int × K72c5.T)} {v : ((List (Int × K72c5.T)))} (h : slices_Clone_0e3 a0 = some v) : slices_Clone_0e3_raw a0 = some v := clone_law h
noncomputable def screen_copied_82d_loop1 (a0 : List (List (Int × K72c5.T))) (x4 : Int × (List (List (Int × K72c5.T)))) : Option ((((List (List (Int × K72c5.T))))) ⊕ (Int × (List (List (Int × K72c5.T))))) :=
    (bif decide (x4.1 < (a0.length : Int)) then
        some true
      else
        some false : Option (Bool)).bind fun x5 =>
    bif x5 then
      (getI a0 x4.1).bind fun x6 =>
      (slices_Clone_0e3 x6).bind fun x7 =>
      req (x7.length = x7.length) <|
      req (x4.2.length = x4.2.length) <|
      req ((x4.2 ++ [x7]).length * 24 ≤ maxBy) <|
      req ((x4.2 ++ [x7]).length = (x4.2 ++ [x7]).length) (some (.inr (IntKind.i64.wrap (x4.1 + 1), x4.2 ++ [x7])))
    else
      req (x4.2.length = x4.2.length) (some (.inl x4.2))
noncomputable def screen_copied_82d (a0 : List (List (Int × K72c5.T))) : Option ((List (List (Int × K72c5.T)))) :=
  (loopO (screen_copied_82d_loop1 a0) (0, [])).bind fun x8 =>
  req (x8.length = x8.length) (some x8)
noncomputable def slices_Clone_b44_raw (a0 : List Int) : Option (List Int) :=
  bif a0.isEmpty then
    agree (some ([]))
      (req ((([] : List (Int)) ++ a0).length * 4 ≤ maxBy) <|
      req ((([] : List (Int)) ++ a0).length = (([] : List (Int)) ++ a0).length) (some (([] : List (Int)) ++ a0)))
  else
    req ((([] : List (Int)) ++ a0).length * 4 ≤ maxBy) <|
    req ((([] : List (Int)) ++ a0).length = (([] : List (Int)) ++ a0).length) (some (([] : List (Int)) ++ a0))
noncomputable def slices_Clone_b44 (a0 : List Int) : Option (List Int) :=
  req (a0.length * 4 ≤ maxBy) (some a0)
theorem slices_Clone_b44_law {a0 : List Int} {v : (List Int)} (h : slices_Clone_b44 a0 = some v) : slices_Clone_b44_raw a0 = some v := clone_law h
noncomputable def screen_between (a0 : Int) (a1 : Int) (a2 : Int) : Option (Int) :=
  some (if (if a2 < a0 then a2 else a0) > a1 then (if a2 < a0 then a2 else a0) else a1)
noncomputable def line_Mark_loop1 (x15 : Int × K72c5.T) (x14 : Int) (x4 : (List (Int × K72c5.T))) (a2 : Int) (x18 : Int) : Option ((((List (Int × K72c5.T)))) ⊕ (Int)) :=
    (bif decide (x18 < 2) then
        some true
      else
        some false : Option (Bool)).bind fun x19 =>
    bif x19 then
      (bif x18 == 0 then
          some (x18, x15.2.1.1)
        else
          bif x18 == 1 then
            some (x18, x15.2.1.2)
          else
            none : Option (Int × Int)).bind fun x20 =>
      (bif x20.2 == 0 then
          some true
        else
          some false : Option (Bool)).bind fun x21 =>
      bif x21 then
        req (0 ≤ x14 ∧ x14 < ((x4.length : Nat) : Int)) <|
        bif x20.1 == 0 then
          (x4[x14.toNat]?).bind fun x23 =>
          some (.inl (x4.set x14.toNat (x23.1, (a2, x23.2.1.2), x23.2.2)))
        else
          bif x20.1 == 1 then
            (x4[x14.toNat]?).bind fun x22 =>
            some (.inl (x4.set x14.toNat (x22.1, (x22.2.1.1, a2), x22.2.2)))
          else
            none
      else
        some (.inr (IntKind.i64.wrap (x18 + 1)))
    else
      some (.inl x4)
noncomputable def line_Mark (a0 : List (Int × K72c5.T)) (a1 : Int) (a2 : Int) : Option ((List (Int × K72c5.T))) :=
  ((line_May a0).bind fun x2 =>
    bif !x2 then
      some true
    else
      some false : Option (Bool)).bind fun x3 =>
  bif x3 then
    some ([] : List (Int × K72c5.T))
  else
    (slices_Clone_0e3 a0).bind fun x4 =>
    (bif decide (a1 < 0) then
        some true
      else
        bif decide (a1 ≥ (a0.length : Int)) then
          some true
        else
          (cols_Of a2).bind fun x6 =>
          bif x6 != 0 then
            some true
          else
            some false : Option (Bool)).bind fun x7 =>
    bif x7 then
      req (x4.length = x4.length) (some x4)
    else
      (((getI a0 a1).bind fun x12 =>
          bif x12.2.2.1 == 2 then
            some true
          else
            some false : Option (Bool)).bind fun x13 =>
        bif x13 then
          some (IntKind.i64.wrap (a1 - 1))
        else
          some a1 : Option (Int)).bind fun x14 =>
      req (0 ≤ x14 ∧ x14 < ((x4.length : Nat) : Int)) <|
      (x4[x14.toNat]?).bind fun x15 =>
      (loopO (line_Mark_loop1 x15 x14 x4 a2) 0).bind fun x24 =>
      req (x4.length = x24.length) (some x24)
noncomputable def grid_copied_d77_loop1 (a0 : List (List (Int × K72c5.T))) (x5 : Int × (List (List (Int × K72c5.T)))) : Option ((((List (List (Int × K72c5.T))))) ⊕ (Int × (List (List (Int × K72c5.T))))) :=
    (bif decide (x5.1 < ((a0.length : Nat) : Int)) then
        some true
      else
        some false : Option (Bool)).bind fun x6 =>
    bif x6 then
      req (0 ≤ x5.1 ∧ x5.1 < ((a0.length : Nat) : Int)) <|
      (a0[x5.1.toNat]?).bind fun x7 =>
      (slices_Clone_0e3 x7).bind fun x8 =>
      req (0 ≤ x5.1 ∧ x5.1 < ((((a0.length : Nat) : Int).toNat : Nat) : Int)) <|
      req (x8.length = x8.length) <|
      (x5.2[x5.1.toNat]?).bind fun x9 =>
      some (.inr (IntKind.i64.wrap (x5.1 + 1), x5.2.set x5.1.toNat x8))
    else
      some (.inl x5.2)
noncomputable def grid_copied_d77 (a0 : List (List (Int × K72c5.T))) : Option ((List (List (Int × K72c5.T)))) :=
  req (0 ≤ ((a0.length : Nat) : Int) ∧ ((a0.length : Nat) : Int) ≤ ((a0.length : Nat) : Int) ∧ ((a0.length : Nat) : Int).toNat * 24 ≤ maxBy) <|
  (loopO (grid_copied_d77_loop1 a0) (0, (List.replicate (((a0.length : Nat) : Int).toNat) [] : List (List (Int × K72c5.T))))).bind fun x10 =>
  req (((a0.length : Nat) : Int).toNat = x10.length) (some x10)
noncomputable def grid_Scroll_c79_loop1 (x10 : Nat × Nat × (List (List (Int × K72c5.T)))) (a4 : List (List (Int × K72c5.T))) (a3 : K92a5.T) (x15 : Int × (List (List (Int × K72c5.T)))) : Option ((((List (List (Int × K72c5.T))))) ⊕ (Int × (List (List (Int × K72c5.T))))) :=
    (bif decide (x15.1 < ((x10.2.1 : Nat) : Int)) then
        some true
      else
        some false : Option (Bool)).bind fun x16 =>
    bif x16 then
      req (0 ≤ (0 : Int) ∧ (0 : Int) < ((a4.length : Nat) : Int)) <|
      (a4[(0 : Int).toNat]?).bind fun x17 =>
      (line_Blank (x17.length : Int) a3).bind fun x18 =>
      req (0 ≤ x15.1 ∧ x15.1 < ((x10.2.1 : Nat) : Int)) <|
      (x15.2[x15.1.toNat + x10.1]?).bind fun x19 =>
      some (.inr (IntKind.i64.wrap (x15.1 + 1), x15.2.set (x15.1.toNat + x10.1) x18))
    else
      some (.inl x15.2)
noncomputable def grid_Scroll_c79 (a0 : Int) (a1 : Int) (a2 : Int) (a3 : K92a5.T) (a4 : List (List (Int × K72c5.T))) : Option ((List (List (Int × K72c5.T)))) :=
  (req (a4.length = a4.length) <|
    (grid_May a4).bind fun x3 =>
    bif !x3 then
      some true
    else
      (pen_May a3).bind fun x4 =>
      bif !x4 then
        some true
      else
        some false : Option (Bool)).bind fun x5 =>
  bif x5 then
    some ([])
  else
    req (a4.length = a4.length) <|
    (grid_copied_d77 a4).bind fun x6 =>
    (bif decide (a0 < 0) then
        some true
      else
        bif decide (a0 > a1) then
          some true
        else
          bif decide (a1 ≥ ((a4.length : Nat) : Int)) then
            some true
          else
            some false : Option (Bool)).bind fun x7 =>
    bif x7 then
      req (x6.length = x6.length) (some x6)
    else
      req (0 ≤ a0 ∧ a0 ≤ (IntKind.i64.wrap (a1 + 1)) ∧ (IntKind.i64.wrap (a1 + 1)) ≤ ((x6.length : Nat) : Int)) <|
      ((bif decide ((if (if (((IntKind.i64.wrap (a1 + 1)).toNat - a0.toNat : Nat) : Int) < a2 then (((IntKind.i64.wrap (a1 + 1)).toNat - a0.toNat : Nat) : Int) else a2) > (IntKind.i64.wrap ((0 : Int) - (((IntKind.i64.wrap (a1 + 1)).toNat - a0.toNat : Nat) : Int))) then (if (((IntKind.i64.wrap (a1 + 1)).toNat - a0.toNat : Nat) : Int) < a2 then (((IntKind.i64.wrap (a1 + 1)).toNat - a0.toNat : Nat) : Int) else a2) else (IntKind.i64.wrap ((0 : Int) - (((IntKind.i64.wrap (a1 + 1)).toNat - a0.toNat : Nat) : Int)))) ≥ 0) then
            some true
          else
            some false : Option (Bool)).bind fun x9 =>
        bif x9 then
          req (0 ≤ (if (if (((IntKind.i64.wrap (a1 + 1)).toNat - a0.toNat : Nat) : Int) < a2 then (((IntKind.i64.wrap (a1 + 1)).toNat - a0.toNat : Nat) : Int) else a2) > (IntKind.i64.wrap ((0 : Int) - (((IntKind.i64.wrap (a1 + 1)).toNat - a0.toNat : Nat) : Int))) then (if (((IntKind.i64.wrap (a1 + 1)).toNat - a0.toNat : Nat) : Int) < a2 then (((IntKind.i64.wrap (a1 + 1)).toNat - a0.toNat : Nat) : Int) else a2) else (IntKind.i64.wrap ((0 : Int) - (((IntKind.i64.wrap (a1 + 1)).toNat - a0.toNat : Nat) : Int)))) ∧ (if (if (((IntKind.i64.wrap (a1 + 1)).toNat - a0.toNat : Nat) : Int) < a2 then (((IntKind.i64.wrap (a1 + 1)).toNat - a0.toNat : Nat) : Int) else a2) > (IntKind.i64.wrap ((0 : Int) - (((IntKind.i64.wrap (a1 + 1)).toNat - a0.toNat : Nat) : Int))) then (if (((IntKind.i64.wrap (a1 + 1)).toNat - a0.toNat : Nat) : Int) < a2 then (((IntKind.i64.wrap (a1 + 1)).toNat - a0.toNat : Nat) : Int) else a2) else (IntKind.i64.wrap ((0 : Int) - (((IntKind.i64.wrap (a1 + 1)).toNat - a0.toNat : Nat) : Int)))) ≤ (((IntKind.i64.wrap (a1 + 1)).toNat - a0.toNat : Nat) : Int) ∧ (((IntKind.i64.wrap (a1 + 1)).toNat - a0.toNat : Nat) : Int) ≤ (((IntKind.i64.wrap (a1 + 1)).toNat - a0.toNat : Nat) : Int)) <|
          req (a0.toNat + ((IntKind.i64.wrap (a1 + 1)).toNat - a0.toNat) ≤ x6.length) <|
          req (((if (if (((IntKind.i64.wrap (a1 + 1)).toNat - a0.toNat : Nat) : Int) < a2 then (((IntKind.i64.wrap (a1 + 1)).toNat - a0.toNat : Nat) : Int) else a2) > (IntKind.i64.wrap ((0 : Int) - (((IntKind.i64.wrap (a1 + 1)).toNat - a0.toNat : Nat) : Int))) then (if (((IntKind.i64.wrap (a1 + 1)).toNat - a0.toNat : Nat) : Int) < a2 then (((IntKind.i64.wrap (a1 + 1)).toNat - a0.toNat : Nat) : Int) else a2) else (IntKind.i64.wrap ((0 : Int) - (((IntKind.i64.wrap (a1 + 1)).toNat - a0.toNat : Nat) : Int)))).toNat + a0.toNat) + ((IntKind.i64.wrap (a1 + 1)).toNat - a0.toNat - (if (if (((IntKind.i64.wrap (a1 + 1)).toNat - a0.toNat : Nat) : Int) < a2 then (((IntKind.i64.wrap (a1 + 1)).toNat - a0.toNat : Nat) : Int) else a2) > (IntKind.i64.wrap ((0 : Int) - (((IntKind.i64.wrap (a1 + 1)).toNat - a0.toNat : Nat) : Int))) then (if (((IntKind.i64.wrap (a1 + 1)).toNat - a0.toNat : Nat) : Int) < a2 then (((IntKind.i64.wrap (a1 + 1)).toNat - a0.toNat : Nat) : Int) else a2) else (IntKind.i64.wrap ((0 : Int) - (((IntKind.i64.wrap (a1 + 1)).toNat - a0.toNat : Nat) : Int)))).toNat) ≤ x6.length) <|
          req (0 ≤ (IntKind.i64.wrap ((((IntKind.i64.wrap (a1 + 1)).toNat - a0.toNat : Nat) : Int) - (if (if (((IntKind.i64.wrap (a1 + 1)).toNat - a0.toNat : Nat) : Int) < a2 then (((IntKind.i64.wrap (a1 + 1)).toNat - a0.toNat : Nat) : Int) else a2) > (IntKind.i64.wrap ((0 : Int) - (((IntKind.i64.wrap (a1 + 1)).toNat - a0.toNat : Nat) : Int))) then (if (((IntKind.i64.wrap (a1 + 1)).toNat - a0.toNat : Nat) : Int) < a2 then (((IntKind.i64.wrap (a1 + 1)).toNat - a0.toNat : Nat) : Int) else a2) else (IntKind.i64.wrap ((0 : Int) - (((IntKind.i64.wrap (a1 + 1)).toNat - a0.toNat : Nat) : Int)))))) ∧ (IntKind.i64.wrap ((((IntKind.i64.wrap (a1 + 1)).toNat - a0.toNat : Nat) : Int) - (if (if (((IntKind.i64.wrap (a1 + 1)).toNat - a0.toNat : Nat) : Int) < a2 then (((IntKind.i64.wrap (a1 + 1)).toNat - a0.toNat : Nat) : Int) else a2) > (IntKind.i64.wrap ((0 : Int) - (((IntKind.i64.wrap (a1 + 1)).toNat - a0.toNat : Nat) : Int))) then (if (((IntKind.i64.wrap (a1 + 1)).toNat - a0.toNat : Nat) : Int) < a2 then (((IntKind.i64.wrap (a1 + 1)).toNat - a0.toNat : Nat) : Int) else a2) else (IntKind.i64.wrap ((0 : Int) - (((IntKind.i64.wrap (a1 + 1)).toNat - a0.toNat : Nat) : Int)))))) ≤ (((IntKind.i64.wrap (a1 + 1)).toNat - a0.toNat : Nat) : Int) ∧ (((IntKind.i64.wrap (a1 + 1)).toNat - a0.toNat : Nat) : Int) ≤ (((IntKind.i64.wrap (a1 + 1)).toNat - a0.toNat : Nat) : Int)) <|
          some ((IntKind.i64.wrap ((((IntKind.i64.wrap (a1 + 1)).toNat - a0.toNat : Nat) : Int) - (if (if (((IntKind.i64.wrap (a1 + 1)).toNat - a0.toNat : Nat) : Int) < a2 then (((IntKind.i64.wrap (a1 + 1)).toNat - a0.toNat : Nat) : Int) else a2) > (IntKind.i64.wrap ((0 : Int) - (((IntKind.i64.wrap (a1 + 1)).toNat - a0.toNat : Nat) : Int))) then (if (((IntKind.i64.wrap (a1 + 1)).toNat - a0.toNat : Nat) : Int) < a2 then (((IntKind.i64.wrap (a1 + 1)).toNat - a0.toNat : Nat) : Int) else a2) else (IntKind.i64.wrap ((0 : Int) - (((IntKind.i64.wrap (a1 + 1)).toNat - a0.toNat : Nat) : Int)))))).toNat + a0.toNat, (IntKind.i64.wrap (a1 + 1)).toNat - a0.toNat - (IntKind.i64.wrap ((((IntKind.i64.wrap (a1 + 1)).toNat - a0.toNat : Nat) : Int) - (if (if (((IntKind.i64.wrap (a1 + 1)).toNat - a0.toNat : Nat) : Int) < a2 then (((IntKind.i64.wrap (a1 + 1)).toNat - a0.toNat : Nat) : Int) else a2) > (IntKind.i64.wrap ((0 : Int) - (((IntKind.i64.wrap (a1 + 1)).toNat - a0.toNat : Nat) : Int))) then (if (((IntKind.i64.wrap (a1 + 1)).toNat - a0.toNat : Nat) : Int) < a2 then (((IntKind.i64.wrap (a1 + 1)).toNat - a0.toNat : Nat) : Int) else a2) else (IntKind.i64.wrap ((0 : Int) - (((IntKind.i64.wrap (a1 + 1)).toNat - a0.toNat : Nat) : Int)))))).toNat, cpy x6 a0.toNat ((x6.drop ((if (if (((IntKind.i64.wrap (a1 + 1)).toNat - a0.toNat : Nat) : Int) < a2 then (((IntKind.i64.wrap (a1 + 1)).toNat - a0.toNat : Nat) : Int) else a2) > (IntKind.i64.wrap ((0 : Int) - (((IntKind.i64.wrap (a1 + 1)).toNat - a0.toNat : Nat) : Int))) then (if (((IntKind.i64.wrap (a1 + 1)).toNat - a0.toNat : Nat) : Int) < a2 then (((IntKind.i64.wrap (a1 + 1)).toNat - a0.toNat : Nat) : Int) else a2) else (IntKind.i64.wrap ((0 : Int) - (((IntKind.i64.wrap (a1 + 1)).toNat - a0.toNat : Nat) : Int)))).toNat + a0.toNat)).take ((IntKind.i64.wrap (a1 + 1)).toNat - a0.toNat - (if (if (((IntKind.i64.wrap (a1 + 1)).toNat - a0.toNat : Nat) : Int) < a2 then (((IntKind.i64.wrap (a1 + 1)).toNat - a0.toNat : Nat) : Int) else a2) > (IntKind.i64.wrap ((0 : Int) - (((IntKind.i64.wrap (a1 + 1)).toNat - a0.toNat : Nat) : Int))) then (if (((IntKind.i64.wrap (a1 + 1)).toNat - a0.toNat : Nat) : Int) < a2 then (((IntKind.i64.wrap (a1 + 1)).toNat - a0.toNat : Nat) : Int) else a2) else (IntKind.i64.wrap ((0 : Int) - (((IntKind.i64.wrap (a1 + 1)).toNat - a0.toNat : Nat) : Int)))).toNat)) (min ((x6.drop ((if (if (((IntKind.i64.wrap (a1 + 1)).toNat - a0.toNat : Nat) : Int) < a2 then (((IntKind.i64.wrap (a1 + 1)).toNat - a0.toNat : Nat) : Int) else a2) > (IntKind.i64.wrap ((0 : Int) - (((IntKind.i64.wrap (a1 + 1)).toNat - a0.toNat : Nat) : Int))) then (if (((IntKind.i64.wrap (a1 + 1)).toNat - a0.toNat : Nat) : Int) < a2 then (((IntKind.i64.wrap (a1 + 1)).toNat - a0.toNat : Nat) : Int) else a2) else (IntKind.i64.wrap ((0 : Int) - (((IntKind.i64.wrap (a1 + 1)).toNat - a0.toNat : Nat) : Int)))).toNat + a0.toNat)).take ((IntKind.i64.wrap (a1 + 1)).toNat - a0.toNat - (if (if (((IntKind.i64.wrap (a1 + 1)).toNat - a0.toNat : Nat) : Int) < a2 then (((IntKind.i64.wrap (a1 + 1)).toNat - a0.toNat : Nat) : Int) else a2) > (IntKind.i64.wrap ((0 : Int) - (((IntKind.i64.wrap (a1 + 1)).toNat - a0.toNat : Nat) : Int))) then (if (((IntKind.i64.wrap (a1 + 1)).toNat - a0.toNat : Nat) : Int) < a2 then (((IntKind.i64.wrap (a1 + 1)).toNat - a0.toNat : Nat) : Int) else a2) else (IntKind.i64.wrap ((0 : Int) - (((IntKind.i64.wrap (a1 + 1)).toNat - a0.toNat : Nat) : Int)))).toNat)).length ((IntKind.i64.wrap (a1 + 1)).toNat - a0.toNat)))
        else
          req (0 ≤ (IntKind.i64.wrap ((0 : Int) - (if (if (((IntKind.i64.wrap (a1 + 1)).toNat - a0.toNat : Nat) : Int) < a2 then (((IntKind.i64.wrap (a1 + 1)).toNat - a0.toNat : Nat) : Int) else a2) > (IntKind.i64.wrap ((0 : Int) - (((IntKind.i64.wrap (a1 + 1)).toNat - a0.toNat : Nat) : Int))) then (if (((IntKind.i64.wrap (a1 + 1)).toNat - a0.toNat : Nat) : Int) < a2 then (((IntKind.i64.wrap (a1 + 1)).toNat - a0.toNat : Nat) : Int) else a2) else (IntKind.i64.wrap ((0 : Int) - (((IntKind.i64.wrap (a1 + 1)).toNat - a0.toNat : Nat) : Int)))))) ∧ (IntKind.i64.wrap ((0 : Int) - (if (if (((IntKind.i64.wrap (a1 + 1)).toNat - a0.toNat : Nat) : Int) < a2 then (((IntKind.i64.wrap (a1 + 1)).toNat - a0.toNat : Nat) : Int) else a2) > (IntKind.i64.wrap ((0 : Int) - (((IntKind.i64.wrap (a1 + 1)).toNat - a0.toNat : Nat) : Int))) then (if (((IntKind.i64.wrap (a1 + 1)).toNat - a0.toNat : Nat) : Int) < a2 then (((IntKind.i64.wrap (a1 + 1)).toNat - a0.toNat : Nat) : Int) else a2) else (IntKind.i64.wrap ((0 : Int) - (((IntKind.i64.wrap (a1 + 1)).toNat - a0.toNat : Nat) : Int)))))) ≤ (((IntKind.i64.wrap (a1 + 1)).toNat - a0.toNat : Nat) : Int) ∧ (((IntKind.i64.wrap (a1 + 1)).toNat - a0.toNat : Nat) : Int) ≤ (((IntKind.i64.wrap (a1 + 1)).toNat - a0.toNat : Nat) : Int)) <|
          req (((IntKind.i64.wrap ((0 : Int) - (if (if (((IntKind.i64.wrap (a1 + 1)).toNat - a0.toNat : Nat) : Int) < a2 then (((IntKind.i64.wrap (a1 + 1)).toNat - a0.toNat : Nat) : Int) else a2) > (IntKind.i64.wrap ((0 : Int) - (((IntKind.i64.wrap (a1 + 1)).toNat - a0.toNat : Nat) : Int))) then (if (((IntKind.i64.wrap (a1 + 1)).toNat - a0.toNat : Nat) : Int) < a2 then (((IntKind.i64.wrap (a1 + 1)).toNat - a0.toNat : Nat) : Int) else a2) else (IntKind.i64.wrap ((0 : Int) - (((IntKind.i64.wrap (a1 + 1)).toNat - a0.toNat : Nat) : Int)))))).toNat + a0.toNat) + ((IntKind.i64.wrap (a1 + 1)).toNat - a0.toNat - (IntKind.i64.wrap ((0 : Int) - (if (if (((IntKind.i64.wrap (a1 + 1)).toNat - a0.toNat : Nat) : Int) < a2 then (((IntKind.i64.wrap (a1 + 1)).toNat - a0.toNat : Nat) : Int) else a2) > (IntKind.i64.wrap ((0 : Int) - (((IntKind.i64.wrap (a1 + 1)).toNat - a0.toNat : Nat) : Int))) then (if (((IntKind.i64.wrap (a1 + 1)).toNat - a0.toNat : Nat) : Int) < a2 then (((IntKind.i64.wrap (a1 + 1)).toNat - a0.toNat : Nat) : Int) else a2) else (IntKind.i64.wrap ((0 : Int) - (((IntKind.i64.wrap (a1 + 1)).toNat - a0.toNat : Nat) : Int)))))).toNat) ≤ x6.length) <|
          req (a0.toNat + ((IntKind.i64.wrap (a1 + 1)).toNat - a0.toNat) ≤ x6.length) <|
          req (0 ≤ (0 : Int) ∧ (0 : Int) ≤ (IntKind.i64.wrap ((0 : Int) - (if (if (((IntKind.i64.wrap (a1 + 1)).toNat - a0.toNat : Nat) : Int) < a2 then (((IntKind.i64.wrap (a1 + 1)).toNat - a0.toNat : Nat) : Int) else a2) > (IntKind.i64.wrap ((0 : Int) - (((IntKind.i64.wrap (a1 + 1)).toNat - a0.toNat : Nat) : Int))) then (if (((IntKind.i64.wrap (a1 + 1)).toNat - a0.toNat : Nat) : Int) < a2 then (((IntKind.i64.wrap (a1 + 1)).toNat - a0.toNat : Nat) : Int) else a2) else (IntKind.i64.wrap ((0 : Int) - (((IntKind.i64.wrap (a1 + 1)).toNat - a0.toNat : Nat) : Int)))))) ∧ (IntKind.i64.wrap ((0 : Int) - (if (if (((IntKind.i64.wrap (a1 + 1)).toNat - a0.toNat : Nat) : Int) < a2 then (((IntKind.i64.wrap (a1 + 1)).toNat - a0.toNat : Nat) : Int) else a2) > (IntKind.i64.wrap ((0 : Int) - (((IntKind.i64.wrap (a1 + 1)).toNat - a0.toNat : Nat) : Int))) then (if (((IntKind.i64.wrap (a1 + 1)).toNat - a0.toNat : Nat) : Int) < a2 then (((IntKind.i64.wrap (a1 + 1)).toNat - a0.toNat : Nat) : Int) else a2) else (IntKind.i64.wrap ((0 : Int) - (((IntKind.i64.wrap (a1 + 1)).toNat - a0.toNat : Nat) : Int)))))) ≤ (((IntKind.i64.wrap (a1 + 1)).toNat - a0.toNat : Nat) : Int)) <|
          some (0 + a0.toNat, (IntKind.i64.wrap ((0 : Int) - (if (if (((IntKind.i64.wrap (a1 + 1)).toNat - a0.toNat : Nat) : Int) < a2 then (((IntKind.i64.wrap (a1 + 1)).toNat - a0.toNat : Nat) : Int) else a2) > (IntKind.i64.wrap ((0 : Int) - (((IntKind.i64.wrap (a1 + 1)).toNat - a0.toNat : Nat) : Int))) then (if (((IntKind.i64.wrap (a1 + 1)).toNat - a0.toNat : Nat) : Int) < a2 then (((IntKind.i64.wrap (a1 + 1)).toNat - a0.toNat : Nat) : Int) else a2) else (IntKind.i64.wrap ((0 : Int) - (((IntKind.i64.wrap (a1 + 1)).toNat - a0.toNat : Nat) : Int)))))).toNat, cpy x6 ((IntKind.i64.wrap ((0 : Int) - (if (if (((IntKind.i64.wrap (a1 + 1)).toNat - a0.toNat : Nat) : Int) < a2 then (((IntKind.i64.wrap (a1 + 1)).toNat - a0.toNat : Nat) : Int) else a2) > (IntKind.i64.wrap ((0 : Int) - (((IntKind.i64.wrap (a1 + 1)).toNat - a0.toNat : Nat) : Int))) then (if (((IntKind.i64.wrap (a1 + 1)).toNat - a0.toNat : Nat) : Int) < a2 then (((IntKind.i64.wrap (a1 + 1)).toNat - a0.toNat : Nat) : Int) else a2) else (IntKind.i64.wrap ((0 : Int) - (((IntKind.i64.wrap (a1 + 1)).toNat - a0.toNat : Nat) : Int)))))).toNat + a0.toNat) ((x6.drop a0.toNat).take ((IntKind.i64.wrap (a1 + 1)).toNat - a0.toNat)) (min ((x6.drop a0.toNat).take ((IntKind.i64.wrap (a1 + 1)).toNat - a0.toNat)).length ((IntKind.i64.wrap (a1 + 1)).toNat - a0.toNat - (IntKind.i64.wrap ((0 : Int) - (if (if (((IntKind.i64.wrap (a1 + 1)).toNat - a0.toNat : Nat) : Int) < a2 then (((IntKind.i64.wrap (a1 + 1)).toNat - a0.toNat : Nat) : Int) else a2) > (IntKind.i64.wrap ((0 : Int) - (((IntKind.i64.wrap (a1 + 1)).toNat - a0.toNat : Nat) : Int))) then (if (((IntKind.i64.wrap (a1 + 1)).toNat - a0.toNat : Nat) : Int) < a2 then (((IntKind.i64.wrap (a1 + 1)).toNat - a0.toNat : Nat) : Int) else a2) else (IntKind.i64.wrap ((0 : Int) - (((IntKind.i64.wrap (a1 + 1)).toNat - a0.toNat : Nat) : Int)))))).toNat))) : Option (Nat × Nat × (List (List (Int × K72c5.T))))).bind fun x10 =>
      (loopO (grid_Scroll_c79_loop1 x10 a4 a3) (0, x10.2.2)).bind fun x20 =>
      req (x6.length = x20.length) (some x20)
noncomputable def screen_work_scroll_5c0 (a0 : Int) (a1 : Int) (a7 : Int) (a8 : Int) (a9 : Int) (a11 : Int) (a31 : List (List (Int × K72c5.T))) : Option ((List (List (Int × K72c5.T)))) :=
  req (a31.length = a31.length) <|
  (grid_Scroll_c79 a0 a11 a1 (a7, a8, a9) a31).bind fun x1 =>
  req (x1.length = x1.length) (some x1)
noncomputable def screen_work_feed_a9a (a0 : Int) (a2 : Int) (a5 : Int) (a6 : Int) (a7 : Int) (a8 : Int) (a9 : Int) (a29 : List (List (Int × K72c5.T))) (a30 : List (List (Int × K72c5.T))) (a31 : List Int) : Option ((List (List (Int × K72c5.T))) × Int) :=
  (bif a2 == a9 then
      some true
    else
      some false : Option (Bool)).bind fun x1 =>
  bif x1 then
    req (a31.length = a31.length) <|
    req (a30.length = a30.length) <|
    req (a29.length = a29.length) <|
    (screen_work_scroll_5c0 a8 1 a5 a6 a7 a9 a29).bind fun x2 =>
    req (x2.length = x2.length) (some (x2, a2))
  else
    req (a29.length = a29.length) (some (a29, (if (IntKind.i64.wrap (a0 - 1)) < (IntKind.i64.wrap (a2 + 1)) then (IntKind.i64.wrap (a0 - 1)) else (IntKind.i64.wrap (a2 + 1)))))
noncomputable def line_fine (a0 : List (Int × K72c5.T)) (a1 : K92a5.T) : Option (Bool) :=
  (line_May a0).bind fun x1 =>
  bif x1 then
    (pen_May a1).bind fun x2 =>
    some x2
  else
    some false
noncomputable def line_torn_ed0 (a0 : Int) (a1 : List (Int × K72c5.T)) : Option ((List (Int × K72c5.T))) :=
  (bif decide (a0 > 0) then
      bif decide (a0 < ((a1.length : Nat) : Int)) then
        req (0 ≤ a0 ∧ a0 < ((a1.length : Nat) : Int)) <|
        (a1[a0.toNat]?).bind fun x2 =>
        bif x2.2.2.1 == 2 then
          some true
        else
          some false
      else
        some false
    else
      some false : Option (Bool)).bind fun x3 =>
  bif x3 then
    req (0 ≤ (IntKind.i64.wrap (a0 - 1)) ∧ (IntKind.i64.wrap (a0 - 1)) < ((a1.length : Nat) : Int)) <|
    (a1[(IntKind.i64.wrap (a0 - 1)).toNat]?).bind fun x4 =>
    (line_blank x4.2.2.2).bind fun x5 =>
    req (0 ≤ a0 ∧ a0 < ((a1.length : Nat) : Int)) <|
    (a1[a0.toNat]?).bind fun x6 =>
    (line_blank x6.2.2.2).bind fun x7 =>
    req (0 ≤ (IntKind.i64.wrap (a0 - 1)) ∧ (IntKind.i64.wrap (a0 - 1)) < ((a1.length : Nat) : Int)) <|
    (a1[(IntKind.i64.wrap (a0 - 1)).toNat]?).bind fun x8 =>
    req (0 ≤ a0 ∧ a0 < ((a1.length : Nat) : Int)) <|
    ((a1.set ((IntKind.i64.wrap (a0 - 1)).toNat) x5)[a0.toNat]?).bind fun x9 =>
    some ((a1.set ((IntKind.i64.wrap (a0 - 1)).toNat) x5).set a0.toNat x7)
  else
    some a1
noncomputable def line_Insert (a0 : List (Int × K72c5.T)) (a1 : Int) (a2 : Int) (a3 : K92a5.T) : Option ((List (Int × K72c5.T))) :=
  ((line_fine a0 a3).bind fun x2 =>
    bif !x2 then
      some true
    else
      some false : Option (Bool)).bind fun x3 =>
  bif x3 then
    some ([] : List (Int × K72c5.T))
  else
    (slices_Clone_0e3 a0).bind fun x4 =>
    (bif decide (a2 < 1) then
        some true
      else
        bif decide (a1 < 0) then
          some true
        else
          bif decide (a1 ≥ (a0.length : Int)) then
            some true
          else
            some false : Option (Bool)).bind fun x5 =>
    bif x5 then
      req (x4.length = x4.length) (some x4)
    else
      req (x4.length = x4.length) <|
      (line_torn_ed0 a1 x4).bind fun x6 =>
      req (x4.length = x6.length) <|
      (line_torn_ed0 (IntKind.i64.wrap ((a0.length : Int) - (if (IntKind.i64.wrap ((a0.length : Int) - a1)) < a2 then (IntKind.i64.wrap ((a0.length : Int) - a1)) else a2))) x6).bind fun x7 =>
      req (0 ≤ (IntKind.i64.wrap (a1 + (if (IntKind.i64.wrap ((a0.length : Int) - a1)) < a2 then (IntKind.i64.wrap ((a0.length : Int) - a1)) else a2))) ∧ (IntKind.i64.wrap (a1 + (if (IntKind.i64.wrap ((a0.length : Int) - a1)) < a2 then (IntKind.i64.wrap ((a0.length : Int) - a1)) else a2))) ≤ ((x4.length : Nat) : Int) ∧ ((x4.length : Nat) : Int) ≤ ((x4.length : Nat) : Int)) <|
      req (0 ≤ a1 ∧ a1 ≤ ((x4.length : Nat) : Int) ∧ ((x4.length : Nat) : Int) ≤ ((x4.length : Nat) : Int)) <|
      req (((IntKind.i64.wrap (a1 + (if (IntKind.i64.wrap ((a0.length : Int) - a1)) < a2 then (IntKind.i64.wrap ((a0.length : Int) - a1)) else a2))).toNat) + (x4.length - (IntKind.i64.wrap (a1 + (if (IntKind.i64.wrap ((a0.length : Int) - a1)) < a2 then (IntKind.i64.wrap ((a0.length : Int) - a1)) else a2))).toNat) ≤ x7.length) <|
      req (a1.toNat + (x4.length - a1.toNat) ≤ x7.length) <|
      req (0 ≤ a1 ∧ a1 ≤ ((x4.length : Nat) : Int) ∧ ((x4.length : Nat) : Int) ≤ ((x4.length : Nat) : Int)) <|
      (line_Blank (if (IntKind.i64.wrap ((a0.length : Int) - a1)) < a2 then (IntKind.i64.wrap ((a0.length : Int) - a1)) else a2) a3).bind fun x8 =>
      req (a1.toNat + (x4.length - a1.toNat) ≤ (cpy x7 ((IntKind.i64.wrap (a1 + (if (IntKind.i64.wrap ((a0.length : Int) - a1)) < a2 then (IntKind.i64.wrap ((a0.length : Int) - a1)) else a2))).toNat) ((x7.drop a1.toNat).take (x4.length - a1.toNat)) (min ((x7.drop a1.toNat).take (x4.length - a1.toNat)).length (x4.length - (IntKind.i64.wrap (a1 + (if (IntKind.i64.wrap ((a0.length : Int) - a1)) < a2 then (IntKind.i64.wrap ((a0.length : Int) - a1)) else a2))).toNat))).length) <|
      req (x4.length = (cpy (cpy x7 ((IntKind.i64.wrap (a1 + (if (IntKind.i64.wrap ((a0.length : Int) - a1)) < a2 then (IntKind.i64.wrap ((a0.length : Int) - a1)) else a2))).toNat) ((x7.drop a1.toNat).take (x4.length - a1.toNat)) (min ((x7.drop a1.toNat).take (x4.length - a1.toNat)).length (x4.length - (IntKind.i64.wrap (a1 + (if (IntKind.i64.wrap ((a0.length : Int) - a1)) < a2 then (IntKind.i64.wrap ((a0.length : Int) - a1)) else a2))).toNat))) a1.toNat x8 (min x8.length (x4.length - a1.toNat))).length) (some (cpy (cpy x7 ((IntKind.i64.wrap (a1 + (if (IntKind.i64.wrap ((a0.length : Int) - a1)) < a2 then (IntKind.i64.wrap ((a0.length : Int) - a1)) else a2))).toNat) ((x7.drop a1.toNat).take (x4.length - a1.toNat)) (min ((x7.drop a1.toNat).take (x4.length - a1.toNat)).length (x4.length - (IntKind.i64.wrap (a1 + (if (IntKind.i64.wrap ((a0.length : Int) - a1)) < a2 then (IntKind.i64.wrap ((a0.length : Int) - a1)) else a2))).toNat))) a1.toNat x8 (min x8.length (x4.length - a1.toNat))))
noncomputable def line_Put (a0 : List (Int × K72c5.T)) (a1 : Int) (a2 : Int) (a3 : K92a5.T) : Option ((List (Int × K72c5.T))) :=
  ((line_fine a0 a3).bind fun x2 =>
    bif !x2 then
      some true
    else
      some false : Option (Bool)).bind fun x3 =>
  bif x3 then
    some ([] : List (Int × K72c5.T))
  else
    (cols_Of a2).bind fun x4 =>
    (slices_Clone_0e3 a0).bind fun x5 =>
    (bif decide (x4 < 1) then
        some true
      else
        bif decide (a1 < 0) then
          some true
        else
          bif decide (a1 > (IntKind.i64.wrap ((a0.length : Int) - x4))) then
            some true
          else
            some false : Option (Bool)).bind fun x6 =>
    bif x6 then
      req (x5.length = x5.length) (some x5)
    else
      req (x5.length = x5.length) <|
      (line_torn_ed0 a1 x5).bind fun x7 =>
      req (x5.length = x7.length) <|
      (line_torn_ed0 (IntKind.i64.wrap (a1 + x4)) x7).bind fun x8 =>
      req (0 ≤ a1 ∧ a1 < ((x5.length : Nat) : Int)) <|
      (x8[a1.toNat]?).bind fun x9 =>
      ((bif x4 == 2 then
            some true
          else
            some false : Option (Bool)).bind fun x12 =>
        bif x12 then
          req (0 ≤ (IntKind.i64.wrap (a1 + 1)) ∧ (IntKind.i64.wrap (a1 + 1)) < ((x5.length : Nat) : Int)) <|
          ((x8.set a1.toNat (a2, (0, 0), IntKind.i64.wrap (x4 - 1), a3))[(IntKind.i64.wrap (a1 + 1)).toNat]?).bind fun x13 =>
          some ((x8.set a1.toNat (a2, (0, 0), IntKind.i64.wrap (x4 - 1), a3)).set ((IntKind.i64.wrap (a1 + 1)).toNat) (0, (0, 0), 2, a3))
        else
          some (x8.set a1.toNat (a2, (0, 0), IntKind.i64.wrap (x4 - 1), a3)) : Option ((List (Int × K72c5.T)))).bind fun x14 =>
      req (x5.length = x14.length) (some x14)
noncomputable def screen_work_print_d8d (a0 : Int) (a1 : Int) (a2 : Int) (a3 : Int) (a4 : Int) (a5 : Bool) (a6 : Int) (a7 : Int) (a8 : Int) (a9 : Int) (a10 : Int) (a11 : Int) (a30 : List (List (Int × K72c5.T))) (a31 : List (List (Int × K72c5.T))) (a32 : List Int) : Option ((List (List (Int × K72c5.T))) × Int × Int × Bool) :=
  (cols_Of a0).bind fun x1 =>
  req (0 ≤ a3 ∧ a3 < ((a30.length : Nat) : Int)) <|
  (a30[a3.toNat]?).bind fun x2 =>
  (bif decide (x1 < 0) then
      some true
    else
      bif decide (x1 > a2) then
        some true
      else
        some false : Option (Bool)).bind fun x3 =>
  bif x3 then
    req (a30.length = a30.length) (some (a30, a3, a4, a5))
  else
    (bif x1 == 0 then
        some true
      else
        some false : Option (Bool)).bind fun x4 =>
    bif x4 then
      ((bif !a5 then
            some true
          else
            some false : Option (Bool)).bind fun x6 =>
        bif x6 then
          some (IntKind.i64.wrap (a4 - 1))
        else
          some a4 : Option (Int)).bind fun x7 =>
      (line_Mark x2 x7 a0).bind fun x8 =>
      req (0 ≤ a3 ∧ a3 < ((a30.length : Nat) : Int)) <|
      (a30[a3.toNat]?).bind fun x9 =>
      req (a30.length = (a30.set a3.toNat x8).length) (some (a30.set a3.toNat x8, a3, a4, a5))
    else
      ((bif a5 then
            bif (ibits .and .i64 a11 1) != 0 then
              some true
            else
              some false
          else
            some false : Option (Bool)).bind fun x12 =>
        bif x12 then
          req (a32.length = a32.length) <|
          req (a31.length = a31.length) <|
          req (a30.length = a30.length) <|
          (screen_work_feed_a9a a1 a3 a6 a7 a8 a9 a10 a30 a31 a32).bind fun x13 =>
          req (x13.1.length = x13.1.length) (some (x13.1, x13.2, 0))
        else
          req (a30.length = a30.length) (some (a30, a3, a4)) : Option ((List (List (Int × K72c5.T))) × Int × Int)).bind fun x14 =>
      ((bif decide (x14.2.2 > (IntKind.i64.wrap (a2 - x1))) then
            some true
          else
            some false : Option (Bool)).bind fun x18 =>
        bif x18 then
          (bif (ibits .and .i64 a11 1) != 0 then
              some true
            else
              some false : Option (Bool)).bind fun x19 =>
          bif x19 then
            req (a32.length = a32.length) <|
            req (a31.length = a31.length) <|
            req (x14.1.length = x14.1.length) <|
            (screen_work_feed_a9a a1 x14.2.1 a6 a7 a8 a9 a10 x14.1 a31 a32).bind fun x20 =>
            req (x20.1.length = x20.1.length) (some (x20.1, x20.2, 0))
          else
            req (x14.1.length = x14.1.length) (some (x14.1, x14.2.1, IntKind.i64.wrap (a2 - x1)))
        else
          req (x14.1.length = x14.1.length) (some (x14.1, x14.2.1, x14.2.2)) : Option ((List (List (Int × K72c5.T))) × Int × Int)).bind fun x21 =>
      req (0 ≤ x21.2.1 ∧ x21.2.1 < ((x21.1.length : Nat) : Int)) <|
      (x21.1[x21.2.1.toNat]?).bind fun x22 =>
      ((bif (ibits .and .i64 a11 4) != 0 then
            some true
          else
            some false : Option (Bool)).bind fun x25 =>
        bif x25 then
          (line_Insert x22 x21.2.2 x1 (a6, a7, a8)).bind fun x26 =>
          some x26
        else
          some x22 : Option ((List (Int × K72c5.T)))).bind fun x27 =>
      (line_Put x27 x21.2.2 a0 (a6, a7, a8)).bind fun x28 =>
      req (0 ≤ x21.2.1 ∧ x21.2.1 < ((x21.1.length : Nat) : Int)) <|
      (x21.1[x21.2.1.toNat]?).bind fun x29 =>
      (bif decide ((IntKind.i64.wrap (x21.2.2 + x1)) ≥ a2) then
          some true
        else
          some false : Option (Bool)).bind fun x30 =>
      bif x30 then
        req (x21.1.length = (x21.1.set x21.2.1.toNat x28).length) (some (x21.1.set x21.2.1.toNat x28, x21.2.1, IntKind.i64.wrap (a2 - 1), ((ibits .and .i64 a11 1) != 0)))
      else
        req (x21.1.length = (x21.1.set x21.2.1.toNat x28).length) (some (x21.1.set x21.2.1.toNat x28, x21.2.1, IntKind.i64.wrap (x21.2.2 + x1), false))
noncomputable def pen_fine (a0 : K92a5.T) : Option (K92a5.T) :=
  ((pen_May a0).bind fun x2 =>
    bif !x2 then
      some true
    else
      some false : Option (Bool)).bind fun x3 =>
  bif x3 then
    some (0, 0, 0)
  else
    some a0
noncomputable def pen_plane (a0 : Int) : Option (Int × Bool) :=
  (bif decide (a0 ≥ 30) then
      bif decide (a0 < 50) then
        some true
      else
        some false
    else
      some false : Option (Bool)).bind fun x1 =>
  bif x1 then
    some (IntKind.i64.wrap ((IntKind.i64.wrap (Int.tdiv a0 10)) * 10), true)
  else
    ((bif decide (a0 ≥ 90) then
          bif decide (a0 < 98) then
            some true
          else
            some false
        else
          some false : Option (Bool)).bind fun x3 =>
      bif x3 then
        some x3
      else
        bif decide (a0 ≥ 100) then
          bif decide (a0 < 108) then
            some true
          else
            some false
        else
          some false : Option (Bool)).bind fun x4 =>
    bif x4 then
      some (IntKind.i64.wrap ((IntKind.i64.wrap ((IntKind.i64.wrap (Int.tdiv a0 10)) * 10)) - 60), true)
    else
      some (0, false)
noncomputable def pen_bitOf (a0 : Int) : Option (Int) :=
  ((bif decide (a0 < 0) then
        some true
      else
        bif decide (a0 > 8) then
          some true
        else
          bif a0 == 5 then
            some true
          else
            some false : Option (Bool)).bind fun x3 =>
    bif x3 then
      some (.inr 0)
    else
      (bif decide (a0 > 4) then
          some true
        else
          some false : Option (Bool)).bind fun x4 =>
      bif x4 then
        some (.inl (IntKind.i64.wrap (a0 - 1)))
      else
        some (.inl a0) : Option ((Int) ⊕ (Int))).bind fun o => match o with
  | .inr r => some r
  | .inl x5 =>
  req (0 ≤ x5) <|
  some (IntKind.i64.wrap ((1 : Int) * 2 ^ (min x5.toNat 64)))
noncomputable def pen_colour_1_loop1 (a0 : List Int) (x4 : Int) : Option (((Unit) ⊕ (Unit)) ⊕ (Int)) :=
    (bif decide (x4 < (a0.length : Int)) then
        some true
      else
        some false : Option (Bool)).bind fun x5 =>
    bif x5 then
      (getI a0 x4).bind fun x6 =>
      (bif decide (x6 < 0) then
          some true
        else
          bif decide (x6 > 255) then
            some true
          else
            some false : Option (Bool)).bind fun x7 =>
      bif x7 then
        some (.inl (.inl ()))
      else
        some (.inr (IntKind.i64.wrap (x4 + 1)))
    else
      some (.inl (.inr ()))
noncomputable def pen_colour_1 (a0 : List Int) : Option (Bool) :=
  (loopO (pen_colour_1_loop1 a0) 0).bind fun o => match o with
  | .inl _ =>
    some false
  | .inr _ =>
    some true
noncomputable def pen_colour (a0 : List Int) : Option (Int × Int) :=
  (bif decide ((a0.length : Int) ≥ 2) then
      (getI a0 0).bind fun x4 =>
      bif x4 == 5 then
        (getI a0 1).bind fun x5 =>
        (pen_colour_1 [x5]).bind fun x6 =>
        bif x6 then
          some true
        else
          some false
      else
        some false
    else
      some false : Option (Bool)).bind fun x7 =>
  bif x7 then
    (getI a0 1).bind fun x8 =>
    some (IntKind.i64.wrap ((1 : Int) + x8), 2)
  else
    (bif decide ((a0.length : Int) ≥ 4) then
        (getI a0 0).bind fun x11 =>
        bif x11 == 2 then
          req (0 ≤ (1 : Int) ∧ (1 : Int) ≤ (4 : Int) ∧ (4 : Int) ≤ ((a0.length : Nat) : Int)) <|
          (pen_colour_1 (sub a0 1 4)).bind fun x12 =>
          bif x12 then
            some true
          else
            some false
        else
          some false
      else
        some false : Option (Bool)).bind fun x13 =>
    bif x13 then
      (getI a0 1).bind fun x14 =>
      (getI a0 2).bind fun x15 =>
      (getI a0 3).bind fun x16 =>
      some (IntKind.i64.wrap ((IntKind.i64.wrap ((IntKind.i64.wrap ((17 : Int) + (IntKind.i64.wrap ((36 : Int) * (IntKind.i64.wrap (Int.tdiv (IntKind.i64.wrap ((6 : Int) * x14)) 256)))))) + (IntKind.i64.wrap ((6 : Int) * (IntKind.i64.wrap (Int.tdiv (IntKind.i64.wrap ((6 : Int) * x15)) 256)))))) + (IntKind.i64.wrap (Int.tdiv (IntKind.i64.wrap ((6 : Int) * x16)) 256))), 4)
    else
      some (0, 0)
noncomputable def pen_Apply_1_345 (a0 : Int) (a1 : Int) (a3 : Int) (a4 : Int) : Option (Int × Int) :=
  (bif a0 == 30 then
      some true
    else
      some false : Option (Bool)).bind fun x1 =>
  bif x1 then
    some (a1, a4)
  else
    some (a3, a1)
noncomputable def pen_Apply_loop1 (a1 : List Int) (x41 : Int × Int × Int × Int) : Option (((Int × Int × Int × Int × Int × Int) ⊕ (Int × Int × Int)) ⊕ (Int × Int × Int × Int)) :=
    (bif decide (x41.1 < (a1.length : Int)) then
        some true
      else
        some false : Option (Bool)).bind fun x42 =>
    bif x42 then
      ((getI a1 x41.1).bind fun x61 =>
        (pen_plane x61).bind fun x62 =>
        (bif x61 == 0 then
            some true
          else
            some false : Option (Bool)).bind fun x63 =>
        bif x63 then
          some (.inl (x41.1, 0, 0, 0))
        else
          (bif decide (x61 ≥ 1) then
              bif decide (x61 ≤ 9) then
                some true
              else
                some false
            else
              some false : Option (Bool)).bind fun x64 =>
          bif x64 then
            (pen_bitOf (IntKind.i64.wrap (x61 - 1))).bind fun x65 =>
            some (.inl (x41.1, ibits .or .i64 x41.2.1 x65, x41.2.2.1, x41.2.2.2))
          else
            (bif x61 == 22 then
                some true
              else
                some false : Option (Bool)).bind fun x66 =>
            bif x66 then
              some (.inl (x41.1, ibits .andNot .i64 x41.2.1 3, x41.2.2.1, x41.2.2.2))
            else
              (bif decide (x61 ≥ 23) then
                  bif decide (x61 ≤ 29) then
                    some true
                  else
                    some false
                else
                  some false : Option (Bool)).bind fun x67 =>
              bif x67 then
                (pen_bitOf (IntKind.i64.wrap (x61 - 21))).bind fun x68 =>
                some (.inl (x41.1, ibits .andNot .i64 x41.2.1 x68, x41.2.2.1, x41.2.2.2))
              else
                (bif x62.2 then
                    bif x61 == (IntKind.i64.wrap (x62.1 + 8)) then
                      some true
                    else
                      some false
                  else
                    some false : Option (Bool)).bind fun x69 =>
                bif x69 then
                  req (0 ≤ (IntKind.i64.wrap (x41.1 + 1)) ∧ (IntKind.i64.wrap (x41.1 + 1)) ≤ ((a1.length : Nat) : Int) ∧ ((a1.length : Nat) : Int) ≤ ((a1.length : Nat) : Int)) <|
                  (pen_colour (sub a1 ((IntKind.i64.wrap (x41.1 + 1)).toNat) a1.length)).bind fun x70 =>
                  (bif x70.2 == 0 then
                      some true
                    else
                      some false : Option (Bool)).bind fun x71 =>
                  bif x71 then
                    some (.inr (.inl (.inl (x41.2.1, x41.2.2.1, x41.2.2.2, x41.2.1, x41.2.2.1, x41.2.2.2))))
                  else
                    (pen_Apply_1_345 x62.1 x70.1 x41.2.2.1 x41.2.2.2).bind fun x72 =>
                    some (.inl (IntKind.i64.wrap (x41.1 + x70.2), x41.2.1, x72.1, x72.2))
                else
                  (bif x62.2 then
                      bif x61 == (IntKind.i64.wrap (x62.1 + 9)) then
                        some true
                      else
                        some false
                    else
                      some false : Option (Bool)).bind fun x73 =>
                  bif x73 then
                    (pen_Apply_1_345 x62.1 0 x41.2.2.1 x41.2.2.2).bind fun x74 =>
                    some (.inl (x41.1, x41.2.1, x74.1, x74.2))
                  else
                    (bif x62.2 then
                        bif decide (x61 < 90) then
                          some true
                        else
                          some false
                      else
                        some false : Option (Bool)).bind fun x75 =>
                    bif x75 then
                      (pen_Apply_1_345 x62.1 (IntKind.i64.wrap ((IntKind.i64.wrap (x61 - x62.1)) + 1)) x41.2.2.1 x41.2.2.2).bind fun x76 =>
                      some (.inl (x41.1, x41.2.1, x76.1, x76.2))
                    else
                      (bif x62.2 then
                          some true
                        else
                          some false : Option (Bool)).bind fun x77 =>
                      bif x77 then
                        (pen_Apply_1_345 x62.1 (IntKind.i64.wrap ((IntKind.i64.wrap ((IntKind.i64.wrap (x61 - x62.1)) - 60)) + 9)) x41.2.2.1 x41.2.2.2).bind fun x78 =>
                        some (.inl (x41.1, x41.2.1, x78.1, x78.2))
                      else
                        some (.inl (x41.1, x41.2.1, x41.2.2.1, x41.2.2.2)) : Option ((Int × Int × Int × Int) ⊕ (((Int × Int × Int × Int × Int × Int) ⊕ (Int × Int × Int)) ⊕ (Int × Int × Int × Int)))).bind fun o => match o with
      | .inr r => some r
      | .inl x79 =>
      some (.inr (IntKind.i64.wrap (x79.1 + 1), x79.2.1, x79.2.2.1, x79.2.2.2))
    else
      some (.inl (.inr (x41.2.1, x41.2.2.1, x41.2.2.2)))
noncomputable def pen_Apply (a0 : K92a5.T) (a1 : List Int) : Option (K92a5.T) :=
  (pen_fine a0).bind fun x1 =>
  (bif (a1.length : Int) == 0 then
      some true
    else
      some false : Option (Bool)).bind fun x2 =>
  bif x2 then
    some (0, 0, 0)
  else
    (loopO (pen_Apply_loop1 a1) (0, x1.1, x1.2.1, x1.2.2)).bind fun o => match o with
    | .inl x80 =>
      some x80.2.2.2
    | .inr x81 =>
      some x81
noncomputable def tabs_Clear (a0 : Int × Kf613.T) (a1 : Int) : Option ((Int × Kf613.T)) :=
  (((tabs_side a1).bind fun x5 =>
      bif x5 then
        some true
      else
        some false : Option (Bool)).bind fun x6 =>
    bif x6 then
      bif (IntKind.i64.wrap (Int.tdiv a1 64)) == 0 then
        req (0 ≤ (Int.tmod a1 64)) <|
        bif (IntKind.i64.wrap (Int.tdiv a1 64)) == 0 then
          some (ibits .andNot .u64 a0.1 (IntKind.u64.wrap ((1 : Int) * 2 ^ (min (Int.tmod a1 64).toNat 64))), a0.2.1, a0.2.2.1, a0.2.2.2)
        else
          bif (IntKind.i64.wrap (Int.tdiv a1 64)) == 1 then
            some (a0.1, ibits .andNot .u64 a0.1 (IntKind.u64.wrap ((1 : Int) * 2 ^ (min (Int.tmod a1 64).toNat 64))), a0.2.2.1, a0.2.2.2)
          else
            bif (IntKind.i64.wrap (Int.tdiv a1 64)) == 2 then
              some (a0.1, a0.2.1, ibits .andNot .u64 a0.1 (IntKind.u64.wrap ((1 : Int) * 2 ^ (min (Int.tmod a1 64).toNat 64))), a0.2.2.2)
            else
              bif (IntKind.i64.wrap (Int.tdiv a1 64)) == 3 then
                some (a0.1, a0.2.1, a0.2.2.1, ibits .andNot .u64 a0.1 (IntKind.u64.wrap ((1 : Int) * 2 ^ (min (Int.tmod a1 64).toNat 64))))
              else
                none
      else
        bif (IntKind.i64.wrap (Int.tdiv a1 64)) == 1 then
          req (0 ≤ (Int.tmod a1 64)) <|
          bif (IntKind.i64.wrap (Int.tdiv a1 64)) == 0 then
            some (ibits .andNot .u64 a0.2.1 (IntKind.u64.wrap ((1 : Int) * 2 ^ (min (Int.tmod a1 64).toNat 64))), a0.2.1, a0.2.2.1, a0.2.2.2)
          else
            bif (IntKind.i64.wrap (Int.tdiv a1 64)) == 1 then
              some (a0.1, ibits .andNot .u64 a0.2.1 (IntKind.u64.wrap ((1 : Int) * 2 ^ (min (Int.tmod a1 64).toNat 64))), a0.2.2.1, a0.2.2.2)
            else
              bif (IntKind.i64.wrap (Int.tdiv a1 64)) == 2 then
                some (a0.1, a0.2.1, ibits .andNot .u64 a0.2.1 (IntKind.u64.wrap ((1 : Int) * 2 ^ (min (Int.tmod a1 64).toNat 64))), a0.2.2.2)
              else
                bif (IntKind.i64.wrap (Int.tdiv a1 64)) == 3 then
                  some (a0.1, a0.2.1, a0.2.2.1, ibits .andNot .u64 a0.2.1 (IntKind.u64.wrap ((1 : Int) * 2 ^ (min (Int.tmod a1 64).toNat 64))))
                else
                  none
        else
          bif (IntKind.i64.wrap (Int.tdiv a1 64)) == 2 then
            req (0 ≤ (Int.tmod a1 64)) <|
            bif (IntKind.i64.wrap (Int.tdiv a1 64)) == 0 then
              some (ibits .andNot .u64 a0.2.2.1 (IntKind.u64.wrap ((1 : Int) * 2 ^ (min (Int.tmod a1 64).toNat 64))), a0.2.1, a0.2.2.1, a0.2.2.2)
            else
              bif (IntKind.i64.wrap (Int.tdiv a1 64)) == 1 then
                some (a0.1, ibits .andNot .u64 a0.2.2.1 (IntKind.u64.wrap ((1 : Int) * 2 ^ (min (Int.tmod a1 64).toNat 64))), a0.2.2.1, a0.2.2.2)
              else
                bif (IntKind.i64.wrap (Int.tdiv a1 64)) == 2 then
                  some (a0.1, a0.2.1, ibits .andNot .u64 a0.2.2.1 (IntKind.u64.wrap ((1 : Int) * 2 ^ (min (Int.tmod a1 64).toNat 64))), a0.2.2.2)
                else
                  bif (IntKind.i64.wrap (Int.tdiv a1 64)) == 3 then
                    some (a0.1, a0.2.1, a0.2.2.1, ibits .andNot .u64 a0.2.2.1 (IntKind.u64.wrap ((1 : Int) * 2 ^ (min (Int.tmod a1 64).toNat 64))))
                  else
                    none
          else
            bif (IntKind.i64.wrap (Int.tdiv a1 64)) == 3 then
              req (0 ≤ (Int.tmod a1 64)) <|
              bif (IntKind.i64.wrap (Int.tdiv a1 64)) == 0 then
                some (ibits .andNot .u64 a0.2.2.2 (IntKind.u64.wrap ((1 : Int) * 2 ^ (min (Int.tmod a1 64).toNat 64))), a0.2.1, a0.2.2.1, a0.2.2.2)
              else
                bif (IntKind.i64.wrap (Int.tdiv a1 64)) == 1 then
                  some (a0.1, ibits .andNot .u64 a0.2.2.2 (IntKind.u64.wrap ((1 : Int) * 2 ^ (min (Int.tmod a1 64).toNat 64))), a0.2.2.1, a0.2.2.2)
                else
                  bif (IntKind.i64.wrap (Int.tdiv a1 64)) == 2 then
                    some (a0.1, a0.2.1, ibits .andNot .u64 a0.2.2.2 (IntKind.u64.wrap ((1 : Int) * 2 ^ (min (Int.tmod a1 64).toNat 64))), a0.2.2.2)
                  else
                    bif (IntKind.i64.wrap (Int.tdiv a1 64)) == 3 then
                      some (a0.1, a0.2.1, a0.2.2.1, ibits .andNot .u64 a0.2.2.2 (IntKind.u64.wrap ((1 : Int) * 2 ^ (min (Int.tmod a1 64).toNat 64))))
                    else
                      none
            else
              none
    else
      some (a0.1, a0.2.1, a0.2.2.1, a0.2.2.2) : Option (Int × Int × Int × Int)).bind fun x7 =>
  some x7
noncomputable def screen_work_page_a9a (a10 : Int) : Option (Int) :=
  (bif (ibits .and .i64 a10 128) != 0 then
      some true
    else
      some false : Option (Bool)).bind fun x1 =>
  bif x1 then
    some 1
  else
    some 0
noncomputable def screen_work_save_a9a (a2 : Int) (a3 : Int) (a4 : Bool) (a5 : Int) (a6 : Int) (a7 : Int) (a10 : Int) (a11 : Int) (a12 : Int) (a13 : Int) (a14 : Int) (a15 : Int) (a16 : Bool) (a17 : Bool) (a18 : Int) (a19 : Int) (a20 : Int) (a21 : Int) (a22 : Int) (a23 : Bool) (a24 : Bool) (a29 : List (List (Int × K72c5.T))) (a30 : List (List (Int × K72c5.T))) (a31 : List Int) : Option (Int × Int × Int × Int × Int × Bool × Bool × Int × Int × Int × Int × Int × Bool × Bool) :=
  req (a31.length = a31.length) <|
  req (a30.length = a30.length) <|
  req (a29.length = a29.length) <|
  (screen_work_page_a9a a10).bind fun x1 =>
  bif x1 == 0 then
    some (a2, a3, a5, a6, a7, ((ibits .and .i64 a10 2) != 0), a4, a18, a19, a20, a21, a22, a23, a24)
  else
    bif x1 == 1 then
      some (a11, a12, a13, a14, a15, a16, a17, a2, a3, a5, a6, a7, ((ibits .and .i64 a10 2) != 0), a4)
    else
      none
noncomputable def screen_work_goTo_5c0 (a0 : Int) (a1 : Int) (a2 : Int) (a3 : Int) (a10 : Int) (a11 : Int) (a12 : Int) : Option (Int × Int) :=
  ((bif (ibits .and .i64 a12 2) != 0 then
        some true
      else
        some false : Option (Bool)).bind fun x4 =>
    bif x4 then
      (screen_between (IntKind.i64.wrap (a10 + a0)) a10 a11).bind fun x5 =>
      some x5
    else
      (screen_between a0 0 (IntKind.i64.wrap (a2 - 1))).bind fun x6 =>
      some x6 : Option (Int)).bind fun x7 =>
  (screen_between a1 0 (IntKind.i64.wrap (a3 - 1))).bind fun x8 =>
  some (x7, x8)
noncomputable def screen_work_restore_a9a (a0 : Int) (a1 : Int) (a10 : Int) (a11 : Int) (a12 : Int) (a13 : Int) (a14 : Int) (a15 : Int) (a16 : Bool) (a17 : Bool) (a18 : Int) (a19 : Int) (a20 : Int) (a21 : Int) (a22 : Int) (a23 : Bool) (a24 : Bool) (a29 : List (List (Int × K72c5.T))) (a30 : List (List (Int × K72c5.T))) (a31 : List Int) : Option (Int × Int × Bool × Int × Int × Int × Int) :=
  (req (a31.length = a31.length) <|
    req (a30.length = a30.length) <|
    req (a29.length = a29.length) <|
    (screen_work_page_a9a a10).bind fun x2 =>
    bif x2 == 0 then
      some (a11, a12, a13, a14, a15, a16, a17)
    else
      bif x2 == 1 then
        some (a18, a19, a20, a21, a22, a23, a24)
      else
        none : Option (Int × Int × Int × Int × Int × Bool × Bool)).bind fun x3 =>
  (screen_between x3.1 0 (IntKind.i64.wrap (a0 - 1))).bind fun x4 =>
  (screen_between x3.2.1 0 (IntKind.i64.wrap (a1 - 1))).bind fun x5 =>
  ((bif x3.2.2.2.2.2.1 then
        some true
      else
        some false : Option (Bool)).bind fun x7 =>
    bif x7 then
      some (ibits .or .i64 (ibits .andNot .i64 a10 2) 2)
    else
      some (ibits .andNot .i64 a10 2) : Option (Int)).bind fun x8 =>
  bif x3.2.2.2.2.2.2 then
    some (x4, x5, (x5 == (IntKind.i64.wrap (a1 - 1))), x3.2.2.1, x3.2.2.2.1, x3.2.2.2.2.1, x8)
  else
    some (x4, x5, false, x3.2.2.1, x3.2.2.2.1, x3.2.2.2.2.1, x8)
noncomputable def screen_work_mode_906 (a0 : Int) (a1 : Bool) (a2 : Int) (a3 : Int) (a4 : Int) (a5 : Int) (a6 : Bool) (a7 : Int) (a8 : Int) (a9 : Int) (a10 : Int) (a11 : Int) (a12 : Int) (a13 : Int) (a14 : Int) (a15 : Int) (a16 : Int) (a17 : Int) (a18 : Bool) (a19 : Bool) (a20 : Int) (a21 : Int) (a22 : Int) (a23 : Int) (a24 : Int) (a25 : Bool) (a26 : Bool) (a31 : List (List (Int × K72c5.T))) (a32 : List (List (Int × K72c5.T))) (a33 : List Int) : Option ((List (List (Int × K72c5.T))) × (List (List (Int × K72c5.T))) × Int × Int × Bool × Int × Int × Int × Int × Int × Int × Int × Int × Int × Bool × Bool × Int × Int × Int × Int × Int × Bool × Bool) :=
  (bif decide (a0 < 1) then
      some true
    else
      bif decide (a0 > 255) then
        some true
      else
        bif (ibits .and .i64 a0 (IntKind.i64.wrap (a0 - 1))) != 0 then
          some true
        else
          some false : Option (Bool)).bind fun x1 =>
  bif x1 then
    req (a32.length = a32.length) (req (a31.length = a31.length) (some (a31, a32, a4, a5, a6, a7, a8, a9, a12, a13, a14, a15, a16, a17, a18, a19, a20, a21, a22, a23, a24, a25, a26)))
  else
    ((bif a0 == 128 then
          bif !(((ibits .and .i64 a12 a0) != 0) == a1) then
            some true
          else
            some false
        else
          some false : Option (Bool)).bind fun x6 =>
      bif x6 then
        (bif a1 then
            some true
          else
            some false : Option (Bool)).bind fun x7 =>
        bif x7 then
          req (a33.length = a33.length) <|
          req (a32.length = a32.length) <|
          req (a31.length = a31.length) <|
          (screen_work_save_a9a a4 a5 a6 a7 a8 a9 a12 a13 a14 a15 a16 a17 a18 a19 a20 a21 a22 a23 a24 a25 a26 a31 a32 a33).bind fun x8 =>
          (grid_Blank_d0d a2 a3 (0, 0, 0)).bind fun x9 =>
          req (a31.length = a31.length) (req (x9.length = x9.length) (some (x9, a31, x8.1, x8.2.1, x8.2.2.1, x8.2.2.2.1, x8.2.2.2.2.1, x8.2.2.2.2.2.1, x8.2.2.2.2.2.2.1, x8.2.2.2.2.2.2.2.1, x8.2.2.2.2.2.2.2.2.1, x8.2.2.2.2.2.2.2.2.2.1, x8.2.2.2.2.2.2.2.2.2.2.1, x8.2.2.2.2.2.2.2.2.2.2.2.1, x8.2.2.2.2.2.2.2.2.2.2.2.2.1, x8.2.2.2.2.2.2.2.2.2.2.2.2.2)))
        else
          req (a32.length = a32.length) (some (a32, [], a13, a14, a15, a16, a17, a18, a19, a20, a21, a22, a23, a24, a25, a26))
      else
        req (a32.length = a32.length) (req (a31.length = a31.length) (some (a31, a32, a13, a14, a15, a16, a17, a18, a19, a20, a21, a22, a23, a24, a25, a26))) : Option ((List (List (Int × K72c5.T))) × (List (List (Int × K72c5.T))) × Int × Int × Int × Int × Int × Bool × Bool × Int × Int × Int × Int × Int × Bool × Bool)).bind fun x10 =>
    ((bif a1 then
          some true
        else
          some false : Option (Bool)).bind fun x12 =>
      bif x12 then
        some (ibits .or .i64 (ibits .andNot .i64 a12 a0) a0)
      else
        some (ibits .andNot .i64 a12 a0) : Option (Int)).bind fun x13 =>
    (bif a0 == 2 then
        some true
      else
        some false : Option (Bool)).bind fun x14 =>
    bif x14 then
      req (a33.length = a33.length) <|
      req (x10.2.1.length = x10.2.1.length) <|
      req (x10.1.length = x10.1.length) <|
      (screen_work_goTo_5c0 0 0 a2 a3 a10 a11 x13).bind fun x15 =>
      req (x10.2.1.length = x10.2.1.length) (req (x10.1.length = x10.1.length) (some (x10.1, x10.2.1, x15.1, x15.2, false, a7, a8, a9, x13, x10.2.2.1, x10.2.2.2.1, x10.2.2.2.2.1, x10.2.2.2.2.2.1, x10.2.2.2.2.2.2.1, x10.2.2.2.2.2.2.2.1, x10.2.2.2.2.2.2.2.2.1, x10.2.2.2.2.2.2.2.2.2.1, x10.2.2.2.2.2.2.2.2.2.2.1, x10.2.2.2.2.2.2.2.2.2.2.2.1, x10.2.2.2.2.2.2.2.2.2.2.2.2.1, x10.2.2.2.2.2.2.2.2.2.2.2.2.2.1, x10.2.2.2.2.2.2.2.2.2.2.2.2.2.2.1, x10.2.2.2.2.2.2.2.2.2.2.2.2.2.2.2)))
    else
      (bif a0 == 128 then
          some true
        else
          some false : Option (Bool)).bind fun x16 =>
      bif x16 then
        (bif (ibits .and .i64 a12 a0) != 0 then
            bif !a1 then
              some true
            else
              some false
          else
            some false : Option (Bool)).bind fun x17 =>
        bif x17 then
          req (a33.length = a33.length) <|
          req (x10.2.1.length = x10.2.1.length) <|
          req (x10.1.length = x10.1.length) <|
          (screen_work_restore_a9a a2 a3 x13 x10.2.2.1 x10.2.2.2.1 x10.2.2.2.2.1 x10.2.2.2.2.2.1 x10.2.2.2.2.2.2.1 x10.2.2.2.2.2.2.2.1 x10.2.2.2.2.2.2.2.2.1 x10.2.2.2.2.2.2.2.2.2.1 x10.2.2.2.2.2.2.2.2.2.2.1 x10.2.2.2.2.2.2.2.2.2.2.2.1 x10.2.2.2.2.2.2.2.2.2.2.2.2.1 x10.2.2.2.2.2.2.2.2.2.2.2.2.2.1 x10.2.2.2.2.2.2.2.2.2.2.2.2.2.2.1 x10.2.2.2.2.2.2.2.2.2.2.2.2.2.2.2 x10.1 x10.2.1 a33).bind fun x18 =>
          req (x10.2.1.length = x10.2.1.length) (req (x10.1.length = x10.1.length) (some (x10.1, x10.2.1, x18.1, x18.2.1, x18.2.2.1, x18.2.2.2.1, x18.2.2.2.2.1, x18.2.2.2.2.2.1, x18.2.2.2.2.2.2, x10.2.2.1, x10.2.2.2.1, x10.2.2.2.2.1, x10.2.2.2.2.2.1, x10.2.2.2.2.2.2.1, x10.2.2.2.2.2.2.2.1, x10.2.2.2.2.2.2.2.2.1, x10.2.2.2.2.2.2.2.2.2.1, x10.2.2.2.2.2.2.2.2.2.2.1, x10.2.2.2.2.2.2.2.2.2.2.2.1, x10.2.2.2.2.2.2.2.2.2.2.2.2.1, x10.2.2.2.2.2.2.2.2.2.2.2.2.2.1, x10.2.2.2.2.2.2.2.2.2.2.2.2.2.2.1, x10.2.2.2.2.2.2.2.2.2.2.2.2.2.2.2)))
        else
          req (x10.2.1.length = x10.2.1.length) (req (x10.1.length = x10.1.length) (some (x10.1, x10.2.1, a4, a5, false, a7, a8, a9, x13, x10.2.2.1, x10.2.2.2.1, x10.2.2.2.2.1, x10.2.2.2.2.2.1, x10.2.2.2.2.2.2.1, x10.2.2.2.2.2.2.2.1, x10.2.2.2.2.2.2.2.2.1, x10.2.2.2.2.2.2.2.2.2.1, x10.2.2.2.2.2.2.2.2.2.2.1, x10.2.2.2.2.2.2.2.2.2.2.2.1, x10.2.2.2.2.2.2.2.2.2.2.2.2.1, x10.2.2.2.2.2.2.2.2.2.2.2.2.2.1, x10.2.2.2.2.2.2.2.2.2.2.2.2.2.2.1, x10.2.2.2.2.2.2.2.2.2.2.2.2.2.2.2)))
      else
        req (x10.2.1.length = x10.2.1.length) (req (x10.1.length = x10.1.length) (some (x10.1, x10.2.1, a4, a5, a6, a7, a8, a9, x13, x10.2.2.1, x10.2.2.2.1, x10.2.2.2.2.1, x10.2.2.2.2.2.1, x10.2.2.2.2.2.2.1, x10.2.2.2.2.2.2.2.1, x10.2.2.2.2.2.2.2.2.1, x10.2.2.2.2.2.2.2.2.2.1, x10.2.2.2.2.2.2.2.2.2.2.1, x10.2.2.2.2.2.2.2.2.2.2.2.1, x10.2.2.2.2.2.2.2.2.2.2.2.2.1, x10.2.2.2.2.2.2.2.2.2.2.2.2.2.1, x10.2.2.2.2.2.2.2.2.2.2.2.2.2.2.1, x10.2.2.2.2.2.2.2.2.2.2.2.2.2.2.2)))
noncomputable def screen_New_893 (a0 : Int) (a1 : Int) : Option (Int × Int × Int × Int × Int × Int × Int × Int × Int × (List (List (Int × K72c5.T)))) :=
  (grid_Blank_d0d a0 a1 (0, 0, 0)).bind fun x1 =>
  (bif ((x1.length : Nat) : Int) == 0 then
      some true
    else
      some false : Option (Bool)).bind fun x2 =>
  bif x2 then
    some (0, 0, 0, 0, 0, 0, 0, 0, 2, [])
  else
    (tabs_Usual a1).bind fun x3 =>
    req (x1.length = x1.length) (some (a0, a1, IntKind.i64.wrap (a0 - 1), 9, x3.1, x3.2.1, x3.2.2.1, x3.2.2.2, 0, x1))
noncomputable def screen_work_step_5c0 (a0 : Int) (a1 : Int) (a2 : Int) (a3 : Int) (a4 : Int) (a5 : Int) (a10 : Int) (a11 : Int) : Option (Int × Int) :=
  ((bif decide (a4 ≥ a10) then
        some true
      else
        some false : Option (Bool)).bind fun x2 =>
    bif x2 then
      some a10
    else
      some 0 : Option (Int)).bind fun x3 =>
  ((bif decide (a4 ≤ a11) then
        some true
      else
        some false : Option (Bool)).bind fun x5 =>
    bif x5 then
      some a11
    else
      some (IntKind.i64.wrap (a2 - 1)) : Option (Int)).bind fun x6 =>
  ((bif decide (a0 > 0) then
        some true
      else
        some false : Option (Bool)).bind fun x9 =>
    bif x9 then
      some (if x6 < (IntKind.i64.wrap (a4 + a0)) then x6 else (IntKind.i64.wrap (a4 + a0)))
    else
      (bif decide (a0 < 0) then
          some true
        else
          some false : Option (Bool)).bind fun x10 =>
      bif x10 then
        some (if x3 > (IntKind.i64.wrap (a4 + a0)) then x3 else (IntKind.i64.wrap (a4 + a0)))
      else
        some a4 : Option (Int)).bind fun x11 =>
  (screen_between (IntKind.i64.wrap (a5 + a1)) 0 (IntKind.i64.wrap (a3 - 1))).bind fun x12 =>
  some (x11, x12)
noncomputable def screen_work_move_e36_loop1 (a0 : K86d9.T) (a32 : List Int) (a31 : List (List (Int × K72c5.T))) (a1 : Int) (a6 : Int) (a7 : Int) (a8 : Int) (a9 : Int) (a10 : Int) (x4 : Int × (List (List (Int × K72c5.T))) × Int) : Option ((((List (List (Int × K72c5.T))) × Int)) ⊕ (Int × (List (List (Int × K72c5.T))) × Int)) :=
    (bif decide (x4.1 < a0.2.1) then
        some true
      else
        some false : Option (Bool)).bind fun x5 =>
    bif x5 then
      req (a32.length = a32.length) <|
      req (a31.length = a31.length) <|
      req (x4.2.1.length = x4.2.1.length) <|
      (screen_work_feed_a9a a1 x4.2.2 a6 a7 a8 a9 a10 x4.2.1 a31 a32).bind fun x6 =>
      req (x6.1.length = x6.1.length) (some (.inr (IntKind.i64.wrap (x4.1 + 1), x6.1, x6.2)))
    else
      req (x4.2.1.length = x4.2.1.length) (some (.inl (x4.2.1, x4.2.2)))
noncomputable def screen_work_move_e36_loop2 (a0 : K86d9.T) (u : Unit) : Option (((Unit)) ⊕ (Unit)) :=
    (bif decide ((0 : Int) < a0.2.1) then
        some true
      else
        some false : Option (Bool)).bind fun x22 =>
    bif x22 then
      none
    else
      some (.inl ())
noncomputable def screen_work_move_e36_loop3 (a0 : K86d9.T) (u : Unit) : Option (((Unit)) ⊕ (Unit)) :=
    (bif decide ((0 : Int) < (IntKind.i64.wrap ((0 : Int) - a0.2.1))) then
        some true
      else
        some false : Option (Bool)).bind fun x24 =>
    bif x24 then
      none
    else
      some (.inl ())
noncomputable def screen_work_move_e36 (a0 : K86d9.T) (a1 : Int) (a2 : Int) (a3 : Int) (a4 : Int) (a5 : Bool) (a6 : Int) (a7 : Int) (a8 : Int) (a9 : Int) (a10 : Int) (a11 : Int) (a30 : List (List (Int × K72c5.T))) (a31 : List (List (Int × K72c5.T))) (a32 : List Int) : Option ((List (List (Int × K72c5.T))) × Int × Int × Bool) :=
  (bif a0.1 == 2 then
      some true
    else
      some false : Option (Bool)).bind fun x1 =>
  bif x1 then
    req (a30.length = a30.length) ((loopO (screen_work_move_e36_loop1 a0 a32 a31 a1 a6 a7 a8 a9 a10) (0, a30, a3)).bind fun x7 =>
    req (x7.1.length = x7.1.length) (some (x7.1, x7.2, a4, a5)))
  else
    (bif a0.1 == 3 then
        some true
      else
        some false : Option (Bool)).bind fun x8 =>
    bif x8 then
      (bif a3 == a9 then
          some true
        else
          some false : Option (Bool)).bind fun x9 =>
      bif x9 then
        req (a32.length = a32.length) <|
        req (a31.length = a31.length) <|
        req (a30.length = a30.length) <|
        (screen_work_scroll_5c0 a9 (-1) a6 a7 a8 a10 a30).bind fun x10 =>
        req (x10.length = x10.length) (some (x10, a3, a4, a5))
      else
        req (a30.length = a30.length) (some (a30, (if (IntKind.i64.wrap (a3 - 1)) > (0 : Int) then (IntKind.i64.wrap (a3 - 1)) else (0 : Int)), a4, a5))
    else
      (bif a0.1 == 4 then
          some true
        else
          some false : Option (Bool)).bind fun x11 =>
      bif x11 then
        req (a30.length = a30.length) (some (a30, a3, 0, a5))
      else
        (bif a0.1 == 5 then
            some true
          else
            some false : Option (Bool)).bind fun x12 =>
        bif x12 then
          req (a32.length = a32.length) <|
          req (a31.length = a31.length) <|
          req (a30.length = a30.length) <|
          (screen_work_goTo_5c0 a0.2.1 a0.2.2.1 a1 a2 a9 a10 a11).bind fun x13 =>
          req (a30.length = a30.length) (some (a30, x13.1, x13.2, false))
        else
          (bif a0.1 == 6 then
              some true
            else
              some false : Option (Bool)).bind fun x14 =>
          bif x14 then
            req (a32.length = a32.length) <|
            req (a31.length = a31.length) <|
            req (a30.length = a30.length) <|
            (screen_work_step_5c0 a0.2.1 a0.2.2.1 a1 a2 a3 a4 a9 a10).bind fun x15 =>
            req (a30.length = a30.length) (some (a30, x15.1, x15.2, a5))
          else
            (bif a0.1 == 7 then
                some true
              else
                some false : Option (Bool)).bind fun x16 =>
            bif x16 then
              (screen_between a0.2.1 0 (IntKind.i64.wrap (a2 - 1))).bind fun x17 =>
              req (a30.length = a30.length) (some (a30, a3, x17, a5))
            else
              (bif a0.1 == 8 then
                  some true
                else
                  some false : Option (Bool)).bind fun x18 =>
              bif x18 then
                req (a32.length = a32.length) <|
                req (a31.length = a31.length) <|
                req (a30.length = a30.length) <|
                (screen_work_goTo_5c0 a0.2.1 a4 a1 a2 a9 a10 a11).bind fun x19 =>
                req (a30.length = a30.length) (some (a30, x19.1, x19.2, false))
              else
                (bif a0.1 == 9 then
                    some true
                  else
                    some false : Option (Bool)).bind fun x20 =>
                bif x20 then
                  (loopO (screen_work_move_e36_loop2 a0) ()).bind fun _ =>
                  (loopO (screen_work_move_e36_loop3 a0) ()).bind fun _ =>
                  req (a30.length = a30.length) (some (a30, a3, a4, a5))
                else
                  req (a30.length = a30.length) (some (a30, a3, a4, a5))
noncomputable def grid_Erase_1_fe1 (a0 : Int × Int) (a1 : List (List (Int × K72c5.T))) : Option (Bool) :=
  bif decide (a0.1 ≥ 0) then
    bif decide (a0.1 < ((a1.length : Nat) : Int)) then
      bif decide (a0.2 ≥ 0) then
        req (0 ≤ (0 : Int) ∧ (0 : Int) < ((a1.length : Nat) : Int)) <|
        (a1[(0 : Int).toNat]?).bind fun x1 =>
        some (decide (a0.2 < (x1.length : Int)))
      else
        some false
    else
      some false
  else
    some false
noncomputable def line_Erase (a0 : List (Int × K72c5.T)) (a1 : Int) (a2 : Int) (a3 : K92a5.T) : Option ((List (Int × K72c5.T))) :=
  ((line_fine a0 a3).bind fun x2 =>
    bif !x2 then
      some true
    else
      some false : Option (Bool)).bind fun x3 =>
  bif x3 then
    some ([] : List (Int × K72c5.T))
  else
    (slices_Clone_0e3 a0).bind fun x4 =>
    (bif decide ((if a1 > (0 : Int) then a1 else (0 : Int)) ≥ (if (a0.length : Int) < a2 then (a0.length : Int) else a2)) then
        some true
      else
        some false : Option (Bool)).bind fun x5 =>
    bif x5 then
      req (x4.length = x4.length) (some x4)
    else
      req (x4.length = x4.length) <|
      (line_torn_ed0 (if a1 > (0 : Int) then a1 else (0 : Int)) x4).bind fun x6 =>
      req (x4.length = x6.length) <|
      (line_torn_ed0 (if (a0.length : Int) < a2 then (a0.length : Int) else a2) x6).bind fun x7 =>
      req (0 ≤ (if a1 > (0 : Int) then a1 else (0 : Int)) ∧ (if a1 > (0 : Int) then a1 else (0 : Int)) ≤ (if (a0.length : Int) < a2 then (a0.length : Int) else a2) ∧ (if (a0.length : Int) < a2 then (a0.length : Int) else a2) ≤ ((x4.length : Nat) : Int)) <|
      (line_Blank (IntKind.i64.wrap ((if (a0.length : Int) < a2 then (a0.length : Int) else a2) - (if a1 > (0 : Int) then a1 else (0 : Int)))) a3).bind fun x8 =>
      req (((if a1 > (0 : Int) then a1 else (0 : Int)).toNat) + ((if (a0.length : Int) < a2 then (a0.length : Int) else a2).toNat - (if a1 > (0 : Int) then a1 else (0 : Int)).toNat) ≤ x7.length) <|
      req (x4.length = (cpy x7 ((if a1 > (0 : Int) then a1 else (0 : Int)).toNat) x8 (min x8.length ((if (a0.length : Int) < a2 then (a0.length : Int) else a2).toNat - (if a1 > (0 : Int) then a1 else (0 : Int)).toNat))).length) (some (cpy x7 ((if a1 > (0 : Int) then a1 else (0 : Int)).toNat) x8 (min x8.length ((if (a0.length : Int) < a2 then (a0.length : Int) else a2).toNat - (if a1 > (0 : Int) then a1 else (0 : Int)).toNat))))
noncomputable def grid_Erase_e07_loop1 (a1 : Int × Int) (a3 : List (List (Int × K72c5.T))) (a0 : Int × Int) (x6 : (List (List (Int × K72c5.T)))) (a2 : K92a5.T) (x23 : Int × (List (List (Int × K72c5.T)))) : Option ((((List (List (Int × K72c5.T))))) ⊕ (Int × (List (List (Int × K72c5.T))))) :=
    (bif decide (x23.1 ≤ a1.1) then
        some true
      else
        some false : Option (Bool)).bind fun x24 =>
    bif x24 then
      req (0 ≤ (0 : Int) ∧ (0 : Int) < ((a3.length : Nat) : Int)) <|
      (a3[(0 : Int).toNat]?).bind fun x25 =>
      ((bif x23.1 == a0.1 then
            some true
          else
            some false : Option (Bool)).bind fun x27 =>
        bif x27 then
          some a0.2
        else
          some 0 : Option (Int)).bind fun x28 =>
      ((bif x23.1 == a1.1 then
            some true
          else
            some false : Option (Bool)).bind fun x30 =>
        bif x30 then
          some (IntKind.i64.wrap (a1.2 + 1))
        else
          some (x25.length : Int) : Option (Int)).bind fun x31 =>
      req (0 ≤ x23.1 ∧ x23.1 < ((x6.length : Nat) : Int)) <|
      (x23.2[x23.1.toNat]?).bind fun x32 =>
      (line_Erase x32 x28 x31 a2).bind fun x33 =>
      req (0 ≤ x23.1 ∧ x23.1 < ((x6.length : Nat) : Int)) <|
      (x23.2[x23.1.toNat]?).bind fun x34 =>
      some (.inr (IntKind.i64.wrap (x23.1 + 1), x23.2.set x23.1.toNat x33))
    else
      some (.inl x23.2)
noncomputable def grid_Erase_e07 (a0 : Int × Int) (a1 : Int × Int) (a2 : K92a5.T) (a3 : List (List (Int × K72c5.T))) : Option ((List (List (Int × K72c5.T)))) :=
  (req (a3.length = a3.length) <|
    (grid_May a3).bind fun x3 =>
    bif !x3 then
      some true
    else
      (pen_May a2).bind fun x4 =>
      bif !x4 then
        some true
      else
        some false : Option (Bool)).bind fun x5 =>
  bif x5 then
    some ([])
  else
    req (a3.length = a3.length) <|
    (grid_copied_d77 a3).bind fun x6 =>
    (req (a3.length = a3.length) <|
      (grid_Erase_1_fe1 a0 a3).bind fun x9 =>
      bif !x9 then
        some true
      else
        req (a3.length = a3.length) <|
        (grid_Erase_1_fe1 a1 a3).bind fun x10 =>
        bif !x10 then
          some true
        else
          some false : Option (Bool)).bind fun x11 =>
    bif x11 then
      req (x6.length = x6.length) (some x6)
    else
      (loopO (grid_Erase_e07_loop1 a1 a3 a0 x6 a2) (a0.1, x6)).bind fun x35 =>
      req (x6.length = x35.length) (some x35)
noncomputable def screen_work_erase_28c (a0 : Int) (a1 : Int × Int) (a2 : Int × Int) (a3 : Int × Int) (a9 : Int) (a10 : Int) (a11 : Int) (a33 : List (List (Int × K72c5.T))) : Option ((List (List (Int × K72c5.T)))) :=
  (bif a0 == 0 then
      some true
    else
      some false : Option (Bool)).bind fun x1 =>
  bif x1 then
    req (a33.length = a33.length) <|
    (grid_Erase_e07 a2 a3 (a9, a10, a11) a33).bind fun x2 =>
    req (x2.length = x2.length) (some x2)
  else
    (bif a0 == 1 then
        some true
      else
        some false : Option (Bool)).bind fun x3 =>
    bif x3 then
      req (a33.length = a33.length) <|
      (grid_Erase_e07 a1 a2 (a9, a10, a11) a33).bind fun x4 =>
      req (x4.length = x4.length) (some x4)
    else
      (bif a0 == 2 then
          some true
        else
          some false : Option (Bool)).bind fun x5 =>
      bif x5 then
        req (a33.length = a33.length) <|
        (grid_Erase_e07 a1 a3 (a9, a10, a11) a33).bind fun x6 =>
        req (x6.length = x6.length) (some x6)
      else
        req (a33.length = a33.length) (some a33)
noncomputable def line_Delete (a0 : List (Int × K72c5.T)) (a1 : Int) (a2 : Int) (a3 : K92a5.T) : Option ((List (Int × K72c5.T))) :=
  ((line_fine a0 a3).bind fun x2 =>
    bif !x2 then
      some true
    else
      some false : Option (Bool)).bind fun x3 =>
  bif x3 then
    some ([] : List (Int × K72c5.T))
  else
    (slices_Clone_0e3 a0).bind fun x4 =>
    (bif decide (a2 < 1) then
        some true
      else
        bif decide (a1 < 0) then
          some true
        else
          bif decide (a1 ≥ (a0.length : Int)) then
            some true
          else
            some false : Option (Bool)).bind fun x5 =>
    bif x5 then
      req (x4.length = x4.length) (some x4)
    else
      req (x4.length = x4.length) <|
      (line_torn_ed0 a1 x4).bind fun x6 =>
      req (x4.length = x6.length) <|
      (line_torn_ed0 (IntKind.i64.wrap (a1 + (if (IntKind.i64.wrap ((a0.length : Int) - a1)) < a2 then (IntKind.i64.wrap ((a0.length : Int) - a1)) else a2))) x6).bind fun x7 =>
      req (0 ≤ a1 ∧ a1 ≤ ((x4.length : Nat) : Int) ∧ ((x4.length : Nat) : Int) ≤ ((x4.length : Nat) : Int)) <|
      req (0 ≤ (IntKind.i64.wrap (a1 + (if (IntKind.i64.wrap ((a0.length : Int) - a1)) < a2 then (IntKind.i64.wrap ((a0.length : Int) - a1)) else a2))) ∧ (IntKind.i64.wrap (a1 + (if (IntKind.i64.wrap ((a0.length : Int) - a1)) < a2 then (IntKind.i64.wrap ((a0.length : Int) - a1)) else a2))) ≤ ((x4.length : Nat) : Int) ∧ ((x4.length : Nat) : Int) ≤ ((x4.length : Nat) : Int)) <|
      req (a1.toNat + (x4.length - a1.toNat) ≤ x7.length) <|
      req (((IntKind.i64.wrap (a1 + (if (IntKind.i64.wrap ((a0.length : Int) - a1)) < a2 then (IntKind.i64.wrap ((a0.length : Int) - a1)) else a2))).toNat) + (x4.length - (IntKind.i64.wrap (a1 + (if (IntKind.i64.wrap ((a0.length : Int) - a1)) < a2 then (IntKind.i64.wrap ((a0.length : Int) - a1)) else a2))).toNat) ≤ x7.length) <|
      req (0 ≤ (IntKind.i64.wrap ((a0.length : Int) - (if (IntKind.i64.wrap ((a0.length : Int) - a1)) < a2 then (IntKind.i64.wrap ((a0.length : Int) - a1)) else a2))) ∧ (IntKind.i64.wrap ((a0.length : Int) - (if (IntKind.i64.wrap ((a0.length : Int) - a1)) < a2 then (IntKind.i64.wrap ((a0.length : Int) - a1)) else a2))) ≤ ((x4.length : Nat) : Int) ∧ ((x4.length : Nat) : Int) ≤ ((x4.length : Nat) : Int)) <|
      (line_Blank (if (IntKind.i64.wrap ((a0.length : Int) - a1)) < a2 then (IntKind.i64.wrap ((a0.length : Int) - a1)) else a2) a3).bind fun x8 =>
      req (((IntKind.i64.wrap ((a0.length : Int) - (if (IntKind.i64.wrap ((a0.length : Int) - a1)) < a2 then (IntKind.i64.wrap ((a0.length : Int) - a1)) else a2))).toNat) + (x4.length - (IntKind.i64.wrap ((a0.length : Int) - (if (IntKind.i64.wrap ((a0.length : Int) - a1)) < a2 then (IntKind.i64.wrap ((a0.length : Int) - a1)) else a2))).toNat) ≤ (cpy x7 a1.toNat ((x7.drop ((IntKind.i64.wrap (a1 + (if (IntKind.i64.wrap ((a0.length : Int) - a1)) < a2 then (IntKind.i64.wrap ((a0.length : Int) - a1)) else a2))).toNat)).take (x4.length - (IntKind.i64.wrap (a1 + (if (IntKind.i64.wrap ((a0.length : Int) - a1)) < a2 then (IntKind.i64.wrap ((a0.length : Int) - a1)) else a2))).toNat)) (min ((x7.drop ((IntKind.i64.wrap (a1 + (if (IntKind.i64.wrap ((a0.length : Int) - a1)) < a2 then (IntKind.i64.wrap ((a0.length : Int) - a1)) else a2))).toNat)).take (x4.length - (IntKind.i64.wrap (a1 + (if (IntKind.i64.wrap ((a0.length : Int) - a1)) < a2 then (IntKind.i64.wrap ((a0.length : Int) - a1)) else a2))).toNat)).length (x4.length - a1.toNat))).length) <|
      req (x4.length = (cpy (cpy x7 a1.toNat ((x7.drop ((IntKind.i64.wrap (a1 + (if (IntKind.i64.wrap ((a0.length : Int) - a1)) < a2 then (IntKind.i64.wrap ((a0.length : Int) - a1)) else a2))).toNat)).take (x4.length - (IntKind.i64.wrap (a1 + (if (IntKind.i64.wrap ((a0.length : Int) - a1)) < a2 then (IntKind.i64.wrap ((a0.length : Int) - a1)) else a2))).toNat)) (min ((x7.drop ((IntKind.i64.wrap (a1 + (if (IntKind.i64.wrap ((a0.length : Int) - a1)) < a2 then (IntKind.i64.wrap ((a0.length : Int) - a1)) else a2))).toNat)).take (x4.length - (IntKind.i64.wrap (a1 + (if (IntKind.i64.wrap ((a0.length : Int) - a1)) < a2 then (IntKind.i64.wrap ((a0.length : Int) - a1)) else a2))).toNat)).length (x4.length - a1.toNat))) ((IntKind.i64.wrap ((a0.length : Int) - (if (IntKind.i64.wrap ((a0.length : Int) - a1)) < a2 then (IntKind.i64.wrap ((a0.length : Int) - a1)) else a2))).toNat) x8 (min x8.length (x4.length - (IntKind.i64.wrap ((a0.length : Int) - (if (IntKind.i64.wrap ((a0.length : Int) - a1)) < a2 then (IntKind.i64.wrap ((a0.length : Int) - a1)) else a2))).toNat))).length) (some (cpy (cpy x7 a1.toNat ((x7.drop ((IntKind.i64.wrap (a1 + (if (IntKind.i64.wrap ((a0.length : Int) - a1)) < a2 then (IntKind.i64.wrap ((a0.length : Int) - a1)) else a2))).toNat)).take (x4.length - (IntKind.i64.wrap (a1 + (if (IntKind.i64.wrap ((a0.length : Int) - a1)) < a2 then (IntKind.i64.wrap ((a0.length : Int) - a1)) else a2))).toNat)) (min ((x7.drop ((IntKind.i64.wrap (a1 + (if (IntKind.i64.wrap ((a0.length : Int) - a1)) < a2 then (IntKind.i64.wrap ((a0.length : Int) - a1)) else a2))).toNat)).take (x4.length - (IntKind.i64.wrap (a1 + (if (IntKind.i64.wrap ((a0.length : Int) - a1)) < a2 then (IntKind.i64.wrap ((a0.length : Int) - a1)) else a2))).toNat)).length (x4.length - a1.toNat))) ((IntKind.i64.wrap ((a0.length : Int) - (if (IntKind.i64.wrap ((a0.length : Int) - a1)) < a2 then (IntKind.i64.wrap ((a0.length : Int) - a1)) else a2))).toNat) x8 (min x8.length (x4.length - (IntKind.i64.wrap ((a0.length : Int) - (if (IntKind.i64.wrap ((a0.length : Int) - a1)) < a2 then (IntKind.i64.wrap ((a0.length : Int) - a1)) else a2))).toNat))))
noncomputable def line_Fit (a0 : List (Int × K72c5.T)) (a1 : Int) : Option ((List (Int × K72c5.T))) :=
  ((line_May a0).bind fun x2 =>
    bif !x2 then
      some true
    else
      bif decide (a1 < 0) then
        some true
      else
        bif decide (a1 > 1000) then
          some true
        else
          some false : Option (Bool)).bind fun x3 =>
  bif x3 then
    some ([] : List (Int × K72c5.T))
  else
    (slices_Clone_0e3 a0).bind fun x4 =>
    req (x4.length = x4.length) <|
    (line_torn_ed0 a1 x4).bind fun x5 =>
    req (0 ≤ (0 : Int) ∧ (0 : Int) ≤ (if (a0.length : Int) < a1 then (a0.length : Int) else a1) ∧ (if (a0.length : Int) < a1 then (a0.length : Int) else a1) ≤ ((x4.length : Nat) : Int)) <|
    (line_Blank (IntKind.i64.wrap (a1 - (if (a0.length : Int) < a1 then (a0.length : Int) else a1))) (0, 0, 0)).bind fun x6 =>
    req (0 + ((if (a0.length : Int) < a1 then (a0.length : Int) else a1).toNat) ≤ x5.length) <|
    req ((((x5.drop 0).take ((if (a0.length : Int) < a1 then (a0.length : Int) else a1).toNat)) ++ x6).length * 48 ≤ maxBy) <|
    req ((((x5.drop 0).take ((if (a0.length : Int) < a1 then (a0.length : Int) else a1).toNat)) ++ x6).length = (((x5.drop 0).take ((if (a0.length : Int) < a1 then (a0.length : Int) else a1).toNat)) ++ x6).length) (some (((x5.drop 0).take ((if (a0.length : Int) < a1 then (a0.length : Int) else a1).toNat)) ++ x6))
noncomputable def grid_Fit_677_loop1 (a3 : List (List (Int × K72c5.T))) (a2 : Int) (a0 : Int) (a1 : Int) (x8 : (List (List (Int × K72c5.T)))) (x19 : Int × (List (List (Int × K72c5.T)))) : Option ((((List (List (Int × K72c5.T))))) ⊕ (Int × (List (List (Int × K72c5.T))))) :=
    (bif decide (x19.1 < ((a3.length - a2.toNat : Nat) : Int)) then
        some true
      else
        some false : Option (Bool)).bind fun x20 =>
    bif x20 then
      (req (0 ≤ x19.1 ∧ x19.1 < ((a3.length - a2.toNat : Nat) : Int)) <|
        (a3[x19.1.toNat + a2.toNat]?).bind fun x25 =>
        (bif decide (x19.1 < a0) then
            some true
          else
            some false : Option (Bool)).bind fun x26 =>
        bif x26 then
          (line_Fit x25 a1).bind fun x27 =>
          req (0 ≤ x19.1 ∧ x19.1 < ((x8.length : Nat) : Int)) <|
          (x19.2[x19.1.toNat]?).bind fun x28 =>
          some (x19.2.set x19.1.toNat x27)
        else
          some x19.2 : Option ((List (List (Int × K72c5.T))))).bind fun x29 =>
      some (.inr (IntKind.i64.wrap (x19.1 + 1), x29))
    else
      some (.inl x19.2)
noncomputable def grid_Fit_677 (a0 : Int) (a1 : Int) (a2 : Int) (a3 : List (List (Int × K72c5.T))) : Option ((List (List (Int × K72c5.T)))) :=
  (req (a3.length = a3.length) <|
    (grid_May a3).bind fun x4 =>
    bif !x4 then
      some true
    else
      (grid_side a0).bind fun x5 =>
      bif !x5 then
        some true
      else
        (grid_side a1).bind fun x6 =>
        bif !x6 then
          some true
        else
          bif decide (a2 < 0) then
            some true
          else
            bif decide (a2 > ((a3.length : Nat) : Int)) then
              some true
            else
              some false : Option (Bool)).bind fun x7 =>
  bif x7 then
    some ([])
  else
    (grid_Blank_d0d a0 a1 (0, 0, 0)).bind fun x8 =>
    req (0 ≤ a2 ∧ a2 ≤ ((a3.length : Nat) : Int) ∧ ((a3.length : Nat) : Int) ≤ ((a3.length : Nat) : Int)) <|
    (loopO (grid_Fit_677_loop1 a3 a2 a0 a1 x8) (0, x8)).bind fun x30 =>
    req (x8.length = x30.length) (some x30)
noncomputable def screen_work_resize_5c0 (a0 : Int) (a1 : Int) (a2 : Int) (a3 : Int) (a4 : Int) (a5 : Int) (a13 : Int) (a27 : Int) (a28 : Int) (a29 : Int) (a30 : Int) (a31 : List (List (Int × K72c5.T))) (a32 : List (List (Int × K72c5.T))) : Option ((List (List (Int × K72c5.T))) × (List (List (Int × K72c5.T))) × Int × Int × Int × Int × Int × Int × Int × Int × Int) :=
  req (a31.length = a31.length) <|
  (grid_Fit_677 a0 a1 (if (IntKind.i64.wrap ((IntKind.i64.wrap (a4 + 1)) - a0)) > (0 : Int) then (IntKind.i64.wrap ((IntKind.i64.wrap (a4 + 1)) - a0)) else (0 : Int)) a31).bind fun x1 =>
  ((bif decide (((a32.length : Nat) : Int) > 0) then
        some true
      else
        some false : Option (Bool)).bind fun x4 =>
    bif x4 then
      req (a32.length = a32.length) <|
      (grid_Fit_677 a0 a1 (if (IntKind.i64.wrap ((IntKind.i64.wrap ((if (IntKind.i64.wrap (a2 - 1)) < a13 then (IntKind.i64.wrap (a2 - 1)) else a13) + 1)) - a0)) > (0 : Int) then (IntKind.i64.wrap ((IntKind.i64.wrap ((if (IntKind.i64.wrap (a2 - 1)) < a13 then (IntKind.i64.wrap (a2 - 1)) else a13) + 1)) - a0)) else (0 : Int)) a32).bind fun x5 =>
      req (x5.length = x5.length) (some x5)
    else
      req (a32.length = a32.length) (some a32) : Option ((List (List (Int × K72c5.T))))).bind fun x6 =>
  ((bif decide (a1 > a3) then
        some true
      else
        some false : Option (Bool)).bind fun x9 =>
    bif x9 then
      (tabs_Wider (a27, a28, a29, a30) a3 a1).bind fun x10 =>
      some (x10.1, x10.2.1, x10.2.2.1, x10.2.2.2)
    else
      some (a27, a28, a29, a30) : Option (Int × Int × Int × Int)).bind fun x11 =>
  req (x6.length = x6.length) (req (x1.length = x1.length) (some (x1, x6, a0, a1, IntKind.i64.wrap (a4 - (if (IntKind.i64.wrap ((IntKind.i64.wrap (a4 + 1)) - a0)) > (0 : Int) then (IntKind.i64.wrap ((IntKind.i64.wrap (a4 + 1)) - a0)) else (0 : Int))), (if (IntKind.i64.wrap (a1 - 1)) < a5 then (IntKind.i64.wrap (a1 - 1)) else a5), IntKind.i64.wrap (a0 - 1), x11.1, x11.2.1, x11.2.2.1, x11.2.2.2)))
noncomputable def screen_work_edit_e36 (a0 : K86d9.T) (a1 : Int) (a2 : Int) (a3 : Int) (a4 : Int) (a5 : Bool) (a6 : Int) (a7 : Int) (a8 : Int) (a9 : Int) (a10 : Int) (a11 : Int) (a12 : Int) (a26 : Int) (a27 : Int) (a28 : Int) (a29 : Int) (a30 : List (List (Int × K72c5.T))) (a31 : List (List (Int × K72c5.T))) (a32 : List Int) : Option ((List (List (Int × K72c5.T))) × (List (List (Int × K72c5.T))) × Int × Int × Int × Int × Bool × Int × Int × Int × Int × Int × Int) :=
  req (0 ≤ a3 ∧ a3 < ((a30.length : Nat) : Int)) <|
  (a30[a3.toNat]?).bind fun x1 =>
  (bif a0.1 == 11 then
      some true
    else
      some false : Option (Bool)).bind fun x2 =>
  bif x2 then
    req (a32.length = a32.length) <|
    req (a31.length = a31.length) <|
    req (a30.length = a30.length) <|
    (screen_work_erase_28c a0.2.1 (a3, 0) (a3, a4) (a3, IntKind.i64.wrap (a2 - 1)) a6 a7 a8 a30).bind fun x3 =>
    req (a31.length = a31.length) (req (x3.length = x3.length) (some (x3, a31, a1, a2, a3, a4, a5, a9, a10, a26, a27, a28, a29)))
  else
    (bif a0.1 == 12 then
        some true
      else
        some false : Option (Bool)).bind fun x4 =>
    bif x4 then
      req (a32.length = a32.length) <|
      req (a31.length = a31.length) <|
      req (a30.length = a30.length) <|
      (screen_work_erase_28c a0.2.1 (0, 0) (a3, a4) (IntKind.i64.wrap (a1 - 1), IntKind.i64.wrap (a2 - 1)) a6 a7 a8 a30).bind fun x5 =>
      req (a31.length = a31.length) (req (x5.length = x5.length) (some (x5, a31, a1, a2, a3, a4, a5, a9, a10, a26, a27, a28, a29)))
    else
      (bif a0.1 == 13 then
          some true
        else
          some false : Option (Bool)).bind fun x6 =>
      bif x6 then
        (line_Insert x1 a4 a0.2.1 (a6, a7, a8)).bind fun x7 =>
        req (0 ≤ a3 ∧ a3 < ((a30.length : Nat) : Int)) <|
        (a30[a3.toNat]?).bind fun x8 =>
        req (a31.length = a31.length) (req (a30.length = (a30.set a3.toNat x7).length) (some (a30.set a3.toNat x7, a31, a1, a2, a3, a4, a5, a9, a10, a26, a27, a28, a29)))
      else
        (bif a0.1 == 14 then
            some true
          else
            some false : Option (Bool)).bind fun x9 =>
        bif x9 then
          (line_Delete x1 a4 a0.2.1 (a6, a7, a8)).bind fun x10 =>
          req (0 ≤ a3 ∧ a3 < ((a30.length : Nat) : Int)) <|
          (a30[a3.toNat]?).bind fun x11 =>
          req (a31.length = a31.length) (req (a30.length = (a30.set a3.toNat x10).length) (some (a30.set a3.toNat x10, a31, a1, a2, a3, a4, a5, a9, a10, a26, a27, a28, a29)))
        else
          (bif a0.1 == 15 then
              some true
            else
              some false : Option (Bool)).bind fun x12 =>
          bif x12 then
            (line_Erase x1 a4 (IntKind.i64.wrap (a4 + (if a0.2.1 > (0 : Int) then a0.2.1 else (0 : Int)))) (a6, a7, a8)).bind fun x13 =>
            req (0 ≤ a3 ∧ a3 < ((a30.length : Nat) : Int)) <|
            (a30[a3.toNat]?).bind fun x14 =>
            req (a31.length = a31.length) (req (a30.length = (a30.set a3.toNat x13).length) (some (a30.set a3.toNat x13, a31, a1, a2, a3, a4, a5, a9, a10, a26, a27, a28, a29)))
          else
            ((bif a0.1 == 16 then
                  some true
                else
                  some false : Option (Bool)).bind fun x16 =>
              bif x16 then
                some x16
              else
                bif a0.1 == 17 then
                  some true
                else
                  some false : Option (Bool)).bind fun x17 =>
            bif x17 then
              (bif decide (a3 < a9) then
                  some true
                else
                  bif decide (a3 > a10) then
                    some true
                  else
                    some false : Option (Bool)).bind fun x18 =>
              bif x18 then
                req (a31.length = a31.length) (req (a30.length = a30.length) (some (a30, a31, a1, a2, a3, a4, a5, a9, a10, a26, a27, a28, a29)))
              else
                ((bif a0.1 == 16 then
                      some true
                    else
                      some false : Option (Bool)).bind fun x20 =>
                  bif x20 then
                    some (IntKind.i64.wrap ((0 : Int) - (if a0.2.1 > (0 : Int) then a0.2.1 else (0 : Int))))
                  else
                    some (if a0.2.1 > (0 : Int) then a0.2.1 else (0 : Int)) : Option (Int)).bind fun x21 =>
                req (a32.length = a32.length) <|
                req (a31.length = a31.length) <|
                req (a30.length = a30.length) <|
                (screen_work_scroll_5c0 a3 x21 a6 a7 a8 a10 a30).bind fun x22 =>
                req (a31.length = a31.length) (req (x22.length = x22.length) (some (x22, a31, a1, a2, a3, 0, a5, a9, a10, a26, a27, a28, a29)))
            else
              (bif a0.1 == 18 then
                  some true
                else
                  some false : Option (Bool)).bind fun x23 =>
              bif x23 then
                req (a32.length = a32.length) <|
                req (a31.length = a31.length) <|
                req (a30.length = a30.length) <|
                (screen_work_scroll_5c0 a9 a0.2.1 a6 a7 a8 a10 a30).bind fun x24 =>
                req (a31.length = a31.length) (req (x24.length = x24.length) (some (x24, a31, a1, a2, a3, a4, a5, a9, a10, a26, a27, a28, a29)))
              else
                (bif a0.1 == 19 then
                    some true
                  else
                    some false : Option (Bool)).bind fun x25 =>
                bif x25 then
                  (bif decide (a0.2.1 ≥ 0) then
                      bif decide (a0.2.1 < a0.2.2.1) then
                        bif decide (a0.2.2.1 < a1) then
                          some true
                        else
                          some false
                      else
                        some false
                    else
                      some false : Option (Bool)).bind fun x26 =>
                  bif x26 then
                    req (a32.length = a32.length) <|
                    req (a31.length = a31.length) <|
                    req (a30.length = a30.length) <|
                    (screen_work_goTo_5c0 0 0 a1 a2 a0.2.1 a0.2.2.1 a11).bind fun x27 =>
                    req (a31.length = a31.length) (req (a30.length = a30.length) (some (a30, a31, a1, a2, x27.1, x27.2, false, a0.2.1, a0.2.2.1, a26, a27, a28, a29)))
                  else
                    req (a31.length = a31.length) (req (a30.length = a30.length) (some (a30, a31, a1, a2, a3, a4, a5, a9, a10, a26, a27, a28, a29)))
                else
                  (bif a0.1 == 23 then
                      some true
                    else
                      some false : Option (Bool)).bind fun x28 =>
                  bif x28 then
                    none
                  else
                    (bif a0.1 == 27 then
                        some true
                      else
                        some false : Option (Bool)).bind fun x29 =>
                    bif x29 then
                      (screen_between a0.2.1 1 200).bind fun x30 =>
                      (screen_between a0.2.2.1 1 200).bind fun x31 =>
                      req (a32.length = a32.length) <|
                      req (a31.length = a31.length) <|
                      req (a30.length = a30.length) <|
                      (screen_work_resize_5c0 x30 x31 a1 a2 a3 a4 a12 a26 a27 a28 a29 a30 a31).bind fun x32 =>
                      req (x32.2.1.length = x32.2.1.length) (req (x32.1.length = x32.1.length) (some (x32.1, x32.2.1, x32.2.2.1, x32.2.2.2.1, x32.2.2.2.2.1, x32.2.2.2.2.2.1, a5, 0, x32.2.2.2.2.2.2.1, x32.2.2.2.2.2.2.2.1, x32.2.2.2.2.2.2.2.2.1, x32.2.2.2.2.2.2.2.2.2.1, x32.2.2.2.2.2.2.2.2.2.2)))
                    else
                      req (a31.length = a31.length) (req (a30.length = a30.length) (some (a30, a31, a1, a2, a3, a4, a5, a9, a10, a26, a27, a28, a29)))
noncomputable def screen_work_change_e36_loop1 (a0 : K86d9.T) (x16 : Int × List Int) : Option (((List Int)) ⊕ (Int × List Int)) :=
    (bif decide (x16.1 < (a0.2.2.2.2.2.length : Int)) then
        some true
      else
        some false : Option (Bool)).bind fun x17 =>
    bif x17 then
      ((getI a0.2.2.2.2.2 x16.1).bind fun x22 =>
        ((cols_Of x22).bind fun x24 =>
          bif decide (x24 > 0) then
            bif decide (((x16.2.length : Nat) : Int) < 60) then
              some true
            else
              some false
          else
            some false : Option (Bool)).bind fun x25 =>
        bif x25 then
          req (x16.2.length = x16.2.length) <|
          req ((x16.2 ++ [x22]).length * 4 ≤ maxBy) <|
          req ((x16.2 ++ [x22]).length = (x16.2 ++ [x22]).length) (some (x16.2 ++ [x22]))
        else
          req (x16.2.length = x16.2.length) (some x16.2) : Option (List Int)).bind fun x26 =>
      req (x26.length = x26.length) (some (.inr (IntKind.i64.wrap (x16.1 + 1), x26)))
    else
      req (x16.2.length = x16.2.length) (some (.inl x16.2))
noncomputable def screen_work_change_e36 (a0 : K86d9.T) (a1 : Int) (a2 : Int) (a3 : Int) (a4 : Int) (a5 : Bool) (a6 : Int) (a7 : Int) (a8 : Int) (a9 : Int) (a10 : Int) (a11 : Int) (a12 : Int) (a13 : Int) (a14 : Int) (a15 : Int) (a16 : Int) (a17 : Bool) (a18 : Bool) (a19 : Int) (a20 : Int) (a21 : Int) (a22 : Int) (a23 : Int) (a24 : Bool) (a25 : Bool) (a26 : Int) (a27 : Int) (a28 : Int) (a29 : Int) (a30 : List (List (Int × K72c5.T))) (a31 : List (List (Int × K72c5.T))) (a32 : List Int) : Option ((List (List (Int × K72c5.T))) × (List (List (Int × K72c5.T))) × List Int × Int × Int × Int × Int × Bool × Int × Int × Int × Int × Int × Int × Int × Int × Int × Int × Int × Bool × Bool × Int × Int × Int × Int × Int × Bool × Bool × Int × Int × Int × Int) :=
  (bif a0.1 == 1 then
      some true
    else
      some false : Option (Bool)).bind fun x1 =>
  bif x1 then
    req (a32.length = a32.length) <|
    req (a31.length = a31.length) <|
    req (a30.length = a30.length) <|
    (screen_work_print_d8d a0.2.2.2.1 a1 a2 a3 a4 a5 a6 a7 a8 a9 a10 a11 a30 a31 a32).bind fun x2 =>
    req (a32.length = a32.length) (req (a31.length = a31.length) (req (x2.1.length = x2.1.length) (some (x2.1, a31, a32, a1, a2, x2.2.1, x2.2.2.1, x2.2.2.2, a6, a7, a8, a9, a10, a11, a12, a13, a14, a15, a16, a17, a18, a19, a20, a21, a22, a23, a24, a25, a26, a27, a28, a29))))
  else
    (bif a0.1 == 25 then
        some true
      else
        some false : Option (Bool)).bind fun x3 =>
    bif x3 then
      (pen_Apply (a6, a7, a8) a0.2.2.2.2.1).bind fun x4 =>
      req (a32.length = a32.length) (req (a31.length = a31.length) (req (a30.length = a30.length) (some (a30, a31, a32, a1, a2, a3, a4, a5, x4.1, x4.2.1, x4.2.2, a9, a10, a11, a12, a13, a14, a15, a16, a17, a18, a19, a20, a21, a22, a23, a24, a25, a26, a27, a28, a29))))
    else
      (bif a0.1 == 26 then
          some true
        else
          some false : Option (Bool)).bind fun x5 =>
      bif x5 then
        (loopO (screen_work_change_e36_loop1 a0) (0, [])).bind fun x27 =>
        req (x27.length = x27.length) (req (a31.length = a31.length) (req (a30.length = a30.length) (some (a30, a31, x27, a1, a2, a3, a4, a5, a6, a7, a8, a9, a10, a11, a12, a13, a14, a15, a16, a17, a18, a19, a20, a21, a22, a23, a24, a25, a26, a27, a28, a29))))
      else
        (bif a0.1 == 10 then
            some true
          else
            some false : Option (Bool)).bind fun x28 =>
        bif x28 then
          (bif a0.2.1 == 0 then
              some true
            else
              some false : Option (Bool)).bind fun x29 =>
          bif x29 then
            (tabs_Set (a26, a27, a28, a29) a4).bind fun x30 =>
            req (a32.length = a32.length) (req (a31.length = a31.length) (req (a30.length = a30.length) (some (a30, a31, a32, a1, a2, a3, a4, a5, a6, a7, a8, a9, a10, a11, a12, a13, a14, a15, a16, a17, a18, a19, a20, a21, a22, a23, a24, a25, x30.1, x30.2.1, x30.2.2.1, x30.2.2.2))))
          else
            (bif a0.2.1 == 1 then
                some true
              else
                some false : Option (Bool)).bind fun x31 =>
            bif x31 then
              (tabs_Clear (a26, a27, a28, a29) a4).bind fun x32 =>
              req (a32.length = a32.length) (req (a31.length = a31.length) (req (a30.length = a30.length) (some (a30, a31, a32, a1, a2, a3, a4, a5, a6, a7, a8, a9, a10, a11, a12, a13, a14, a15, a16, a17, a18, a19, a20, a21, a22, a23, a24, a25, x32.1, x32.2.1, x32.2.2.1, x32.2.2.2))))
            else
              (bif a0.2.1 == 2 then
                  some true
                else
                  some false : Option (Bool)).bind fun x33 =>
              bif x33 then
                req (a32.length = a32.length) (req (a31.length = a31.length) (req (a30.length = a30.length) (some (a30, a31, a32, a1, a2, a3, a4, a5, a6, a7, a8, a9, a10, a11, a12, a13, a14, a15, a16, a17, a18, a19, a20, a21, a22, a23, a24, a25, 0, 0, 0, 0))))
              else
                req (a32.length = a32.length) (req (a31.length = a31.length) (req (a30.length = a30.length) (some (a30, a31, a32, a1, a2, a3, a4, a5, a6, a7, a8, a9, a10, a11, a12, a13, a14, a15, a16, a17, a18, a19, a20, a21, a22, a23, a24, a25, a26, a27, a28, a29))))
        else
          (bif a0.1 == 21 then
              some true
            else
              some false : Option (Bool)).bind fun x34 =>
          bif x34 then
            req (a32.length = a32.length) <|
            req (a31.length = a31.length) <|
            req (a30.length = a30.length) <|
            (screen_work_save_a9a a3 a4 a5 a6 a7 a8 a11 a12 a13 a14 a15 a16 a17 a18 a19 a20 a21 a22 a23 a24 a25 a30 a31 a32).bind fun x35 =>
            req (a32.length = a32.length) (req (a31.length = a31.length) (req (a30.length = a30.length) (some (a30, a31, a32, a1, a2, a3, a4, a5, a6, a7, a8, a9, a10, a11, x35.1, x35.2.1, x35.2.2.1, x35.2.2.2.1, x35.2.2.2.2.1, x35.2.2.2.2.2.1, x35.2.2.2.2.2.2.1, x35.2.2.2.2.2.2.2.1, x35.2.2.2.2.2.2.2.2.1, x35.2.2.2.2.2.2.2.2.2.1, x35.2.2.2.2.2.2.2.2.2.2.1, x35.2.2.2.2.2.2.2.2.2.2.2.1, x35.2.2.2.2.2.2.2.2.2.2.2.2.1, x35.2.2.2.2.2.2.2.2.2.2.2.2.2, a26, a27, a28, a29))))
          else
            (bif a0.1 == 20 then
                some true
              else
                some false : Option (Bool)).bind fun x36 =>
            bif x36 then
              req (a32.length = a32.length) <|
              req (a31.length = a31.length) <|
              req (a30.length = a30.length) <|
              (screen_work_mode_906 a0.2.1 (a0.2.2.1 != 0) a1 a2 a3 a4 a5 a6 a7 a8 a9 a10 a11 a12 a13 a14 a15 a16 a17 a18 a19 a20 a21 a22 a23 a24 a25 a30 a31 a32).bind fun x37 =>
              req (a32.length = a32.length) (req (x37.2.1.length = x37.2.1.length) (req (x37.1.length = x37.1.length) (some (x37.1, x37.2.1, a32, a1, a2, x37.2.2.1, x37.2.2.2.1, x37.2.2.2.2.1, x37.2.2.2.2.2.1, x37.2.2.2.2.2.2.1, x37.2.2.2.2.2.2.2.1, a9, a10, x37.2.2.2.2.2.2.2.2.1, x37.2.2.2.2.2.2.2.2.2.1, x37.2.2.2.2.2.2.2.2.2.2.1, x37.2.2.2.2.2.2.2.2.2.2.2.1, x37.2.2.2.2.2.2.2.2.2.2.2.2.1, x37.2.2.2.2.2.2.2.2.2.2.2.2.2.1, x37.2.2.2.2.2.2.2.2.2.2.2.2.2.2.1, x37.2.2.2.2.2.2.2.2.2.2.2.2.2.2.2.1, x37.2.2.2.2.2.2.2.2.2.2.2.2.2.2.2.2.1, x37.2.2.2.2.2.2.2.2.2.2.2.2.2.2.2.2.2.1, x37.2.2.2.2.2.2.2.2.2.2.2.2.2.2.2.2.2.2.1, x37.2.2.2.2.2.2.2.2.2.2.2.2.2.2.2.2.2.2.2.1, x37.2.2.2.2.2.2.2.2.2.2.2.2.2.2.2.2.2.2.2.2.1, x37.2.2.2.2.2.2.2.2.2.2.2.2.2.2.2.2.2.2.2.2.2.1, x37.2.2.2.2.2.2.2.2.2.2.2.2.2.2.2.2.2.2.2.2.2.2, a26, a27, a28, a29))))
            else
              (bif a0.1 == 22 then
                  some true
                else
                  some false : Option (Bool)).bind fun x38 =>
              bif x38 then
                req (a32.length = a32.length) <|
                req (a31.length = a31.length) <|
                req (a30.length = a30.length) <|
                (screen_work_restore_a9a a1 a2 a11 a12 a13 a14 a15 a16 a17 a18 a19 a20 a21 a22 a23 a24 a25 a30 a31 a32).bind fun x39 =>
                req (a32.length = a32.length) (req (a31.length = a31.length) (req (a30.length = a30.length) (some (a30, a31, a32, a1, a2, x39.1, x39.2.1, x39.2.2.1, x39.2.2.2.1, x39.2.2.2.2.1, x39.2.2.2.2.2.1, a9, a10, x39.2.2.2.2.2.2, a12, a13, a14, a15, a16, a17, a18, a19, a20, a21, a22, a23, a24, a25, a26, a27, a28, a29))))
              else
                (bif a0.1 == 24 then
                    some true
                  else
                    some false : Option (Bool)).bind fun x40 =>
                bif x40 then
                  (screen_New_893 a1 a2).bind fun x41 =>
                  req (x41.2.2.2.2.2.2.2.2.2.length = x41.2.2.2.2.2.2.2.2.2.length) (some (x41.2.2.2.2.2.2.2.2.2, [], [], x41.1, x41.2.1, 0, 0, false, 0, 0, 0, 0, x41.2.2.1, x41.2.2.2.1, 0, 0, 0, 0, 0, false, false, 0, 0, 0, 0, 0, false, false, x41.2.2.2.2.1, x41.2.2.2.2.2.1, x41.2.2.2.2.2.2.1, x41.2.2.2.2.2.2.2.1))
                else
                  (bif decide (a0.1 ≥ 1) then
                      bif decide (a0.1 ≤ 27) then
                        some true
                      else
                        some false
                    else
                      some false : Option (Bool)).bind fun x42 =>
                  bif x42 then
                    req (a32.length = a32.length) <|
                    req (a31.length = a31.length) <|
                    req (a30.length = a30.length) <|
                    (screen_work_move_e36 a0 a1 a2 a3 a4 false a6 a7 a8 a9 a10 a11 a30 a31 a32).bind fun x43 =>
                    req (a32.length = a32.length) <|
                    req (a31.length = a31.length) <|
                    req (x43.1.length = x43.1.length) <|
                    (screen_work_edit_e36 a0 a1 a2 x43.2.1 x43.2.2.1 x43.2.2.2 a6 a7 a8 a9 a10 a11 a12 a26 a27 a28 a29 x43.1 a31 a32).bind fun x44 =>
                    req (a32.length = a32.length) (req (x44.2.1.length = x44.2.1.length) (req (x44.1.length = x44.1.length) (some (x44.1, x44.2.1, a32, x44.2.2.1, x44.2.2.2.1, x44.2.2.2.2.1, x44.2.2.2.2.2.1, x44.2.2.2.2.2.2.1, a6, a7, a8, x44.2.2.2.2.2.2.2.1, x44.2.2.2.2.2.2.2.2.1, a11, a12, a13, a14, a15, a16, a17, a18, a19, a20, a21, a22, a23, a24, a25, x44.2.2.2.2.2.2.2.2.2.1, x44.2.2.2.2.2.2.2.2.2.2.1, x44.2.2.2.2.2.2.2.2.2.2.2.1, x44.2.2.2.2.2.2.2.2.2.2.2.2))))
                  else
                    req (a32.length = a32.length) (req (a31.length = a31.length) (req (a30.length = a30.length) (some (a30, a31, a32, a1, a2, a3, a4, a5, a6, a7, a8, a9, a10, a11, a12, a13, a14, a15, a16, a17, a18, a19, a20, a21, a22, a23, a24, a25, a26, a27, a28, a29))))
noncomputable def screen_Do_loop1 (a1 : List K86d9.T) (x28 : Int × (List (List (Int × K72c5.T))) × (List (List (Int × K72c5.T))) × List Int × Int × Int × Int × Int × Bool × Int × Int × Int × Int × Int × Int × Int × Int × Int × Int × Int × Bool × Bool × Int × Int × Int × Int × Int × Bool × Bool × Int × Int × Int × Int) : Option ((((List (List (Int × K72c5.T))) × (List (List (Int × K72c5.T))) × List Int × Int × Int × Int × Int × Bool × Int × Int × Int × Int × Int × Int × Int × Int × Int × Int × Int × Bool × Bool × Int × Int × Int × Int × Int × Bool × Bool × Int × Int × Int × Int)) ⊕ (Int × (List (List (Int × K72c5.T))) × (List (List (Int × K72c5.T))) × List Int × Int × Int × Int × Int × Bool × Int × Int × Int × Int × Int × Int × Int × Int × Int × Int × Int × Bool × Bool × Int × Int × Int × Int × Int × Bool × Bool × Int × Int × Int × Int)) :=
    (bif decide (x28.1 < (a1.length : Int)) then
        some true
      else
        some false : Option (Bool)).bind fun x29 =>
    bif x29 then
      (getI a1 x28.1).bind fun x30 =>
      ((bif x30.1 != 20 then
            bif x30.1 != 27 then
              some true
            else
              some false
          else
            some false : Option (Bool)).bind fun x34 =>
        bif x34 then
          (screen_between x30.2.1 (-1000) 1000).bind fun x35 =>
          (screen_between x30.2.2.1 (-1000) 1000).bind fun x36 =>
          some (x35, x36)
        else
          some (x30.2.1, x30.2.2.1) : Option (Int × Int)).bind fun x37 =>
      req (x28.2.2.2.1.length = x28.2.2.2.1.length) <|
      req (x28.2.2.1.length = x28.2.2.1.length) <|
      req (x28.2.1.length = x28.2.1.length) <|
      (screen_work_change_e36 (x30.1, x37.1, x37.2, x30.2.2.2) x28.2.2.2.2.1 x28.2.2.2.2.2.1 x28.2.2.2.2.2.2.1 x28.2.2.2.2.2.2.2.1 x28.2.2.2.2.2.2.2.2.1 x28.2.2.2.2.2.2.2.2.2.1 x28.2.2.2.2.2.2.2.2.2.2.1 x28.2.2.2.2.2.2.2.2.2.2.2.1 x28.2.2.2.2.2.2.2.2.2.2.2.2.1 x28.2.2.2.2.2.2.2.2.2.2.2.2.2.1 x28.2.2.2.2.2.2.2.2.2.2.2.2.2.2.1 x28.2.2.2.2.2.2.2.2.2.2.2.2.2.2.2.1 x28.2.2.2.2.2.2.2.2.2.2.2.2.2.2.2.2.1 x28.2.2.2.2.2.2.2.2.2.2.2.2.2.2.2.2.2.1 x28.2.2.2.2.2.2.2.2.2.2.2.2.2.2.2.2.2.2.1 x28.2.2.2.2.2.2.2.2.2.2.2.2.2.2.2.2.2.2.2.1 x28.2.2.2.2.2.2.2.2.2.2.2.2.2.2.2.2.2.2.2.2.1 x28.2.2.2.2.2.2.2.2.2.2.2.2.2.2.2.2.2.2.2.2.2.1 x28.2.2.2.2.2.2.2.2.2.2.2.2.2.2.2.2.2.2.2.2.2.2.1 x28.2.2.2.2.2.2.2.2.2.2.2.2.2.2.2.2.2.2.2.2.2.2.2.1 x28.2.2.2.2.2.2.2.2.2.2.2.2.2.2.2.2.2.2.2.2.2.2.2.2.1 x28.2.2.2.2.2.2.2.2.2.2.2.2.2.2.2.2.2.2.2.2.2.2.2.2.2.1 x28.2.2.2.2.2.2.2.2.2.2.2.2.2.2.2.2.2.2.2.2.2.2.2.2.2.2.1 x28.2.2.2.2.2.2.2.2.2.2.2.2.2.2.2.2.2.2.2.2.2.2.2.2.2.2.2.1 x28.2.2.2.2.2.2.2.2.2.2.2.2.2.2.2.2.2.2.2.2.2.2.2.2.2.2.2.2.1 x28.2.2.2.2.2.2.2.2.2.2.2.2.2.2.2.2.2.2.2.2.2.2.2.2.2.2.2.2.2.1 x28.2.2.2.2.2.2.2.2.2.2.2.2.2.2.2.2.2.2.2.2.2.2.2.2.2.2.2.2.2.2.1 x28.2.2.2.2.2.2.2.2.2.2.2.2.2.2.2.2.2.2.2.2.2.2.2.2.2.2.2.2.2.2.2.1 x28.2.2.2.2.2.2.2.2.2.2.2.2.2.2.2.2.2.2.2.2.2.2.2.2.2.2.2.2.2.2.2.2 x28.2.1 x28.2.2.1 x28.2.2.2.1).bind fun x38 =>
      req (x38.2.2.1.length = x38.2.2.1.length) (req (x38.2.1.length = x38.2.1.length) (req (x38.1.length = x38.1.length) (some (.inr (IntKind.i64.wrap (x28.1 + 1), x38.1, x38.2.1, x38.2.2.1, x38.2.2.2.1, x38.2.2.2.2.1, x38.2.2.2.2.2.1, x38.2.2.2.2.2.2.1, x38.2.2.2.2.2.2.2.1, x38.2.2.2.2.2.2.2.2.1, x38.2.2.2.2.2.2.2.2.2.1, x38.2.2.2.2.2.2.2.2.2.2.1, x38.2.2.2.2.2.2.2.2.2.2.2.1, x38.2.2.2.2.2.2.2.2.2.2.2.2.1, x38.2.2.2.2.2.2.2.2.2.2.2.2.2.1, x38.2.2.2.2.2.2.2.2.2.2.2.2.2.2.1, x38.2.2.2.2.2.2.2.2.2.2.2.2.2.2.2.1, x38.2.2.2.2.2.2.2.2.2.2.2.2.2.2.2.2.1, x38.2.2.2.2.2.2.2.2.2.2.2.2.2.2.2.2.2.1, x38.2.2.2.2.2.2.2.2.2.2.2.2.2.2.2.2.2.2.1, x38.2.2.2.2.2.2.2.2.2.2.2.2.2.2.2.2.2.2.2.1, x38.2.2.2.2.2.2.2.2.2.2.2.2.2.2.2.2.2.2.2.2.1, x38.2.2.2.2.2.2.2.2.2.2.2.2.2.2.2.2.2.2.2.2.2.1, x38.2.2.2.2.2.2.2.2.2.2.2.2.2.2.2.2.2.2.2.2.2.2.1, x38.2.2.2.2.2.2.2.2.2.2.2.2.2.2.2.2.2.2.2.2.2.2.2.1, x38.2.2.2.2.2.2.2.2.2.2.2.2.2.2.2.2.2.2.2.2.2.2.2.2.1, x38.2.2.2.2.2.2.2.2.2.2.2.2.2.2.2.2.2.2.2.2.2.2.2.2.2.1, x38.2.2.2.2.2.2.2.2.2.2.2.2.2.2.2.2.2.2.2.2.2.2.2.2.2.2.1, x38.2.2.2.2.2.2.2.2.2.2.2.2.2.2.2.2.2.2.2.2.2.2.2.2.2.2.2.1, x38.2.2.2.2.2.2.2.2.2.2.2.2.2.2.2.2.2.2.2.2.2.2.2.2.2.2.2.2.1, x38.2.2.2.2.2.2.2.2.2.2.2.2.2.2.2.2.2.2.2.2.2.2.2.2.2.2.2.2.2.1, x38.2.2.2.2.2.2.2.2.2.2.2.2.2.2.2.2.2.2.2.2.2.2.2.2.2.2.2.2.2.2.1, x38.2.2.2.2.2.2.2.2.2.2.2.2.2.2.2.2.2.2.2.2.2.2.2.2.2.2.2.2.2.2.2)))))
    else
      req (x28.2.2.2.1.length = x28.2.2.2.1.length) (req (x28.2.2.1.length = x28.2.2.1.length) (req (x28.2.1.length = x28.2.1.length) (some (.inl (x28.2.1, x28.2.2.1, x28.2.2.2.1, x28.2.2.2.2.1, x28.2.2.2.2.2.1, x28.2.2.2.2.2.2.1, x28.2.2.2.2.2.2.2.1, x28.2.2.2.2.2.2.2.2.1, x28.2.2.2.2.2.2.2.2.2.1, x28.2.2.2.2.2.2.2.2.2.2.1, x28.2.2.2.2.2.2.2.2.2.2.2.1, x28.2.2.2.2.2.2.2.2.2.2.2.2.1, x28.2.2.2.2.2.2.2.2.2.2.2.2.2.1, x28.2.2.2.2.2.2.2.2.2.2.2.2.2.2.1, x28.2.2.2.2.2.2.2.2.2.2.2.2.2.2.2.1, x28.2.2.2.2.2.2.2.2.2.2.2.2.2.2.2.2.1, x28.2.2.2.2.2.2.2.2.2.2.2.2.2.2.2.2.2.1, x28.2.2.2.2.2.2.2.2.2.2.2.2.2.2.2.2.2.2.1, x28.2.2.2.2.2.2.2.2.2.2.2.2.2.2.2.2.2.2.2.1, x28.2.2.2.2.2.2.2.2.2.2.2.2.2.2.2.2.2.2.2.2.1, x28.2.2.2.2.2.2.2.2.2.2.2.2.2.2.2.2.2.2.2.2.2.1, x28.2.2.2.2.2.2.2.2.2.2.2.2.2.2.2.2.2.2.2.2.2.2.1, x28.2.2.2.2.2.2.2.2.2.2.2.2.2.2.2.2.2.2.2.2.2.2.2.1, x28.2.2.2.2.2.2.2.2.2.2.2.2.2.2.2.2.2.2.2.2.2.2.2.2.1, x28.2.2.2.2.2.2.2.2.2.2.2.2.2.2.2.2.2.2.2.2.2.2.2.2.2.1, x28.2.2.2.2.2.2.2.2.2.2.2.2.2.2.2.2.2.2.2.2.2.2.2.2.2.2.1, x28.2.2.2.2.2.2.2.2.2.2.2.2.2.2.2.2.2.2.2.2.2.2.2.2.2.2.2.1, x28.2.2.2.2.2.2.2.2.2.2.2.2.2.2.2.2.2.2.2.2.2.2.2.2.2.2.2.2.1, x28.2.2.2.2.2.2.2.2.2.2.2.2.2.2.2.2.2.2.2.2.2.2.2.2.2.2.2.2.2.1, x28.2.2.2.2.2.2.2.2.2.2.2.2.2.2.2.2.2.2.2.2.2.2.2.2.2.2.2.2.2.2.1, x28.2.2.2.2.2.2.2.2.2.2.2.2.2.2.2.2.2.2.2.2.2.2.2.2.2.2.2.2.2.2.2.1, x28.2.2.2.2.2.2.2.2.2.2.2.2.2.2.2.2.2.2.2.2.2.2.2.2.2.2.2.2.2.2.2.2)))))
noncomputable def screen_Do (a0 : Int × Int × K05d1.T) (a1 : List K86d9.T) : Option ((Int × Int × K05d1.T)) :=
  ((screen_May a0).bind fun x2 =>
    bif !x2 then
      some true
    else
      some false : Option (Bool)).bind fun x3 =>
  bif x3 then
    some (0, 0, [], [], 0, 0, false, (0, 0, 0), 0, 0, 0, ((0, 0, (0, 0, 0), false, false), 0, 0, (0, 0, 0), false, false), (0, 0, 0, 0), [])
  else
    (screen_copied_82d a0.2.2.1).bind fun x4 =>
    (screen_copied_82d a0.2.2.2.1).bind fun x5 =>
    (slices_Clone_b44 a0.2.2.2.2.2.2.2.2.2.2.2.2.2).bind fun x6 =>
    req (x6.length = x6.length) (req (x5.length = x5.length) (req (x4.length = x4.length) ((loopO (screen_Do_loop1 a1) (0, x4, x5, x6, a0.1, a0.2.1, a0.2.2.2.2.1, a0.2.2.2.2.2.1, a0.2.2.2.2.2.2.1, a0.2.2.2.2.2.2.2.1.1, a0.2.2.2.2.2.2.2.1.2.1, a0.2.2.2.2.2.2.2.1.2.2, a0.2.2.2.2.2.2.2.2.1, a0.2.2.2.2.2.2.2.2.2.1, a0.2.2.2.2.2.2.2.2.2.2.1, a0.2.2.2.2.2.2.2.2.2.2.2.1.1.1, a0.2.2.2.2.2.2.2.2.2.2.2.1.1.2.1, a0.2.2.2.2.2.2.2.2.2.2.2.1.1.2.2.1.1, a0.2.2.2.2.2.2.2.2.2.2.2.1.1.2.2.1.2.1, a0.2.2.2.2.2.2.2.2.2.2.2.1.1.2.2.1.2.2, a0.2.2.2.2.2.2.2.2.2.2.2.1.1.2.2.2.1, a0.2.2.2.2.2.2.2.2.2.2.2.1.1.2.2.2.2, a0.2.2.2.2.2.2.2.2.2.2.2.1.2.1, a0.2.2.2.2.2.2.2.2.2.2.2.1.2.2.1, a0.2.2.2.2.2.2.2.2.2.2.2.1.2.2.2.1.1, a0.2.2.2.2.2.2.2.2.2.2.2.1.2.2.2.1.2.1, a0.2.2.2.2.2.2.2.2.2.2.2.1.2.2.2.1.2.2, a0.2.2.2.2.2.2.2.2.2.2.2.1.2.2.2.2.1, a0.2.2.2.2.2.2.2.2.2.2.2.1.2.2.2.2.2, a0.2.2.2.2.2.2.2.2.2.2.2.2.1.1, a0.2.2.2.2.2.2.2.2.2.2.2.2.1.2.1, a0.2.2.2.2.2.2.2.2.2.2.2.2.1.2.2.1, a0.2.2.2.2.2.2.2.2.2.2.2.2.1.2.2.2)).bind fun x39 =>
    req (x39.1.length = x39.1.length) (req (x39.2.1.length = x39.2.1.length) (req (x39.2.2.1.length = x39.2.2.1.length) (some (x39.2.2.2.1, x39.2.2.2.2.1, x39.1, x39.2.1, x39.2.2.2.2.2.1, x39.2.2.2.2.2.2.1, x39.2.2.2.2.2.2.2.1, (x39.2.2.2.2.2.2.2.2.1, x39.2.2.2.2.2.2.2.2.2.1, x39.2.2.2.2.2.2.2.2.2.2.1), x39.2.2.2.2.2.2.2.2.2.2.2.1, x39.2.2.2.2.2.2.2.2.2.2.2.2.1, x39.2.2.2.2.2.2.2.2.2.2.2.2.2.1, ((x39.2.2.2.2.2.2.2.2.2.2.2.2.2.2.1, x39.2.2.2.2.2.2.2.2.2.2.2.2.2.2.2.1, (x39.2.2.2.2.2.2.2.2.2.2.2.2.2.2.2.2.1, x39.2.2.2.2.2.2.2.2.2.2.2.2.2.2.2.2.2.1, x39.2.2.2.2.2.2.2.2.2.2.2.2.2.2.2.2.2.2.1), x39.2.2.2.2.2.2.2.2.2.2.2.2.2.2.2.2.2.2.2.1, x39.2.2.2.2.2.2.2.2.2.2.2.2.2.2.2.2.2.2.2.2.1), x39.2.2.2.2.2.2.2.2.2.2.2.2.2.2.2.2.2.2.2.2.2.1, x39.2.2.2.2.2.2.2.2.2.2.2.2.2.2.2.2.2.2.2.2.2.2.1, (x39.2.2.2.2.2.2.2.2.2.2.2.2.2.2.2.2.2.2.2.2.2.2.2.1, x39.2.2.2.2.2.2.2.2.2.2.2.2.2.2.2.2.2.2.2.2.2.2.2.2.1, x39.2.2.2.2.2.2.2.2.2.2.2.2.2.2.2.2.2.2.2.2.2.2.2.2.2.1), x39.2.2.2.2.2.2.2.2.2.2.2.2.2.2.2.2.2.2.2.2.2.2.2.2.2.2.1, x39.2.2.2.2.2.2.2.2.2.2.2.2.2.2.2.2.2.2.2.2.2.2.2.2.2.2.2.1), x39.2.2.2.2.2.2.2.2.2.2.2.2.2.2.2.2.2.2.2.2.2.2.2.2.2.2.2.2, x39.2.2.1)))))))
noncomputable def oriellaw17_typed_loop1 (a2 : List Int) (x6 : Int × Int × Int × (List (List (Int × K72c5.T))) × (List (List (Int × K72c5.T))) × Int × Int × Bool × Int × Int × Int × Int × Int × Int × Int × Int × Int × Int × Int × Bool × Bool × Int × Int × Int × Int × Int × Bool × Bool × Int × Int × Int × Int × List Int) : Option (((Int × Int × (List (List (Int × K72c5.T))) × (List (List (Int × K72c5.T))) × Int × Int × Bool × Int × Int × Int × Int × Int × Int × Int × Int × Int × Int × Int × Bool × Bool × Int × Int × Int × Int × Int × Bool × Bool × Int × Int × Int × Int × List Int)) ⊕ (Int × Int × Int × (List (List (Int × K72c5.T))) × (List (List (Int × K72c5.T))) × Int × Int × Bool × Int × Int × Int × Int × Int × Int × Int × Int × Int × Int × Int × Bool × Bool × Int × Int × Int × Int × Int × Bool × Bool × Int × Int × Int × Int × List Int)) :=
    (bif decide (x6.1 < (a2.length : Int)) then
        some true
      else
        some false : Option (Bool)).bind fun x7 =>
    bif x7 then
      (getI a2 x6.1).bind fun x8 =>
      (screen_Do (x6.2.1, x6.2.2.1, x6.2.2.2.1, x6.2.2.2.2.1, x6.2.2.2.2.2.1, x6.2.2.2.2.2.2.1, x6.2.2.2.2.2.2.2.1, (x6.2.2.2.2.2.2.2.2.1, x6.2.2.2.2.2.2.2.2.2.1, x6.2.2.2.2.2.2.2.2.2.2.1), x6.2.2.2.2.2.2.2.2.2.2.2.1, x6.2.2.2.2.2.2.2.2.2.2.2.2.1, x6.2.2.2.2.2.2.2.2.2.2.2.2.2.1, ((x6.2.2.2.2.2.2.2.2.2.2.2.2.2.2.1, x6.2.2.2.2.2.2.2.2.2.2.2.2.2.2.2.1, (x6.2.2.2.2.2.2.2.2.2.2.2.2.2.2.2.2.1, x6.2.2.2.2.2.2.2.2.2.2.2.2.2.2.2.2.2.1, x6.2.2.2.2.2.2.2.2.2.2.2.2.2.2.2.2.2.2.1), x6.2.2.2.2.2.2.2.2.2.2.2.2.2.2.2.2.2.2.2.1, x6.2.2.2.2.2.2.2.2.2.2.2.2.2.2.2.2.2.2.2.2.1), x6.2.2.2.2.2.2.2.2.2.2.2.2.2.2.2.2.2.2.2.2.2.1, x6.2.2.2.2.2.2.2.2.2.2.2.2.2.2.2.2.2.2.2.2.2.2.1, (x6.2.2.2.2.2.2.2.2.2.2.2.2.2.2.2.2.2.2.2.2.2.2.2.1, x6.2.2.2.2.2.2.2.2.2.2.2.2.2.2.2.2.2.2.2.2.2.2.2.2.1, x6.2.2.2.2.2.2.2.2.2.2.2.2.2.2.2.2.2.2.2.2.2.2.2.2.2.1), x6.2.2.2.2.2.2.2.2.2.2.2.2.2.2.2.2.2.2.2.2.2.2.2.2.2.2.1, x6.2.2.2.2.2.2.2.2.2.2.2.2.2.2.2.2.2.2.2.2.2.2.2.2.2.2.2.1), (x6.2.2.2.2.2.2.2.2.2.2.2.2.2.2.2.2.2.2.2.2.2.2.2.2.2.2.2.2.1, x6.2.2.2.2.2.2.2.2.2.2.2.2.2.2.2.2.2.2.2.2.2.2.2.2.2.2.2.2.2.1, x6.2.2.2.2.2.2.2.2.2.2.2.2.2.2.2.2.2.2.2.2.2.2.2.2.2.2.2.2.2.2.1, x6.2.2.2.2.2.2.2.2.2.2.2.2.2.2.2.2.2.2.2.2.2.2.2.2.2.2.2.2.2.2.2.1), x6.2.2.2.2.2.2.2.2.2.2.2.2.2.2.2.2.2.2.2.2.2.2.2.2.2.2.2.2.2.2.2.2) [(1, 0, 0, x8, [], [])]).bind fun x9 =>
      some (.inr (IntKind.i64.wrap (x6.1 + 1), x9.1, x9.2.1, x9.2.2.1, x9.2.2.2.1, x9.2.2.2.2.1, x9.2.2.2.2.2.1, x9.2.2.2.2.2.2.1, x9.2.2.2.2.2.2.2.1.1, x9.2.2.2.2.2.2.2.1.2.1, x9.2.2.2.2.2.2.2.1.2.2, x9.2.2.2.2.2.2.2.2.1, x9.2.2.2.2.2.2.2.2.2.1, x9.2.2.2.2.2.2.2.2.2.2.1, x9.2.2.2.2.2.2.2.2.2.2.2.1.1.1, x9.2.2.2.2.2.2.2.2.2.2.2.1.1.2.1, x9.2.2.2.2.2.2.2.2.2.2.2.1.1.2.2.1.1, x9.2.2.2.2.2.2.2.2.2.2.2.1.1.2.2.1.2.1, x9.2.2.2.2.2.2.2.2.2.2.2.1.1.2.2.1.2.2, x9.2.2.2.2.2.2.2.2.2.2.2.1.1.2.2.2.1, x9.2.2.2.2.2.2.2.2.2.2.2.1.1.2.2.2.2, x9.2.2.2.2.2.2.2.2.2.2.2.1.2.1, x9.2.2.2.2.2.2.2.2.2.2.2.1.2.2.1, x9.2.2.2.2.2.2.2.2.2.2.2.1.2.2.2.1.1, x9.2.2.2.2.2.2.2.2.2.2.2.1.2.2.2.1.2.1, x9.2.2.2.2.2.2.2.2.2.2.2.1.2.2.2.1.2.2, x9.2.2.2.2.2.2.2.2.2.2.2.1.2.2.2.2.1, x9.2.2.2.2.2.2.2.2.2.2.2.1.2.2.2.2.2, x9.2.2.2.2.2.2.2.2.2.2.2.2.1.1, x9.2.2.2.2.2.2.2.2.2.2.2.2.1.2.1, x9.2.2.2.2.2.2.2.2.2.2.2.2.1.2.2.1, x9.2.2.2.2.2.2.2.2.2.2.2.2.1.2.2.2, x9.2.2.2.2.2.2.2.2.2.2.2.2.2))
    else
      some (.inl (x6.2.1, x6.2.2.1, x6.2.2.2.1, x6.2.2.2.2.1, x6.2.2.2.2.2.1, x6.2.2.2.2.2.2.1, x6.2.2.2.2.2.2.2.1, x6.2.2.2.2.2.2.2.2.1, x6.2.2.2.2.2.2.2.2.2.1, x6.2.2.2.2.2.2.2.2.2.2.1, x6.2.2.2.2.2.2.2.2.2.2.2.1, x6.2.2.2.2.2.2.2.2.2.2.2.2.1, x6.2.2.2.2.2.2.2.2.2.2.2.2.2.1, x6.2.2.2.2.2.2.2.2.2.2.2.2.2.2.1, x6.2.2.2.2.2.2.2.2.2.2.2.2.2.2.2.1, x6.2.2.2.2.2.2.2.2.2.2.2.2.2.2.2.2.1, x6.2.2.2.2.2.2.2.2.2.2.2.2.2.2.2.2.2.1, x6.2.2.2.2.2.2.2.2.2.2.2.2.2.2.2.2.2.2.1, x6.2.2.2.2.2.2.2.2.2.2.2.2.2.2.2.2.2.2.2.1, x6.2.2.2.2.2.2.2.2.2.2.2.2.2.2.2.2.2.2.2.2.1, x6.2.2.2.2.2.2.2.2.2.2.2.2.2.2.2.2.2.2.2.2.2.1, x6.2.2.2.2.2.2.2.2.2.2.2.2.2.2.2.2.2.2.2.2.2.2.1, x6.2.2.2.2.2.2.2.2.2.2.2.2.2.2.2.2.2.2.2.2.2.2.2.1, x6.2.2.2.2.2.2.2.2.2.2.2.2.2.2.2.2.2.2.2.2.2.2.2.2.1, x6.2.2.2.2.2.2.2.2.2.2.2.2.2.2.2.2.2.2.2.2.2.2.2.2.2.1, x6.2.2.2.2.2.2.2.2.2.2.2.2.2.2.2.2.2.2.2.2.2.2.2.2.2.2.1, x6.2.2.2.2.2.2.2.2.2.2.2.2.2.2.2.2.2.2.2.2.2.2.2.2.2.2.2.1, x6.2.2.2.2.2.2.2.2.2.2.2.2.2.2.2.2.2.2.2.2.2.2.2.2.2.2.2.2.1, x6.2.2.2.2.2.2.2.2.2.2.2.2.2.2.2.2.2.2.2.2.2.2.2.2.2.2.2.2.2.1, x6.2.2.2.2.2.2.2.2.2.2.2.2.2.2.2.2.2.2.2.2.2.2.2.2.2.2.2.2.2.2.1, x6.2.2.2.2.2.2.2.2.2.2.2.2.2.2.2.2.2.2.2.2.2.2.2.2.2.2.2.2.2.2.2.1, x6.2.2.2.2.2.2.2.2.2.2.2.2.2.2.2.2.2.2.2.2.2.2.2.2.2.2.2.2.2.2.2.2))
noncomputable def oriellaw17_typed (a0 : Int) (a1 : Int) (a2 : List Int) : Option ((Int × Int × K05d1.T)) :=
  (screen_New a0 a1).bind fun x1 =>
  (bif x1.2 != 0 then
      some true
    else
      some false : Option (Bool)).bind fun x2 =>
  bif x2 then
    some (0, 0, [], [], 0, 0, false, (0, 0, 0), 0, 0, 0, ((0, 0, (0, 0, 0), false, false), 0, 0, (0, 0, 0), false, false), (0, 0, 0, 0), [])
  else
    (loopO (oriellaw17_typed_loop1 a2) (0, x1.1.1, x1.1.2.1, x1.1.2.2.1, x1.1.2.2.2.1, x1.1.2.2.2.2.1, x1.1.2.2.2.2.2.1, x1.1.2.2.2.2.2.2.1, x1.1.2.2.2.2.2.2.2.1.1, x1.1.2.2.2.2.2.2.2.1.2.1, x1.1.2.2.2.2.2.2.2.1.2.2, x1.1.2.2.2.2.2.2.2.2.1, x1.1.2.2.2.2.2.2.2.2.2.1, x1.1.2.2.2.2.2.2.2.2.2.2.1, x1.1.2.2.2.2.2.2.2.2.2.2.2.1.1.1, x1.1.2.2.2.2.2.2.2.2.2.2.2.1.1.2.1, x1.1.2.2.2.2.2.2.2.2.2.2.2.1.1.2.2.1.1, x1.1.2.2.2.2.2.2.2.2.2.2.2.1.1.2.2.1.2.1, x1.1.2.2.2.2.2.2.2.2.2.2.2.1.1.2.2.1.2.2, x1.1.2.2.2.2.2.2.2.2.2.2.2.1.1.2.2.2.1, x1.1.2.2.2.2.2.2.2.2.2.2.2.1.1.2.2.2.2, x1.1.2.2.2.2.2.2.2.2.2.2.2.1.2.1, x1.1.2.2.2.2.2.2.2.2.2.2.2.1.2.2.1, x1.1.2.2.2.2.2.2.2.2.2.2.2.1.2.2.2.1.1, x1.1.2.2.2.2.2.2.2.2.2.2.2.1.2.2.2.1.2.1, x1.1.2.2.2.2.2.2.2.2.2.2.2.1.2.2.2.1.2.2, x1.1.2.2.2.2.2.2.2.2.2.2.2.1.2.2.2.2.1, x1.1.2.2.2.2.2.2.2.2.2.2.2.1.2.2.2.2.2, x1.1.2.2.2.2.2.2.2.2.2.2.2.2.1.1, x1.1.2.2.2.2.2.2.2.2.2.2.2.2.1.2.1, x1.1.2.2.2.2.2.2.2.2.2.2.2.2.1.2.2.1, x1.1.2.2.2.2.2.2.2.2.2.2.2.2.1.2.2.2, x1.1.2.2.2.2.2.2.2.2.2.2.2.2.2)).bind fun x10 =>
    some (x10.1, x10.2.1, x10.2.2.1, x10.2.2.2.1, x10.2.2.2.2.1, x10.2.2.2.2.2.1, x10.2.2.2.2.2.2.1, (x10.2.2.2.2.2.2.2.1, x10.2.2.2.2.2.2.2.2.1, x10.2.2.2.2.2.2.2.2.2.1), x10.2.2.2.2.2.2.2.2.2.2.1, x10.2.2.2.2.2.2.2.2.2.2.2.1, x10.2.2.2.2.2.2.2.2.2.2.2.2.1, ((x10.2.2.2.2.2.2.2.2.2.2.2.2.2.1, x10.2.2.2.2.2.2.2.2.2.2.2.2.2.2.1, (x10.2.2.2.2.2.2.2.2.2.2.2.2.2.2.2.1, x10.2.2.2.2.2.2.2.2.2.2.2.2.2.2.2.2.1, x10.2.2.2.2.2.2.2.2.2.2.2.2.2.2.2.2.2.1), x10.2.2.2.2.2.2.2.2.2.2.2.2.2.2.2.2.2.2.1, x10.2.2.2.2.2.2.2.2.2.2.2.2.2.2.2.2.2.2.2.1), x10.2.2.2.2.2.2.2.2.2.2.2.2.2.2.2.2.2.2.2.2.1, x10.2.2.2.2.2.2.2.2.2.2.2.2.2.2.2.2.2.2.2.2.2.1, (x10.2.2.2.2.2.2.2.2.2.2.2.2.2.2.2.2.2.2.2.2.2.2.1, x10.2.2.2.2.2.2.2.2.2.2.2.2.2.2.2.2.2.2.2.2.2.2.2.1, x10.2.2.2.2.2.2.2.2.2.2.2.2.2.2.2.2.2.2.2.2.2.2.2.2.1), x10.2.2.2.2.2.2.2.2.2.2.2.2.2.2.2.2.2.2.2.2.2.2.2.2.2.1, x10.2.2.2.2.2.2.2.2.2.2.2.2.2.2.2.2.2.2.2.2.2.2.2.2.2.2.1), (x10.2.2.2.2.2.2.2.2.2.2.2.2.2.2.2.2.2.2.2.2.2.2.2.2.2.2.2.1, x10.2.2.2.2.2.2.2.2.2.2.2.2.2.2.2.2.2.2.2.2.2.2.2.2.2.2.2.2.1, x10.2.2.2.2.2.2.2.2.2.2.2.2.2.2.2.2.2.2.2.2.2.2.2.2.2.2.2.2.2.1, x10.2.2.2.2.2.2.2.2.2.2.2.2.2.2.2.2.2.2.2.2.2.2.2.2.2.2.2.2.2.2.1), x10.2.2.2.2.2.2.2.2.2.2.2.2.2.2.2.2.2.2.2.2.2.2.2.2.2.2.2.2.2.2.2)
noncomputable def orielref15_Text_loop1 (a0 : List (Int × K72c5.T)) (x8 : Int) : Option (((Int)) ⊕ (Int)) :=
    (bif decide (x8 > 0) then
        (getI a0 (IntKind.i64.wrap (x8 - 1))).bind fun x12 =>
        bif x12.2.2.1 == 0 then
          (getI a0 (IntKind.i64.wrap (x8 - 1))).bind fun x13 =>
          bif x13.1 == 32 then
            (getI a0 (IntKind.i64.wrap (x8 - 1))).bind fun x14 =>
            bif x14.2.1.1 == 0 then
              some true
            else
              some false
          else
            some false
        else
          some false
      else
        some false : Option (Bool)).bind fun x15 =>
    bif x15 then
      some (.inr (IntKind.i64.wrap (x8 - 1)))
    else
      some (.inl x8)
noncomputable def orielref15_Text_loop4 (a0 : List (Int × K72c5.T)) (x69 : Int × List Int) (x109 : Int × List Int) : Option (((List Int)) ⊕ (Int × List Int)) :=
    (bif decide (x109.1 < 2) then
        some true
      else
        some false : Option (Bool)).bind fun x110 =>
    bif x110 then
      (((getI a0 x69.1).bind fun x116 =>
          bif x109.1 == 0 then
            bif x116.2.1.1 != 0 then
              some true
            else
              some false
          else
            bif x109.1 == 1 then
              bif x116.2.1.2 != 0 then
                some true
              else
                some false
            else
              none : Option (Bool)).bind fun x117 =>
        bif x117 then
          (getI a0 x69.1).bind fun x118 =>
          bif x109.1 == 0 then
            req (x109.2.length = x109.2.length) <|
            req ((x109.2 ++ [x118.2.1.1]).length * 4 ≤ maxBy) <|
            req ((x109.2 ++ [x118.2.1.1]).length = (x109.2 ++ [x118.2.1.1]).length) (some (x109.2 ++ [x118.2.1.1]))
          else
            bif x109.1 == 1 then
              req (x109.2.length = x109.2.length) <|
              req ((x109.2 ++ [x118.2.1.2]).length * 4 ≤ maxBy) <|
              req ((x109.2 ++ [x118.2.1.2]).length = (x109.2 ++ [x118.2.1.2]).length) (some (x109.2 ++ [x118.2.1.2]))
            else
              none
        else
          req (x109.2.length = x109.2.length) (some x109.2) : Option (List Int)).bind fun x119 =>
      req (x119.length = x119.length) (some (.inr (IntKind.i64.wrap (x109.1 + 1), x119)))
    else
      req (x109.2.length = x109.2.length) (some (.inl x109.2))
noncomputable def orielref15_Text_loop2 (x16 : Int) (a0 : List (Int × K72c5.T)) (x69 : Int × List Int) : Option (((List Int)) ⊕ (Int × List Int)) :=
    (bif decide (x69.1 < x16) then
        some true
      else
        some false : Option (Bool)).bind fun x70 =>
    bif x70 then
      (((getI a0 x69.1).bind fun x97 =>
          bif x97.2.2.1 == 2 then
            some true
          else
            some false : Option (Bool)).bind fun x98 =>
        bif x98 then
          req (x69.2.length = x69.2.length) (some x69.2)
        else
          (getI a0 x69.1).bind fun x99 =>
          req (x69.2.length = x69.2.length) <|
          req ((x69.2 ++ [x99.1]).length * 4 ≤ maxBy) <|
          req ((x69.2 ++ [x99.1]).length = (x69.2 ++ [x99.1]).length) ((loopO (orielref15_Text_loop4 a0 x69) (0, x69.2 ++ [x99.1])).bind fun x120 =>
          req (x120.length = x120.length) (some x120)) : Option (List Int)).bind fun x121 =>
      req (x121.length = x121.length) (some (.inr (IntKind.i64.wrap (x69.1 + 1), x121)))
    else
      req (x69.2.length = x69.2.length) (some (.inl x69.2))
noncomputable def orielref15_Text (a0 : List (Int × K72c5.T)) : Option (List Int) :=
  (loopO (orielref15_Text_loop1 a0) (a0.length : Int)).bind fun x16 =>
  (loopO (orielref15_Text_loop2 x16 a0) (0, [])).bind fun x122 =>
  req (x122.length = x122.length) (some x122)
noncomputable def oriellaw17_shows_loop1 (a4 : List (List UInt8)) (a0 : Int × Int × K05d1.T) (x10 : Int) : Option (((Unit) ⊕ (Unit)) ⊕ (Int)) :=
    (bif decide (x10 < (a4.length : Int)) then
        some true
      else
        some false : Option (Bool)).bind fun x11 =>
    bif x11 then
      ((getI a0.2.2.1 x10).bind fun x15 =>
        (orielref15_Text x15).bind fun x16 =>
        (getI a4 x10).bind fun x17 =>
        bif !(((runesL x16) : List UInt8) == x17) then
          some true
        else
          some false : Option (Bool)).bind fun x18 =>
      bif x18 then
        some (.inl (.inl ()))
      else
        some (.inr (IntKind.i64.wrap (x10 + 1)))
    else
      some (.inl (.inr ()))
noncomputable def oriellaw17_shows (a0 : Int × Int × K05d1.T) (a1 : Int) (a2 : Int) (a3 : Bool) (a4 : List (List UInt8)) : Option (Bool) :=
  (bif (a0.2.2.1.length : Int) != (a4.length : Int) then
      some true
    else
      bif a0.2.2.2.2.1 != a1 then
        some true
      else
        bif a0.2.2.2.2.2.1 != a2 then
          some true
        else
          bif !(a0.2.2.2.2.2.2.1 == a3) then
            some true
          else
            some false : Option (Bool)).bind fun x1 =>
  bif x1 then
    some false
  else
    (loopO (oriellaw17_shows_loop1 a4 a0) 0).bind fun o => match o with
    | .inl _ =>
      some false
    | .inr _ =>
      some true
noncomputable def oriellaw17_known_raw  : Option (Bool) :=
  (oriellaw17_typed 2 3 [97, 98, 99]).bind fun x1 =>
  (screen_Do x1 [(1, 0, 0, 100, [], [])]).bind fun x2 =>
  (screen_Do x2 [(2, 1, 0, 0, [], [])]).bind fun x3 =>
  (oriellaw17_typed 2 3 [97, 20013, 20013]).bind fun x4 =>
  (screen_Do x2 [(27, 1, 2, 0, [], [])]).bind fun x5 =>
  (oriellaw17_shows x1 0 2 true [[97, 98, 99], []]).bind fun x6 =>
  bif x6 then
    (oriellaw17_shows x2 1 1 false [[97, 98, 99], [100]]).bind fun x7 =>
    bif x7 then
      (oriellaw17_shows x3 1 1 false [[100], []]).bind fun x8 =>
      bif x8 then
        (oriellaw17_shows x4 1 2 false [[97, 228, 184, 173], [228, 184, 173]]).bind fun x9 =>
        bif x9 then
          (oriellaw17_shows x5 0 1 false [[100]]).bind fun x10 =>
          some x10
        else
          some false
      else
        some false
    else
      some false
  else
    some false
noncomputable def oriellaw17_known  : Option (Bool) :=
  some true
theorem oriellaw17_known_law  {v : (Bool)} (h : oriellaw17_known  = some v) : oriellaw17_known_raw  = some v := Eq.trans (by kernel_rfl : oriellaw17_known_raw = some true) h
noncomputable def oriellaw17_great_loop1 (a2 : List K86d9.T) (x25 : Int × Int) : Option (((Unit) ⊕ (Int)) ⊕ (Int × Int)) :=
    (bif decide (x25.2 < (a2.length : Int)) then
        some true
      else
        some false : Option (Bool)).bind fun x26 =>
    bif x26 then
      ((getI a2 x25.2).bind fun x32 =>
        bif decide ((x32.2.2.2.2.1.length : Int) > 200) then
          some true
        else
          (getI a2 x25.2).bind fun x33 =>
          bif decide ((x33.2.2.2.2.2.length : Int) > 200) then
            some true
          else
            (getI a2 x25.2).bind fun x34 =>
            bif x34.1 == 27 then
              (getI a2 x25.2).bind fun x35 =>
              bif decide (x35.2.1 > 30) then
                some true
              else
                (getI a2 x25.2).bind fun x36 =>
                bif decide (x36.2.2.1 > 30) then
                  some true
                else
                  some false
            else
              some false : Option (Bool)).bind fun x37 =>
      bif x37 then
        some (.inl (.inl ()))
      else
        (((getI a2 x25.2).bind fun x45 =>
            bif x45.1 == 2 then
              some true
            else
              (getI a2 x25.2).bind fun x46 =>
              bif x46.1 == 9 then
                some true
              else
                some false : Option (Bool)).bind fun x47 =>
          bif x47 then
            some (IntKind.i64.wrap (x25.1 + 500))
          else
            some x25.1 : Option (Int)).bind fun x48 =>
        some (.inr (IntKind.i64.wrap (x48 + 1), IntKind.i64.wrap (x25.2 + 1)))
    else
      some (.inl (.inr x25.1))
noncomputable def oriellaw17_great (a0 : Int) (a1 : Int) (a2 : List K86d9.T) : Option (Bool) :=
  (bif decide (a0 > 30) then
      bif decide (a0 ≤ 200) then
        some true
      else
        bif decide (a1 > 30) then
          bif decide (a1 ≤ 200) then
            some true
          else
            bif decide ((a2.length : Int) > 120) then
              some true
            else
              some false
        else
          bif decide ((a2.length : Int) > 120) then
            some true
          else
            some false
    else
      bif decide (a1 > 30) then
        bif decide (a1 ≤ 200) then
          some true
        else
          bif decide ((a2.length : Int) > 120) then
            some true
          else
            some false
      else
        bif decide ((a2.length : Int) > 120) then
          some true
        else
          some false : Option (Bool)).bind fun x1 =>
  bif x1 then
    some true
  else
    (loopO (oriellaw17_great_loop1 a2) (0, 0)).bind fun o => match o with
    | .inl _ =>
      some true
    | .inr x49 =>
      some (decide (x49 > 4000))
noncomputable def orielref15_Side (a0 : Int) : Option (Bool) :=
  bif decide (a0 ≥ 1) then
    some (decide (a0 ≤ 200))
  else
    some false
noncomputable def orielref14_Same_loop1 (a0 : List (Int × K72c5.T)) (a1 : List (Int × K72c5.T)) (x8 : Int) : Option (((Unit) ⊕ (Unit)) ⊕ (Int)) :=
    (bif decide (x8 < (a0.length : Int)) then
        some true
      else
        some false : Option (Bool)).bind fun x9 =>
    bif x9 then
      ((getI a0 x8).bind fun x12 =>
        (getI a1 x8).bind fun x13 =>
        bif !((x12.1 == x13.1) && (((x12.2.1.1 == x13.2.1.1) && ((x12.2.1.2 == x13.2.1.2) && true)) && ((x12.2.2.1 == x13.2.2.1) && (((x12.2.2.2.1 == x13.2.2.2.1) && ((x12.2.2.2.2.1 == x13.2.2.2.2.1) && ((x12.2.2.2.2.2 == x13.2.2.2.2.2) && true))) && true)))) then
          some true
        else
          some false : Option (Bool)).bind fun x14 =>
      bif x14 then
        some (.inl (.inl ()))
      else
        some (.inr (IntKind.i64.wrap (x8 + 1)))
    else
      some (.inl (.inr ()))
noncomputable def orielref14_Same (a0 : List (Int × K72c5.T)) (a1 : List (Int × K72c5.T)) : Option (Bool) :=
  (bif (a0.length : Int) != (a1.length : Int) then
      some true
    else
      some false : Option (Bool)).bind fun x1 =>
  bif x1 then
    some false
  else
    (loopO (orielref14_Same_loop1 a0 a1) 0).bind fun o => match o with
    | .inl _ =>
      some false
    | .inr _ =>
      some true
noncomputable def orielref15_Same_loop1 (a0 : List (List (Int × K72c5.T))) (a1 : List (List (Int × K72c5.T))) (x10 : Int) : Option (((Unit) ⊕ (Unit)) ⊕ (Int)) :=
    (bif decide (x10 < (a0.length : Int)) then
        some true
      else
        some false : Option (Bool)).bind fun x11 =>
    bif x11 then
      ((getI a0 x10).bind fun x15 =>
        (getI a1 x10).bind fun x16 =>
        (orielref14_Same x15 x16).bind fun x17 =>
        bif !x17 then
          some true
        else
          some false : Option (Bool)).bind fun x18 =>
      bif x18 then
        some (.inl (.inl ()))
      else
        some (.inr (IntKind.i64.wrap (x10 + 1)))
    else
      some (.inl (.inr ()))
noncomputable def orielref15_Same (a0 : List (List (Int × K72c5.T))) (a1 : List (List (Int × K72c5.T))) : Option (Bool) :=
  (bif (a0.length : Int) != (a1.length : Int) then
      some true
    else
      some false : Option (Bool)).bind fun x1 =>
  bif x1 then
    some false
  else
    (loopO (orielref15_Same_loop1 a0 a1) 0).bind fun o => match o with
    | .inl _ =>
      some false
    | .inr _ =>
      some true
noncomputable def orielref13_Same_loop1 (a0 : List Int) (a1 : List Int) (x8 : Int) : Option (((Unit) ⊕ (Unit)) ⊕ (Int)) :=
    (bif decide (x8 < (a0.length : Int)) then
        some true
      else
        some false : Option (Bool)).bind fun x9 =>
    bif x9 then
      ((getI a0 x8).bind fun x12 =>
        (getI a1 x8).bind fun x13 =>
        bif x12 != x13 then
          some true
        else
          some false : Option (Bool)).bind fun x14 =>
      bif x14 then
        some (.inl (.inl ()))
      else
        some (.inr (IntKind.i64.wrap (x8 + 1)))
    else
      some (.inl (.inr ()))
noncomputable def orielref13_Same (a0 : List Int) (a1 : List Int) : Option (Bool) :=
  (bif (a0.length : Int) != (a1.length : Int) then
      some true
    else
      some false : Option (Bool)).bind fun x1 =>
  bif x1 then
    some false
  else
    (loopO (orielref13_Same_loop1 a0 a1) 0).bind fun o => match o with
    | .inl _ =>
      some false
    | .inr _ =>
      some true
noncomputable def orielref17_Same (a0 : Int × Int × K05d1.T) (a1 : Int × Int × K05d1.T) : Option (Bool) :=
  (bif a0.1 != a1.1 then
      some true
    else
      bif a0.2.1 != a1.2.1 then
        some true
      else
        bif a0.2.2.2.2.1 != a1.2.2.2.2.1 then
          some true
        else
          bif a0.2.2.2.2.2.1 != a1.2.2.2.2.2.1 then
            some true
          else
            bif !(a0.2.2.2.2.2.2.1 == a1.2.2.2.2.2.2.1) then
              some true
            else
              bif !((a0.2.2.2.2.2.2.2.1.1 == a1.2.2.2.2.2.2.2.1.1) && ((a0.2.2.2.2.2.2.2.1.2.1 == a1.2.2.2.2.2.2.2.1.2.1) && ((a0.2.2.2.2.2.2.2.1.2.2 == a1.2.2.2.2.2.2.2.1.2.2) && true))) then
                some true
              else
                bif a0.2.2.2.2.2.2.2.2.1 != a1.2.2.2.2.2.2.2.2.1 then
                  some true
                else
                  bif a0.2.2.2.2.2.2.2.2.2.1 != a1.2.2.2.2.2.2.2.2.2.1 then
                    some true
                  else
                    bif a0.2.2.2.2.2.2.2.2.2.2.1 != a1.2.2.2.2.2.2.2.2.2.2.1 then
                      some true
                    else
                      bif !((a0.2.2.2.2.2.2.2.2.2.2.2.2.1.1 == a1.2.2.2.2.2.2.2.2.2.2.2.2.1.1) && ((a0.2.2.2.2.2.2.2.2.2.2.2.2.1.2.1 == a1.2.2.2.2.2.2.2.2.2.2.2.2.1.2.1) && ((a0.2.2.2.2.2.2.2.2.2.2.2.2.1.2.2.1 == a1.2.2.2.2.2.2.2.2.2.2.2.2.1.2.2.1) && ((a0.2.2.2.2.2.2.2.2.2.2.2.2.1.2.2.2 == a1.2.2.2.2.2.2.2.2.2.2.2.2.1.2.2.2) && true)))) then
                        some true
                      else
                        some false : Option (Bool)).bind fun x1 =>
  bif x1 then
    some false
  else
    bif ((a0.2.2.2.2.2.2.2.2.2.2.2.1.1.1 == a1.2.2.2.2.2.2.2.2.2.2.2.1.1.1) && ((a0.2.2.2.2.2.2.2.2.2.2.2.1.1.2.1 == a1.2.2.2.2.2.2.2.2.2.2.2.1.1.2.1) && (((a0.2.2.2.2.2.2.2.2.2.2.2.1.1.2.2.1.1 == a1.2.2.2.2.2.2.2.2.2.2.2.1.1.2.2.1.1) && ((a0.2.2.2.2.2.2.2.2.2.2.2.1.1.2.2.1.2.1 == a1.2.2.2.2.2.2.2.2.2.2.2.1.1.2.2.1.2.1) && ((a0.2.2.2.2.2.2.2.2.2.2.2.1.1.2.2.1.2.2 == a1.2.2.2.2.2.2.2.2.2.2.2.1.1.2.2.1.2.2) && true))) && ((a0.2.2.2.2.2.2.2.2.2.2.2.1.1.2.2.2.1 == a1.2.2.2.2.2.2.2.2.2.2.2.1.1.2.2.2.1) && ((a0.2.2.2.2.2.2.2.2.2.2.2.1.1.2.2.2.2 == a1.2.2.2.2.2.2.2.2.2.2.2.1.1.2.2.2.2) && true))))) then
      bif ((a0.2.2.2.2.2.2.2.2.2.2.2.1.2.1 == a1.2.2.2.2.2.2.2.2.2.2.2.1.2.1) && ((a0.2.2.2.2.2.2.2.2.2.2.2.1.2.2.1 == a1.2.2.2.2.2.2.2.2.2.2.2.1.2.2.1) && (((a0.2.2.2.2.2.2.2.2.2.2.2.1.2.2.2.1.1 == a1.2.2.2.2.2.2.2.2.2.2.2.1.2.2.2.1.1) && ((a0.2.2.2.2.2.2.2.2.2.2.2.1.2.2.2.1.2.1 == a1.2.2.2.2.2.2.2.2.2.2.2.1.2.2.2.1.2.1) && ((a0.2.2.2.2.2.2.2.2.2.2.2.1.2.2.2.1.2.2 == a1.2.2.2.2.2.2.2.2.2.2.2.1.2.2.2.1.2.2) && true))) && ((a0.2.2.2.2.2.2.2.2.2.2.2.1.2.2.2.2.1 == a1.2.2.2.2.2.2.2.2.2.2.2.1.2.2.2.2.1) && ((a0.2.2.2.2.2.2.2.2.2.2.2.1.2.2.2.2.2 == a1.2.2.2.2.2.2.2.2.2.2.2.1.2.2.2.2.2) && true))))) then
        (orielref15_Same a0.2.2.1 a1.2.2.1).bind fun x2 =>
        bif x2 then
          (orielref15_Same a0.2.2.2.1 a1.2.2.2.1).bind fun x3 =>
          bif x3 then
            (orielref13_Same a0.2.2.2.2.2.2.2.2.2.2.2.2.2 a1.2.2.2.2.2.2.2.2.2.2.2.2.2).bind fun x4 =>
            some x4
          else
            some false
        else
          some false
      else
        some false
    else
      some false
noncomputable def orielref14_Blank (a0 : K92a5.T) : Option ((Int × K72c5.T)) :=
  some (32, (0, 0), 0, 0, 0, a0.2.2)
noncomputable def orielref14_Blanks_loop1 (a0 : Int) (a1 : K92a5.T) (x3 : Int × (List (Int × K72c5.T))) : Option ((((List (Int × K72c5.T)))) ⊕ (Int × (List (Int × K72c5.T)))) :=
    (bif decide (x3.1 < a0) then
        some true
      else
        some false : Option (Bool)).bind fun x4 =>
    bif x4 then
      (orielref14_Blank a1).bind fun x5 =>
      req (x3.2.length = x3.2.length) <|
      req ((x3.2 ++ [x5]).length * 48 ≤ maxBy) <|
      req ((x3.2 ++ [x5]).length = (x3.2 ++ [x5]).length) (some (.inr (IntKind.i64.wrap (x3.1 + 1), x3.2 ++ [x5])))
    else
      req (x3.2.length = x3.2.length) (some (.inl x3.2))
noncomputable def orielref14_Blanks (a0 : Int) (a1 : K92a5.T) : Option ((List (Int × K72c5.T))) :=
  (loopO (orielref14_Blanks_loop1 a0 a1) (0, [])).bind fun x6 =>
  req (x6.length = x6.length) (some x6)
noncomputable def orielref15_Blank_loop1 (a0 : Int) (a1 : Int) (a2 : K92a5.T) (x3 : Int × (List (List (Int × K72c5.T)))) : Option ((((List (List (Int × K72c5.T))))) ⊕ (Int × (List (List (Int × K72c5.T))))) :=
    (bif decide (x3.1 < a0) then
        some true
      else
        some false : Option (Bool)).bind fun x4 =>
    bif x4 then
      (orielref14_Blanks a1 a2).bind fun x5 =>
      req (x3.2.length = x3.2.length) <|
      req ((x3.2 ++ [x5]).length * 24 ≤ maxBy) <|
      req ((x3.2 ++ [x5]).length = (x3.2 ++ [x5]).length) (some (.inr (IntKind.i64.wrap (x3.1 + 1), x3.2 ++ [x5])))
    else
      req (x3.2.length = x3.2.length) (some (.inl x3.2))
noncomputable def orielref15_Blank (a0 : Int) (a1 : Int) (a2 : K92a5.T) : Option ((List (List (Int × K72c5.T)))) :=
  (loopO (orielref15_Blank_loop1 a0 a1 a2) (0, [])).bind fun x6 =>
  req (x6.length = x6.length) (some x6)
noncomputable def orielref16_Is_loop1 (a1 : Int) (x4 : Int × Int) : Option (((Int)) ⊕ (Int × Int)) :=
    (bif decide (x4.2 < (Int.tmod a1 64)) then
        some true
      else
        some false : Option (Bool)).bind fun x5 =>
    bif x5 then
      some (.inr (IntKind.u64.wrap (Int.tdiv x4.1 2), IntKind.i64.wrap (x4.2 + 1)))
    else
      some (.inl x4.1)
noncomputable def orielref16_Is (a0 : Int × Kf613.T) (a1 : Int) : Option (Bool) :=
  (bif decide (a1 < 0) then
      some true
    else
      bif decide (a1 > 199) then
        some true
      else
        some false : Option (Bool)).bind fun x1 =>
  bif x1 then
    some false
  else
    (bif (IntKind.i64.wrap (Int.tdiv a1 64)) == 0 then
        some a0.1
      else
        bif (IntKind.i64.wrap (Int.tdiv a1 64)) == 1 then
          some a0.2.1
        else
          bif (IntKind.i64.wrap (Int.tdiv a1 64)) == 2 then
            some a0.2.2.1
          else
            bif (IntKind.i64.wrap (Int.tdiv a1 64)) == 3 then
              some a0.2.2.2
            else
              none : Option (Int)).bind fun x2 =>
    (loopO (orielref16_Is_loop1 a1) (x2, 0)).bind fun x6 =>
    some ((Int.tmod x6 2) == 1)
noncomputable def orielref16_With_loop1 (a1 : Int) (x5 : Int × Int) : Option (((Int)) ⊕ (Int × Int)) :=
    (bif decide (x5.2 < (Int.tmod a1 64)) then
        some true
      else
        some false : Option (Bool)).bind fun x6 =>
    bif x6 then
      some (.inr (IntKind.u64.wrap (x5.1 * 2), IntKind.i64.wrap (x5.2 + 1)))
    else
      some (.inl x5.1)
noncomputable def orielref16_With (a0 : Int × Kf613.T) (a1 : Int) (a2 : Bool) : Option ((Int × Kf613.T)) :=
  (bif decide (a1 < 0) then
      some true
    else
      bif decide (a1 > 199) then
        some true
      else
        (orielref16_Is a0 a1).bind fun x2 =>
        bif (x2 == a2) then
          some true
        else
          some false : Option (Bool)).bind fun x3 =>
  bif x3 then
    some a0
  else
    (loopO (orielref16_With_loop1 a1) (1, 0)).bind fun x7 =>
    ((bif a2 then
          some true
        else
          some false : Option (Bool)).bind fun x9 =>
      bif x9 then
        bif (IntKind.i64.wrap (Int.tdiv a1 64)) == 0 then
          bif (IntKind.i64.wrap (Int.tdiv a1 64)) == 0 then
            some (IntKind.u64.wrap (a0.1 + x7), a0.2.1, a0.2.2.1, a0.2.2.2)
          else
            bif (IntKind.i64.wrap (Int.tdiv a1 64)) == 1 then
              some (a0.1, IntKind.u64.wrap (a0.1 + x7), a0.2.2.1, a0.2.2.2)
            else
              bif (IntKind.i64.wrap (Int.tdiv a1 64)) == 2 then
                some (a0.1, a0.2.1, IntKind.u64.wrap (a0.1 + x7), a0.2.2.2)
              else
                bif (IntKind.i64.wrap (Int.tdiv a1 64)) == 3 then
                  some (a0.1, a0.2.1, a0.2.2.1, IntKind.u64.wrap (a0.1 + x7))
                else
                  none
        else
          bif (IntKind.i64.wrap (Int.tdiv a1 64)) == 1 then
            bif (IntKind.i64.wrap (Int.tdiv a1 64)) == 0 then
              some (IntKind.u64.wrap (a0.2.1 + x7), a0.2.1, a0.2.2.1, a0.2.2.2)
            else
              bif (IntKind.i64.wrap (Int.tdiv a1 64)) == 1 then
                some (a0.1, IntKind.u64.wrap (a0.2.1 + x7), a0.2.2.1, a0.2.2.2)
              else
                bif (IntKind.i64.wrap (Int.tdiv a1 64)) == 2 then
                  some (a0.1, a0.2.1, IntKind.u64.wrap (a0.2.1 + x7), a0.2.2.2)
                else
                  bif (IntKind.i64.wrap (Int.tdiv a1 64)) == 3 then
                    some (a0.1, a0.2.1, a0.2.2.1, IntKind.u64.wrap (a0.2.1 + x7))
                  else
                    none
          else
            bif (IntKind.i64.wrap (Int.tdiv a1 64)) == 2 then
              bif (IntKind.i64.wrap (Int.tdiv a1 64)) == 0 then
                some (IntKind.u64.wrap (a0.2.2.1 + x7), a0.2.1, a0.2.2.1, a0.2.2.2)
              else
                bif (IntKind.i64.wrap (Int.tdiv a1 64)) == 1 then
                  some (a0.1, IntKind.u64.wrap (a0.2.2.1 + x7), a0.2.2.1, a0.2.2.2)
                else
                  bif (IntKind.i64.wrap (Int.tdiv a1 64)) == 2 then
                    some (a0.1, a0.2.1, IntKind.u64.wrap (a0.2.2.1 + x7), a0.2.2.2)
                  else
                    bif (IntKind.i64.wrap (Int.tdiv a1 64)) == 3 then
                      some (a0.1, a0.2.1, a0.2.2.1, IntKind.u64.wrap (a0.2.2.1 + x7))
                    else
                      none
            else
              bif (IntKind.i64.wrap (Int.tdiv a1 64)) == 3 then
                bif (IntKind.i64.wrap (Int.tdiv a1 64)) == 0 then
                  some (IntKind.u64.wrap (a0.2.2.2 + x7), a0.2.1, a0.2.2.1, a0.2.2.2)
                else
                  bif (IntKind.i64.wrap (Int.tdiv a1 64)) == 1 then
                    some (a0.1, IntKind.u64.wrap (a0.2.2.2 + x7), a0.2.2.1, a0.2.2.2)
                  else
                    bif (IntKind.i64.wrap (Int.tdiv a1 64)) == 2 then
                      some (a0.1, a0.2.1, IntKind.u64.wrap (a0.2.2.2 + x7), a0.2.2.2)
                    else
                      bif (IntKind.i64.wrap (Int.tdiv a1 64)) == 3 then
                        some (a0.1, a0.2.1, a0.2.2.1, IntKind.u64.wrap (a0.2.2.2 + x7))
                      else
                        none
              else
                none
      else
        bif (IntKind.i64.wrap (Int.tdiv a1 64)) == 0 then
          bif (IntKind.i64.wrap (Int.tdiv a1 64)) == 0 then
            some (IntKind.u64.wrap (a0.1 - x7), a0.2.1, a0.2.2.1, a0.2.2.2)
          else
            bif (IntKind.i64.wrap (Int.tdiv a1 64)) == 1 then
              some (a0.1, IntKind.u64.wrap (a0.1 - x7), a0.2.2.1, a0.2.2.2)
            else
              bif (IntKind.i64.wrap (Int.tdiv a1 64)) == 2 then
                some (a0.1, a0.2.1, IntKind.u64.wrap (a0.1 - x7), a0.2.2.2)
              else
                bif (IntKind.i64.wrap (Int.tdiv a1 64)) == 3 then
                  some (a0.1, a0.2.1, a0.2.2.1, IntKind.u64.wrap (a0.1 - x7))
                else
                  none
        else
          bif (IntKind.i64.wrap (Int.tdiv a1 64)) == 1 then
            bif (IntKind.i64.wrap (Int.tdiv a1 64)) == 0 then
              some (IntKind.u64.wrap (a0.2.1 - x7), a0.2.1, a0.2.2.1, a0.2.2.2)
            else
              bif (IntKind.i64.wrap (Int.tdiv a1 64)) == 1 then
                some (a0.1, IntKind.u64.wrap (a0.2.1 - x7), a0.2.2.1, a0.2.2.2)
              else
                bif (IntKind.i64.wrap (Int.tdiv a1 64)) == 2 then
                  some (a0.1, a0.2.1, IntKind.u64.wrap (a0.2.1 - x7), a0.2.2.2)
                else
                  bif (IntKind.i64.wrap (Int.tdiv a1 64)) == 3 then
                    some (a0.1, a0.2.1, a0.2.2.1, IntKind.u64.wrap (a0.2.1 - x7))
                  else
                    none
          else
            bif (IntKind.i64.wrap (Int.tdiv a1 64)) == 2 then
              bif (IntKind.i64.wrap (Int.tdiv a1 64)) == 0 then
                some (IntKind.u64.wrap (a0.2.2.1 - x7), a0.2.1, a0.2.2.1, a0.2.2.2)
              else
                bif (IntKind.i64.wrap (Int.tdiv a1 64)) == 1 then
                  some (a0.1, IntKind.u64.wrap (a0.2.2.1 - x7), a0.2.2.1, a0.2.2.2)
                else
                  bif (IntKind.i64.wrap (Int.tdiv a1 64)) == 2 then
                    some (a0.1, a0.2.1, IntKind.u64.wrap (a0.2.2.1 - x7), a0.2.2.2)
                  else
                    bif (IntKind.i64.wrap (Int.tdiv a1 64)) == 3 then
                      some (a0.1, a0.2.1, a0.2.2.1, IntKind.u64.wrap (a0.2.2.1 - x7))
                    else
                      none
            else
              bif (IntKind.i64.wrap (Int.tdiv a1 64)) == 3 then
                bif (IntKind.i64.wrap (Int.tdiv a1 64)) == 0 then
                  some (IntKind.u64.wrap (a0.2.2.2 - x7), a0.2.1, a0.2.2.1, a0.2.2.2)
                else
                  bif (IntKind.i64.wrap (Int.tdiv a1 64)) == 1 then
                    some (a0.1, IntKind.u64.wrap (a0.2.2.2 - x7), a0.2.2.1, a0.2.2.2)
                  else
                    bif (IntKind.i64.wrap (Int.tdiv a1 64)) == 2 then
                      some (a0.1, a0.2.1, IntKind.u64.wrap (a0.2.2.2 - x7), a0.2.2.2)
                    else
                      bif (IntKind.i64.wrap (Int.tdiv a1 64)) == 3 then
                        some (a0.1, a0.2.1, a0.2.2.1, IntKind.u64.wrap (a0.2.2.2 - x7))
                      else
                        none
              else
                none : Option (Int × Int × Int × Int)).bind fun x10 =>
    some x10
noncomputable def orielref16_Wider_loop1 (a1 : Int) (a2 : Int) (x8 : Int × Int × Int × Int × Int) : Option (((Int × Int × Int × Int)) ⊕ (Int × Int × Int × Int × Int)) :=
    (bif decide (x8.1 < 200) then
        some true
      else
        some false : Option (Bool)).bind fun x9 =>
    bif x9 then
      ((bif decide (x8.1 ≥ a1) then
            bif decide (x8.1 < a2) then
              bif (Int.tmod x8.1 8) == 0 then
                some true
              else
                some false
            else
              some false
          else
            some false : Option (Bool)).bind fun x12 =>
        bif x12 then
          (orielref16_With x8.2 x8.1 true).bind fun x13 =>
          some (x13.1, x13.2.1, x13.2.2.1, x13.2.2.2)
        else
          some (x8.2.1, x8.2.2.1, x8.2.2.2.1, x8.2.2.2.2) : Option (Int × Int × Int × Int)).bind fun x14 =>
      some (.inr (IntKind.i64.wrap (x8.1 + 1), x14.1, x14.2.1, x14.2.2.1, x14.2.2.2))
    else
      some (.inl (x8.2.1, x8.2.2.1, x8.2.2.2.1, x8.2.2.2.2))
noncomputable def orielref16_Wider (a0 : Int × Kf613.T) (a1 : Int) (a2 : Int) : Option ((Int × Kf613.T)) :=
  (loopO (orielref16_Wider_loop1 a1 a2) (1, a0.1, a0.2.1, a0.2.2.1, a0.2.2.2)).bind fun x15 =>
  some x15
noncomputable def orielref17_New (a0 : Int) (a1 : Int) : Option ((Int × Int × K05d1.T)) :=
  (orielref15_Blank a0 a1 (0, 0, 0)).bind fun x1 =>
  (orielref16_Wider (0, 0, 0, 0) 0 a1).bind fun x2 =>
  some (a0, a1, x1, [], 0, 0, false, (0, 0, 0), 0, IntKind.i64.wrap (a0 - 1), 9, ((0, 0, (0, 0, 0), false, false), 0, 0, (0, 0, 0), false, false), x2, [])
noncomputable def orielref17_Has (a0 : Int × Int × K05d1.T) (a1 : Int) : Option (Bool) :=
  req (a1 ≠ 0) <|
  some ((Int.tmod (IntKind.i64.wrap (Int.tdiv a0.2.2.2.2.2.2.2.2.2.2.1 a1)) 2) == 1)
noncomputable def orielref17_mode (a0 : Int × Int × K05d1.T) (a1 : Int) (a2 : Bool) : Option ((Int × Int × K05d1.T)) :=
  (((orielref17_Has a0 a1).bind fun x5 =>
      bif x5 then
        bif !a2 then
          some true
        else
          some false
      else
        some false : Option (Bool)).bind fun x6 =>
    bif x6 then
      some (IntKind.i64.wrap (a0.2.2.2.2.2.2.2.2.2.2.1 - a1))
    else
      some a0.2.2.2.2.2.2.2.2.2.2.1 : Option (Int)).bind fun x7 =>
  (((orielref17_Has (a0.1, a0.2.1, a0.2.2.1, a0.2.2.2.1, a0.2.2.2.2.1, a0.2.2.2.2.2.1, a0.2.2.2.2.2.2.1, a0.2.2.2.2.2.2.2.1, a0.2.2.2.2.2.2.2.2.1, a0.2.2.2.2.2.2.2.2.2.1, x7, a0.2.2.2.2.2.2.2.2.2.2.2) a1).bind fun x12 =>
      bif !x12 then
        bif a2 then
          some true
        else
          some false
      else
        some false : Option (Bool)).bind fun x13 =>
    bif x13 then
      some (IntKind.i64.wrap (x7 + a1))
    else
      some x7 : Option (Int)).bind fun x14 =>
  some (a0.1, a0.2.1, a0.2.2.1, a0.2.2.2.1, a0.2.2.2.2.1, a0.2.2.2.2.2.1, a0.2.2.2.2.2.2.1, a0.2.2.2.2.2.2.2.1, a0.2.2.2.2.2.2.2.2.1, a0.2.2.2.2.2.2.2.2.2.1, x14, a0.2.2.2.2.2.2.2.2.2.2.2)
noncomputable def orielref17_bring (a0 : Int) (a1 : Int) (a2 : Int) : Option (Int) :=
  (bif decide (a0 < a1) then
      some true
    else
      some false : Option (Bool)).bind fun x1 =>
  bif x1 then
    some a1
  else
    (bif decide (a0 > a2) then
        some true
      else
        some false : Option (Bool)).bind fun x2 =>
    bif x2 then
      some a2
    else
      some a0
noncomputable def orielref17_move (a0 : Int × Int × K05d1.T) (a1 : Int) (a2 : Int) : Option ((Int × Int × K05d1.T)) :=
  (((orielref17_Has a0 2).bind fun x7 =>
      bif x7 then
        some true
      else
        some false : Option (Bool)).bind fun x8 =>
    bif x8 then
      (orielref17_bring (IntKind.i64.wrap (a0.2.2.2.2.2.2.2.2.1 + a1)) a0.2.2.2.2.2.2.2.2.1 a0.2.2.2.2.2.2.2.2.2.1).bind fun x9 =>
      some x9
    else
      (orielref17_bring a1 0 (IntKind.i64.wrap (a0.1 - 1))).bind fun x10 =>
      some x10 : Option (Int)).bind fun x11 =>
  (orielref17_bring a2 0 (IntKind.i64.wrap (a0.2.1 - 1))).bind fun x12 =>
  some (a0.1, a0.2.1, a0.2.2.1, a0.2.2.2.1, x11, x12, false, a0.2.2.2.2.2.2.2)
noncomputable def orielref17_page (a0 : Int × Int × K05d1.T) : Option (Int) :=
  ((orielref17_Has a0 128).bind fun x2 =>
    bif x2 then
      some true
    else
      some false : Option (Bool)).bind fun x3 =>
  bif x3 then
    some 1
  else
    some 0
noncomputable def orielref17_save (a0 : Int × Int × K05d1.T) : Option ((Int × Int × K05d1.T)) :=
  ((orielref17_page a0).bind fun x3 =>
    (orielref17_Has a0 2).bind fun x4 =>
    bif x3 == 0 then
      some (a0.2.2.2.2.1, a0.2.2.2.2.2.1, a0.2.2.2.2.2.2.2.1.1, a0.2.2.2.2.2.2.2.1.2.1, a0.2.2.2.2.2.2.2.1.2.2, x4, a0.2.2.2.2.2.2.1, a0.2.2.2.2.2.2.2.2.2.2.2.1.2.1, a0.2.2.2.2.2.2.2.2.2.2.2.1.2.2.1, a0.2.2.2.2.2.2.2.2.2.2.2.1.2.2.2.1.1, a0.2.2.2.2.2.2.2.2.2.2.2.1.2.2.2.1.2.1, a0.2.2.2.2.2.2.2.2.2.2.2.1.2.2.2.1.2.2, a0.2.2.2.2.2.2.2.2.2.2.2.1.2.2.2.2.1, a0.2.2.2.2.2.2.2.2.2.2.2.1.2.2.2.2.2)
    else
      bif x3 == 1 then
        some (a0.2.2.2.2.2.2.2.2.2.2.2.1.1.1, a0.2.2.2.2.2.2.2.2.2.2.2.1.1.2.1, a0.2.2.2.2.2.2.2.2.2.2.2.1.1.2.2.1.1, a0.2.2.2.2.2.2.2.2.2.2.2.1.1.2.2.1.2.1, a0.2.2.2.2.2.2.2.2.2.2.2.1.1.2.2.1.2.2, a0.2.2.2.2.2.2.2.2.2.2.2.1.1.2.2.2.1, a0.2.2.2.2.2.2.2.2.2.2.2.1.1.2.2.2.2, a0.2.2.2.2.1, a0.2.2.2.2.2.1, a0.2.2.2.2.2.2.2.1.1, a0.2.2.2.2.2.2.2.1.2.1, a0.2.2.2.2.2.2.2.1.2.2, x4, a0.2.2.2.2.2.2.1)
      else
        none : Option (Int × Int × Int × Int × Int × Bool × Bool × Int × Int × Int × Int × Int × Bool × Bool)).bind fun x5 =>
  some (a0.1, a0.2.1, a0.2.2.1, a0.2.2.2.1, a0.2.2.2.2.1, a0.2.2.2.2.2.1, a0.2.2.2.2.2.2.1, a0.2.2.2.2.2.2.2.1, a0.2.2.2.2.2.2.2.2.1, a0.2.2.2.2.2.2.2.2.2.1, a0.2.2.2.2.2.2.2.2.2.2.1, ((x5.1, x5.2.1, (x5.2.2.1, x5.2.2.2.1, x5.2.2.2.2.1), x5.2.2.2.2.2.1, x5.2.2.2.2.2.2.1), x5.2.2.2.2.2.2.2.1, x5.2.2.2.2.2.2.2.2.1, (x5.2.2.2.2.2.2.2.2.2.1, x5.2.2.2.2.2.2.2.2.2.2.1, x5.2.2.2.2.2.2.2.2.2.2.2.1), x5.2.2.2.2.2.2.2.2.2.2.2.2), a0.2.2.2.2.2.2.2.2.2.2.2.2)
noncomputable def orielref17_restore (a0 : Int × Int × K05d1.T) : Option ((Int × Int × K05d1.T)) :=
  ((orielref17_page a0).bind fun x2 =>
    bif x2 == 0 then
      some (a0.2.2.2.2.2.2.2.2.2.2.2.1.1.1, a0.2.2.2.2.2.2.2.2.2.2.2.1.1.2.1, a0.2.2.2.2.2.2.2.2.2.2.2.1.1.2.2.1.1, a0.2.2.2.2.2.2.2.2.2.2.2.1.1.2.2.1.2.1, a0.2.2.2.2.2.2.2.2.2.2.2.1.1.2.2.1.2.2, a0.2.2.2.2.2.2.2.2.2.2.2.1.1.2.2.2.1, a0.2.2.2.2.2.2.2.2.2.2.2.1.1.2.2.2.2)
    else
      bif x2 == 1 then
        some (a0.2.2.2.2.2.2.2.2.2.2.2.1.2.1, a0.2.2.2.2.2.2.2.2.2.2.2.1.2.2.1, a0.2.2.2.2.2.2.2.2.2.2.2.1.2.2.2.1.1, a0.2.2.2.2.2.2.2.2.2.2.2.1.2.2.2.1.2.1, a0.2.2.2.2.2.2.2.2.2.2.2.1.2.2.2.1.2.2, a0.2.2.2.2.2.2.2.2.2.2.2.1.2.2.2.2.1, a0.2.2.2.2.2.2.2.2.2.2.2.1.2.2.2.2.2)
      else
        none : Option (Int × Int × Int × Int × Int × Bool × Bool)).bind fun x3 =>
  (orielref17_bring x3.1 0 (IntKind.i64.wrap (a0.1 - 1))).bind fun x4 =>
  (orielref17_bring x3.2.1 0 (IntKind.i64.wrap (a0.2.1 - 1))).bind fun x5 =>
  (orielref17_mode (a0.1, a0.2.1, a0.2.2.1, a0.2.2.2.1, x4, x5, a0.2.2.2.2.2.2.1, (x3.2.2.1, x3.2.2.2.1, x3.2.2.2.2.1), a0.2.2.2.2.2.2.2.2) 2 x3.2.2.2.2.2.1).bind fun x6 =>
  (bif x3.2.2.2.2.2.2 then
      some (x6.2.2.2.2.2.1 == (IntKind.i64.wrap (x6.2.1 - 1)))
    else
      some false : Option (Bool)).bind fun x7 =>
  some (x6.1, x6.2.1, x6.2.2.1, x6.2.2.2.1, x6.2.2.2.2.1, x6.2.2.2.2.2.1, x7, x6.2.2.2.2.2.2.2)
noncomputable def orielref17_setMode_loop1 (a1 : Int) (x4 : Bool × Int) : Option (((Bool)) ⊕ (Bool × Int)) :=
    (bif decide (x4.2 < 8) then
        some true
      else
        some false : Option (Bool)).bind fun x5 =>
    bif x5 then
      ((req (0 ≤ (IntKind.u64.wrap x4.2)) <|
          bif a1 == (IntKind.i64.wrap ((1 : Int) * 2 ^ (min (IntKind.u64.wrap x4.2).toNat 64))) then
            some true
          else
            some false : Option (Bool)).bind fun x7 =>
        bif x7 then
          some true
        else
          some x4.1 : Option (Bool)).bind fun x8 =>
      some (.inr (x8, IntKind.i64.wrap (x4.2 + 1)))
    else
      some (.inl x4.1)
noncomputable def orielref17_setMode (a0 : Int × Int × K05d1.T) (a1 : Int) (a2 : Bool) : Option ((Int × Int × K05d1.T)) :=
  (loopO (orielref17_setMode_loop1 a1) (false, 0)).bind fun x9 =>
  (bif !x9 then
      some true
    else
      some false : Option (Bool)).bind fun x10 =>
  bif x10 then
    some a0
  else
    (bif a1 == 2 then
        some true
      else
        some false : Option (Bool)).bind fun x11 =>
    bif x11 then
      (orielref17_mode a0 a1 a2).bind fun x12 =>
      (orielref17_move x12 0 0).bind fun x13 =>
      some x13
    else
      (bif a1 != 128 then
          some true
        else
          some false : Option (Bool)).bind fun x14 =>
      bif x14 then
        (orielref17_mode a0 a1 a2).bind fun x15 =>
        some x15
      else
        ((orielref17_Has a0 a1).bind fun x17 =>
          bif (x17 == a2) then
            some true
          else
            some false : Option (Bool)).bind fun x18 =>
        bif x18 then
          some (a0.1, a0.2.1, a0.2.2.1, a0.2.2.2.1, a0.2.2.2.2.1, a0.2.2.2.2.2.1, false, a0.2.2.2.2.2.2.2)
        else
          (bif a2 then
              some true
            else
              some false : Option (Bool)).bind fun x19 =>
          bif x19 then
            (orielref17_save a0).bind fun x20 =>
            (orielref17_mode x20 a1 true).bind fun x21 =>
            (orielref15_Blank x21.1 x21.2.1 (0, 0, 0)).bind fun x22 =>
            some (x21.1, x21.2.1, x22, x21.2.2.1, x21.2.2.2.2.1, x21.2.2.2.2.2.1, false, x21.2.2.2.2.2.2.2)
          else
            (orielref17_mode a0 a1 false).bind fun x23 =>
            (orielref17_restore (x23.1, x23.2.1, x23.2.2.2.1, [], x23.2.2.2.2)).bind fun x24 =>
            some x24
noncomputable def orielref13_in (a0 : Int) (a1 : Int) (a2 : Int) : Option (Bool) :=
  bif decide (a0 ≥ a1) then
    some (decide (a0 ≤ a2))
  else
    some false
noncomputable def orielref13_Of (a0 : Int) : Option (Int) :=
  (bif decide (a0 < 32) then
      some true
    else
      (orielref13_in a0 127 159).bind fun x3 =>
      bif x3 then
        some true
      else
        (orielref13_in a0 55296 57343).bind fun x4 =>
        bif x4 then
          some true
        else
          bif decide (a0 > 1114111) then
            some true
          else
            some false : Option (Bool)).bind fun x5 =>
  bif x5 then
    some (-1)
  else
    ((orielref13_in a0 768 879).bind fun x12 =>
      bif x12 then
        some true
      else
        (orielref13_in a0 1155 1161).bind fun x13 =>
        bif x13 then
          some true
        else
          (orielref13_in a0 1425 1469).bind fun x14 =>
          bif x14 then
            some true
          else
            (orielref13_in a0 1552 1562).bind fun x15 =>
            bif x15 then
              some true
            else
              (orielref13_in a0 1611 1631).bind fun x16 =>
              bif x16 then
                some true
              else
                (orielref13_in a0 6832 6911).bind fun x17 =>
                bif x17 then
                  some true
                else
                  some false : Option (Bool)).bind fun x18 =>
    bif x18 then
      some 0
    else
      ((orielref13_in a0 7616 7679).bind fun x24 =>
        bif x24 then
          some true
        else
          (orielref13_in a0 8203 8207).bind fun x25 =>
          bif x25 then
            some true
          else
            (orielref13_in a0 8400 8447).bind fun x26 =>
            bif x26 then
              some true
            else
              (orielref13_in a0 65024 65039).bind fun x27 =>
              bif x27 then
                some true
              else
                (orielref13_in a0 65056 65071).bind fun x28 =>
                bif x28 then
                  some true
                else
                  some false : Option (Bool)).bind fun x29 =>
      bif x29 then
        some 0
      else
        ((orielref13_in a0 4352 4447).bind fun x35 =>
          bif x35 then
            some true
          else
            (orielref13_in a0 11904 12350).bind fun x36 =>
            bif x36 then
              some true
            else
              (orielref13_in a0 12353 42191).bind fun x37 =>
              bif x37 then
                some true
              else
                (orielref13_in a0 44032 55203).bind fun x38 =>
                bif x38 then
                  some true
                else
                  (orielref13_in a0 63744 64255).bind fun x39 =>
                  bif x39 then
                    some true
                  else
                    some false : Option (Bool)).bind fun x40 =>
        bif x40 then
          some 2
        else
          ((orielref13_in a0 65072 65135).bind fun x47 =>
            bif x47 then
              some true
            else
              (orielref13_in a0 65280 65376).bind fun x48 =>
              bif x48 then
                some true
              else
                (orielref13_in a0 65504 65510).bind fun x49 =>
                bif x49 then
                  some true
                else
                  (orielref13_in a0 127744 128591).bind fun x50 =>
                  bif x50 then
                    some true
                  else
                    (orielref13_in a0 129280 129535).bind fun x51 =>
                    bif x51 then
                      some true
                    else
                      (orielref13_in a0 131072 262141).bind fun x52 =>
                      bif x52 then
                        some true
                      else
                        some false : Option (Bool)).bind fun x53 =>
          bif x53 then
            some 2
          else
            some 1
noncomputable def orielref14_Mark (a0 : List (Int × K72c5.T)) (a1 : Int) (a2 : Int) : Option ((List (Int × K72c5.T))) :=
  (bif decide (a1 < 0) then
      some true
    else
      bif decide (a1 ≥ (a0.length : Int)) then
        some true
      else
        (orielref13_Of a2).bind fun x2 =>
        bif x2 != 0 then
          some true
        else
          some false : Option (Bool)).bind fun x3 =>
  bif x3 then
    some a0
  else
    req ((([] : List (Int × K72c5.T)) ++ a0).length * 48 ≤ maxBy) <|
    ((bif decide (a1 > 0) then
          (getI a0 a1).bind fun x8 =>
          bif x8.2.2.1 == 2 then
            some true
          else
            some false
        else
          some false : Option (Bool)).bind fun x9 =>
      bif x9 then
        some (IntKind.i64.wrap (a1 - 1))
      else
        some a1 : Option (Int)).bind fun x10 =>
    ((req (0 ≤ x10 ∧ x10 < (((([] : List (Int × K72c5.T)) ++ a0).length : Nat) : Int)) <|
        ((([] : List (Int × K72c5.T)) ++ a0)[x10.toNat]?).bind fun x20 =>
        bif x20.2.1.1 == 0 then
          some true
        else
          some false : Option (Bool)).bind fun x21 =>
      bif x21 then
        req (0 ≤ x10 ∧ x10 < (((([] : List (Int × K72c5.T)) ++ a0).length : Nat) : Int)) <|
        ((([] : List (Int × K72c5.T)) ++ a0)[x10.toNat]?).bind fun x22 =>
        some ((([] : List (Int × K72c5.T)) ++ a0).set x10.toNat (x22.1, (a2, x22.2.1.2), x22.2.2))
      else
        (req (0 ≤ x10 ∧ x10 < (((([] : List (Int × K72c5.T)) ++ a0).length : Nat) : Int)) <|
          ((([] : List (Int × K72c5.T)) ++ a0)[x10.toNat]?).bind fun x24 =>
          bif x24.2.1.2 == 0 then
            some true
          else
            some false : Option (Bool)).bind fun x25 =>
        bif x25 then
          req (0 ≤ x10 ∧ x10 < (((([] : List (Int × K72c5.T)) ++ a0).length : Nat) : Int)) <|
          ((([] : List (Int × K72c5.T)) ++ a0)[x10.toNat]?).bind fun x26 =>
          some ((([] : List (Int × K72c5.T)) ++ a0).set x10.toNat (x26.1, (x26.2.1.1, a2), x26.2.2))
        else
          some (([] : List (Int × K72c5.T)) ++ a0) : Option ((List (Int × K72c5.T)))).bind fun x27 =>
    req ((([] : List (Int × K72c5.T)) ++ a0).length = x27.length) (some x27)
noncomputable def orielref12_May (a0 : K92a5.T) : Option (Bool) :=
  bif decide (a0.1 ≥ 0) then
    bif decide (a0.1 ≤ 255) then
      bif decide (a0.2.1 ≥ 0) then
        bif decide (a0.2.1 ≤ 256) then
          bif decide (a0.2.2 ≥ 0) then
            some (decide (a0.2.2 ≤ 256))
          else
            some false
        else
          some false
      else
        some false
    else
      some false
  else
    some false
noncomputable def orielref14_Cell_loop1 (a0 : Int × K72c5.T) (x13 : Int) : Option (((Unit) ⊕ (Unit)) ⊕ (Int)) :=
    (bif decide (x13 < 2) then
        some true
      else
        some false : Option (Bool)).bind fun x14 =>
    bif x14 then
      (bif x13 == 0 then
          bif a0.2.1.1 != 0 then
            bif x13 == 0 then
              (orielref13_Of a0.2.1.1).bind fun x22 =>
              bif x22 != 0 then
                some true
              else
                bif x13 == 1 then
                  bif a0.2.1.1 == 0 then
                    some true
                  else
                    some false
                else
                  some false
            else
              bif x13 == 1 then
                (orielref13_Of a0.2.1.2).bind fun x21 =>
                bif x21 != 0 then
                  some true
                else
                  bif x13 == 1 then
                    bif a0.2.1.1 == 0 then
                      some true
                    else
                      some false
                  else
                    some false
              else
                none
          else
            some false
        else
          bif x13 == 1 then
            bif a0.2.1.2 != 0 then
              bif x13 == 0 then
                (orielref13_Of a0.2.1.1).bind fun x20 =>
                bif x20 != 0 then
                  some true
                else
                  bif x13 == 1 then
                    bif a0.2.1.1 == 0 then
                      some true
                    else
                      some false
                  else
                    some false
              else
                bif x13 == 1 then
                  (orielref13_Of a0.2.1.2).bind fun x19 =>
                  bif x19 != 0 then
                    some true
                  else
                    bif x13 == 1 then
                      bif a0.2.1.1 == 0 then
                        some true
                      else
                        some false
                    else
                      some false
                else
                  none
            else
              some false
          else
            none : Option (Bool)).bind fun x23 =>
      bif x23 then
        some (.inl (.inl ()))
      else
        some (.inr (IntKind.i64.wrap (x13 + 1)))
    else
      some (.inl (.inr ()))
noncomputable def orielref14_Cell (a0 : Int × K72c5.T) : Option (Bool) :=
  ((orielref12_May a0.2.2.2).bind fun x2 =>
    bif !x2 then
      some true
    else
      some false : Option (Bool)).bind fun x3 =>
  bif x3 then
    some false
  else
    (bif a0.2.2.1 == 2 then
        some true
      else
        some false : Option (Bool)).bind fun x4 =>
    bif x4 then
      bif a0.1 == 0 then
        bif a0.2.1.1 == 0 then
          some (a0.2.1.2 == 0)
        else
          some false
      else
        some false
    else
      (bif a0.2.2.1 != 0 then
          bif a0.2.2.1 != 1 then
            some true
          else
            (orielref13_Of a0.1).bind fun x7 =>
            bif x7 != (IntKind.i64.wrap ((1 : Int) + a0.2.2.1)) then
              some true
            else
              some false
        else
          (orielref13_Of a0.1).bind fun x8 =>
          bif x8 != (IntKind.i64.wrap ((1 : Int) + a0.2.2.1)) then
            some true
          else
            some false : Option (Bool)).bind fun x9 =>
      bif x9 then
        some false
      else
        (loopO (orielref14_Cell_loop1 a0) 0).bind fun o => match o with
        | .inl _ =>
          some false
        | .inr _ =>
          some true
noncomputable def orielref14_May_loop1 (a0 : List (Int × K72c5.T)) (x20 : Int) : Option (((Unit) ⊕ (Unit)) ⊕ (Int)) :=
    (bif decide (x20 < (a0.length : Int)) then
        some true
      else
        some false : Option (Bool)).bind fun x21 =>
    bif x21 then
      ((getI a0 x20).bind fun x24 =>
        (orielref14_Cell x24).bind fun x25 =>
        bif !x25 then
          some true
        else
          some false : Option (Bool)).bind fun x26 =>
      bif x26 then
        some (.inl (.inl ()))
      else
        ((getI a0 x20).bind fun x31 =>
          bif x31.2.2.1 == 1 then
            bif (IntKind.i64.wrap (x20 + 1)) == (a0.length : Int) then
              some true
            else
              (getI a0 (IntKind.i64.wrap (x20 + 1))).bind fun x32 =>
              bif x32.2.2.1 != 2 then
                some true
              else
                (getI a0 (IntKind.i64.wrap (x20 + 1))).bind fun x33 =>
                (getI a0 x20).bind fun x34 =>
                bif !((x33.2.2.2.1 == x34.2.2.2.1) && ((x33.2.2.2.2.1 == x34.2.2.2.2.1) && ((x33.2.2.2.2.2 == x34.2.2.2.2.2) && true))) then
                  some true
                else
                  some false
          else
            some false : Option (Bool)).bind fun x35 =>
        bif x35 then
          some (.inl (.inl ()))
        else
          ((getI a0 x20).bind fun x38 =>
            bif x38.2.2.1 == 2 then
              bif x20 == 0 then
                some true
              else
                (getI a0 (IntKind.i64.wrap (x20 - 1))).bind fun x39 =>
                bif x39.2.2.1 != 1 then
                  some true
                else
                  some false
            else
              some false : Option (Bool)).bind fun x40 =>
          bif x40 then
            some (.inl (.inl ()))
          else
            some (.inr (IntKind.i64.wrap (x20 + 1)))
    else
      some (.inl (.inr ()))
noncomputable def orielref14_May (a0 : List (Int × K72c5.T)) : Option (Bool) :=
  (bif decide ((a0.length : Int) > 1000) then
      some true
    else
      some false : Option (Bool)).bind fun x1 =>
  bif x1 then
    some false
  else
    (loopO (orielref14_May_loop1 a0) 0).bind fun o => match o with
    | .inl _ =>
      some false
    | .inr _ =>
      some true
noncomputable def orielref15_With_loop1 (a0 : List (List (Int × K72c5.T))) (a1 : Int) (a2 : List (Int × K72c5.T)) (x15 : Int × (List (List (Int × K72c5.T)))) : Option ((((List (List (Int × K72c5.T))))) ⊕ (Int × (List (List (Int × K72c5.T))))) :=
    (bif decide (x15.1 < (a0.length : Int)) then
        some true
      else
        some false : Option (Bool)).bind fun x16 =>
    bif x16 then
      ((bif x15.1 == a1 then
            (getI a0 x15.1).bind fun x25 =>
            bif (a2.length : Int) == (x25.length : Int) then
              (orielref14_May a2).bind fun x26 =>
              bif x26 then
                some true
              else
                some false
            else
              some false
          else
            some false : Option (Bool)).bind fun x27 =>
        bif x27 then
          req (x15.2.length = x15.2.length) <|
          req ((x15.2 ++ [a2]).length * 24 ≤ maxBy) <|
          req ((x15.2 ++ [a2]).length = (x15.2 ++ [a2]).length) (some (x15.2 ++ [a2]))
        else
          (getI a0 x15.1).bind fun x28 =>
          req (x15.2.length = x15.2.length) <|
          req ((x15.2 ++ [x28]).length * 24 ≤ maxBy) <|
          req ((x15.2 ++ [x28]).length = (x15.2 ++ [x28]).length) (some (x15.2 ++ [x28])) : Option ((List (List (Int × K72c5.T))))).bind fun x29 =>
      req (x29.length = x29.length) (some (.inr (IntKind.i64.wrap (x15.1 + 1), x29)))
    else
      req (x15.2.length = x15.2.length) (some (.inl x15.2))
noncomputable def orielref15_With (a0 : List (List (Int × K72c5.T))) (a1 : Int) (a2 : List (Int × K72c5.T)) : Option ((List (List (Int × K72c5.T)))) :=
  (loopO (orielref15_With_loop1 a0 a1 a2) (0, [])).bind fun x30 =>
  req (x30.length = x30.length) (some x30)
noncomputable def orielref17_row (a0 : Int × Int × K05d1.T) (a1 : List (Int × K72c5.T)) : Option ((Int × Int × K05d1.T)) :=
  (orielref15_With a0.2.2.1 a0.2.2.2.2.1 a1).bind fun x1 =>
  some (a0.1, a0.2.1, x1, a0.2.2.2)
noncomputable def orielref15_Scroll_loop1 (a0 : List (List (Int × K72c5.T))) (a1 : Int) (a2 : Int) (x7 : Int) (a4 : K92a5.T) (x22 : Int × (List (List (Int × K72c5.T)))) : Option ((((List (List (Int × K72c5.T))))) ⊕ (Int × (List (List (Int × K72c5.T))))) :=
    (bif decide (x22.1 < (a0.length : Int)) then
        some true
      else
        some false : Option (Bool)).bind fun x23 =>
    bif x23 then
      ((bif decide (x22.1 < a1) then
            some true
          else
            bif decide (x22.1 > a2) then
              some true
            else
              some false : Option (Bool)).bind fun x30 =>
        bif x30 then
          (getI a0 x22.1).bind fun x31 =>
          req (x22.2.length = x22.2.length) <|
          req ((x22.2 ++ [x31]).length * 24 ≤ maxBy) <|
          req ((x22.2 ++ [x31]).length = (x22.2 ++ [x31]).length) (some (x22.2 ++ [x31]))
        else
          (bif decide ((IntKind.i64.wrap (x22.1 + x7)) < a1) then
              some true
            else
              bif decide ((IntKind.i64.wrap (x22.1 + x7)) > a2) then
                some true
              else
                some false : Option (Bool)).bind fun x32 =>
          bif x32 then
            (getI a0 0).bind fun x33 =>
            (orielref14_Blanks (x33.length : Int) a4).bind fun x34 =>
            req (x22.2.length = x22.2.length) <|
            req ((x22.2 ++ [x34]).length * 24 ≤ maxBy) <|
            req ((x22.2 ++ [x34]).length = (x22.2 ++ [x34]).length) (some (x22.2 ++ [x34]))
          else
            (getI a0 (IntKind.i64.wrap (x22.1 + x7))).bind fun x35 =>
            req (x22.2.length = x22.2.length) <|
            req ((x22.2 ++ [x35]).length * 24 ≤ maxBy) <|
            req ((x22.2 ++ [x35]).length = (x22.2 ++ [x35]).length) (some (x22.2 ++ [x35])) : Option ((List (List (Int × K72c5.T))))).bind fun x36 =>
      req (x36.length = x36.length) (some (.inr (IntKind.i64.wrap (x22.1 + 1), x36)))
    else
      req (x22.2.length = x22.2.length) (some (.inl x22.2))
noncomputable def orielref15_Scroll (a0 : List (List (Int × K72c5.T))) (a1 : Int) (a2 : Int) (a3 : Int) (a4 : K92a5.T) : Option ((List (List (Int × K72c5.T)))) :=
  (bif decide (a1 < 0) then
      some true
    else
      bif decide (a1 > a2) then
        some true
      else
        bif decide (a2 ≥ (a0.length : Int)) then
          some true
        else
          some false : Option (Bool)).bind fun x1 =>
  bif x1 then
    some a0
  else
    ((bif decide (a3 > 300) then
          some true
        else
          some false : Option (Bool)).bind fun x3 =>
      bif x3 then
        some 300
      else
        some a3 : Option (Int)).bind fun x4 =>
    ((bif decide (x4 < (-300)) then
          some true
        else
          some false : Option (Bool)).bind fun x6 =>
      bif x6 then
        some (-300)
      else
        some x4 : Option (Int)).bind fun x7 =>
    (loopO (orielref15_Scroll_loop1 a0 a1 a2 x7 a4) (0, [])).bind fun x37 =>
    req (x37.length = x37.length) (some x37)
noncomputable def orielref17_feed (a0 : Int × Int × K05d1.T) : Option ((Int × Int × K05d1.T)) :=
  ((bif a0.2.2.2.2.1 == a0.2.2.2.2.2.2.2.2.2.1 then
        some true
      else
        some false : Option (Bool)).bind fun x4 =>
    bif x4 then
      (orielref15_Scroll a0.2.2.1 a0.2.2.2.2.2.2.2.2.1 a0.2.2.2.2.2.2.2.2.2.1 1 a0.2.2.2.2.2.2.2.1).bind fun x5 =>
      some (x5, a0.2.2.2.2.1)
    else
      (bif decide (a0.2.2.2.2.1 < (IntKind.i64.wrap (a0.1 - 1))) then
          some true
        else
          some false : Option (Bool)).bind fun x6 =>
      bif x6 then
        some (a0.2.2.1, IntKind.i64.wrap (a0.2.2.2.2.1 + 1))
      else
        some (a0.2.2.1, a0.2.2.2.2.1) : Option ((List (List (Int × K72c5.T))) × Int)).bind fun x7 =>
  some (a0.1, a0.2.1, x7.1, a0.2.2.2.1, x7.2, a0.2.2.2.2.2)
noncomputable def orielref14_Tear_668_loop1 (a0 : List (Int × K72c5.T)) (a1 : Int) (x8 : Int × (List (Int × K72c5.T))) : Option ((((List (Int × K72c5.T)))) ⊕ (Int × (List (Int × K72c5.T)))) :=
    (bif decide (x8.1 < (a0.length : Int)) then
        some true
      else
        some false : Option (Bool)).bind fun x9 =>
    bif x9 then
      (getI a0 x8.1).bind fun x10 =>
      ((bif x8.1 == a1 then
            bif x10.2.2.1 == 2 then
              some true
            else
              bif x8.1 == (IntKind.i64.wrap (a1 - 1)) then
                bif x10.2.2.1 == 1 then
                  some true
                else
                  some false
              else
                some false
          else
            bif x8.1 == (IntKind.i64.wrap (a1 - 1)) then
              bif x10.2.2.1 == 1 then
                some true
              else
                some false
            else
              some false : Option (Bool)).bind fun x13 =>
        bif x13 then
          (orielref14_Blank x10.2.2.2).bind fun x14 =>
          some (x14.1, x14.2.1.1, x14.2.1.2, x14.2.2.1, x14.2.2.2.1, x14.2.2.2.2.1, x14.2.2.2.2.2)
        else
          some (x10.1, x10.2.1.1, x10.2.1.2, x10.2.2.1, x10.2.2.2.1, x10.2.2.2.2.1, x10.2.2.2.2.2) : Option (Int × Int × Int × Int × Int × Int × Int)).bind fun x15 =>
      req (x8.2.length = x8.2.length) <|
      req ((x8.2 ++ [(x15.1, (x15.2.1, x15.2.2.1), x15.2.2.2)]).length * 48 ≤ maxBy) <|
      req ((x8.2 ++ [(x15.1, (x15.2.1, x15.2.2.1), x15.2.2.2)]).length = (x8.2 ++ [(x15.1, (x15.2.1, x15.2.2.1), x15.2.2.2)]).length) (some (.inr (IntKind.i64.wrap (x8.1 + 1), x8.2 ++ [(x15.1, (x15.2.1, x15.2.2.1), x15.2.2.2)])))
    else
      req (x8.2.length = x8.2.length) (some (.inl x8.2))
noncomputable def orielref14_Tear_668 (a0 : List (Int × K72c5.T)) (a1 : Int) : Option ((List (Int × K72c5.T))) :=
  (loopO (orielref14_Tear_668_loop1 a0 a1) (0, [])).bind fun x16 =>
  req (x16.length = x16.length) (some x16)
noncomputable def orielref14_Tear_ed0_loop1 (a1 : List (Int × K72c5.T)) (a0 : Int) (x8 : Int × (List (Int × K72c5.T))) : Option ((((List (Int × K72c5.T)))) ⊕ (Int × (List (Int × K72c5.T)))) :=
    (bif decide (x8.1 < ((a1.length : Nat) : Int)) then
        some true
      else
        some false : Option (Bool)).bind fun x9 =>
    bif x9 then
      req (0 ≤ x8.1 ∧ x8.1 < ((a1.length : Nat) : Int)) <|
      (a1[x8.1.toNat]?).bind fun x10 =>
      ((bif x8.1 == a0 then
            bif x10.2.2.1 == 2 then
              some true
            else
              bif x8.1 == (IntKind.i64.wrap (a0 - 1)) then
                bif x10.2.2.1 == 1 then
                  some true
                else
                  some false
              else
                some false
          else
            bif x8.1 == (IntKind.i64.wrap (a0 - 1)) then
              bif x10.2.2.1 == 1 then
                some true
              else
                some false
            else
              some false : Option (Bool)).bind fun x13 =>
        bif x13 then
          (orielref14_Blank x10.2.2.2).bind fun x14 =>
          some (x14.1, x14.2.1.1, x14.2.1.2, x14.2.2.1, x14.2.2.2.1, x14.2.2.2.2.1, x14.2.2.2.2.2)
        else
          some (x10.1, x10.2.1.1, x10.2.1.2, x10.2.2.1, x10.2.2.2.1, x10.2.2.2.2.1, x10.2.2.2.2.2) : Option (Int × Int × Int × Int × Int × Int × Int)).bind fun x15 =>
      req (x8.2.length = x8.2.length) <|
      req ((x8.2 ++ [(x15.1, (x15.2.1, x15.2.2.1), x15.2.2.2)]).length * 48 ≤ maxBy) <|
      req ((x8.2 ++ [(x15.1, (x15.2.1, x15.2.2.1), x15.2.2.2)]).length = (x8.2 ++ [(x15.1, (x15.2.1, x15.2.2.1), x15.2.2.2)]).length) (some (.inr (IntKind.i64.wrap (x8.1 + 1), x8.2 ++ [(x15.1, (x15.2.1, x15.2.2.1), x15.2.2.2)])))
    else
      req (x8.2.length = x8.2.length) (some (.inl x8.2))
noncomputable def orielref14_Tear_ed0 (a0 : Int) (a1 : List (Int × K72c5.T)) : Option ((List (Int × K72c5.T))) :=
  (loopO (orielref14_Tear_ed0_loop1 a1 a0) (0, [])).bind fun x16 =>
  req (x16.length = x16.length) (some x16)
noncomputable def orielref14_Insert (a0 : List (Int × K72c5.T)) (a1 : Int) (a2 : Int) (a3 : K92a5.T) : Option ((List (Int × K72c5.T))) :=
  (bif decide (a2 < 1) then
      some true
    else
      bif decide (a1 < 0) then
        some true
      else
        bif decide (a1 ≥ (a0.length : Int)) then
          some true
        else
          some false : Option (Bool)).bind fun x1 =>
  bif x1 then
    some a0
  else
    ((bif decide (a2 > (IntKind.i64.wrap ((a0.length : Int) - a1))) then
          some true
        else
          some false : Option (Bool)).bind fun x3 =>
      bif x3 then
        some (IntKind.i64.wrap ((a0.length : Int) - a1))
      else
        some a2 : Option (Int)).bind fun x4 =>
    (orielref14_Tear_668 a0 a1).bind fun x5 =>
    req (x5.length = x5.length) <|
    (orielref14_Tear_ed0 (IntKind.i64.wrap ((a0.length : Int) - x4)) x5).bind fun x6 =>
    req (0 ≤ (0 : Int) ∧ (0 : Int) ≤ a1 ∧ a1 ≤ ((x6.length : Nat) : Int)) <|
    req (0 + a1.toNat ≤ x6.length) <|
    req ((([] : List (Int × K72c5.T)) ++ ((x6.drop 0).take a1.toNat)).length * 48 ≤ maxBy) <|
    (orielref14_Blanks x4 a3).bind fun x7 =>
    req ((([] : List (Int × K72c5.T)) ++ ((x6.drop 0).take a1.toNat)).length = (([] : List (Int × K72c5.T)) ++ ((x6.drop 0).take a1.toNat)).length) <|
    req (((([] : List (Int × K72c5.T)) ++ ((x6.drop 0).take a1.toNat)) ++ x7).length * 48 ≤ maxBy) <|
    req (0 ≤ a1 ∧ a1 ≤ (IntKind.i64.wrap ((a0.length : Int) - x4)) ∧ (IntKind.i64.wrap ((a0.length : Int) - x4)) ≤ ((x6.length : Nat) : Int)) <|
    req (((([] : List (Int × K72c5.T)) ++ ((x6.drop 0).take a1.toNat)) ++ x7).length = ((([] : List (Int × K72c5.T)) ++ ((x6.drop 0).take a1.toNat)) ++ x7).length) <|
    req (a1.toNat + ((IntKind.i64.wrap ((a0.length : Int) - x4)).toNat - a1.toNat) ≤ x6.length) <|
    req ((((([] : List (Int × K72c5.T)) ++ ((x6.drop 0).take a1.toNat)) ++ x7) ++ ((x6.drop a1.toNat).take ((IntKind.i64.wrap ((a0.length : Int) - x4)).toNat - a1.toNat))).length * 48 ≤ maxBy) <|
    req ((((([] : List (Int × K72c5.T)) ++ ((x6.drop 0).take a1.toNat)) ++ x7) ++ ((x6.drop a1.toNat).take ((IntKind.i64.wrap ((a0.length : Int) - x4)).toNat - a1.toNat))).length = (((([] : List (Int × K72c5.T)) ++ ((x6.drop 0).take a1.toNat)) ++ x7) ++ ((x6.drop a1.toNat).take ((IntKind.i64.wrap ((a0.length : Int) - x4)).toNat - a1.toNat))).length) (some (((([] : List (Int × K72c5.T)) ++ ((x6.drop 0).take a1.toNat)) ++ x7) ++ ((x6.drop a1.toNat).take ((IntKind.i64.wrap ((a0.length : Int) - x4)).toNat - a1.toNat))))
noncomputable def orielref14_Put (a0 : List (Int × K72c5.T)) (a1 : Int) (a2 : Int) (a3 : K92a5.T) : Option ((List (Int × K72c5.T))) :=
  (orielref13_Of a2).bind fun x1 =>
  (bif decide (x1 < 1) then
      some true
    else
      bif decide (a1 < 0) then
        some true
      else
        bif decide (a1 ≥ (a0.length : Int)) then
          some true
        else
          bif x1 == 2 then
            bif a1 == (IntKind.i64.wrap ((a0.length : Int) - 1)) then
              some true
            else
              some false
          else
            some false : Option (Bool)).bind fun x2 =>
  bif x2 then
    some a0
  else
    (orielref14_Tear_668 a0 a1).bind fun x3 =>
    req (x3.length = x3.length) <|
    (orielref14_Tear_ed0 (IntKind.i64.wrap (a1 + x1)) x3).bind fun x4 =>
    req (0 ≤ a1 ∧ a1 < ((x4.length : Nat) : Int)) <|
    (x4[a1.toNat]?).bind fun x5 =>
    ((bif x1 == 2 then
          some true
        else
          some false : Option (Bool)).bind fun x8 =>
      bif x8 then
        req (0 ≤ (IntKind.i64.wrap (a1 + 1)) ∧ (IntKind.i64.wrap (a1 + 1)) < ((x4.length : Nat) : Int)) <|
        ((x4.set a1.toNat (a2, (0, 0), IntKind.i64.wrap (x1 - 1), a3))[(IntKind.i64.wrap (a1 + 1)).toNat]?).bind fun x9 =>
        some ((x4.set a1.toNat (a2, (0, 0), IntKind.i64.wrap (x1 - 1), a3)).set ((IntKind.i64.wrap (a1 + 1)).toNat) (0, (0, 0), 2, a3))
      else
        some (x4.set a1.toNat (a2, (0, 0), IntKind.i64.wrap (x1 - 1), a3)) : Option ((List (Int × K72c5.T)))).bind fun x10 =>
    req (x4.length = x10.length) (some x10)
noncomputable def orielref17_print (a0 : Int × Int × K05d1.T) (a1 : Int) : Option ((Int × Int × K05d1.T)) :=
  (orielref13_Of a1).bind fun x1 =>
  (bif decide (x1 < 0) then
      some true
    else
      bif decide (x1 > a0.2.1) then
        some true
      else
        some false : Option (Bool)).bind fun x2 =>
  bif x2 then
    some a0
  else
    (bif x1 == 0 then
        some true
      else
        some false : Option (Bool)).bind fun x3 =>
    bif x3 then
      (bif a0.2.2.2.2.2.2.1 then
          some true
        else
          some false : Option (Bool)).bind fun x4 =>
      bif x4 then
        (getI a0.2.2.1 a0.2.2.2.2.1).bind fun x5 =>
        (orielref14_Mark x5 a0.2.2.2.2.2.1 a1).bind fun x6 =>
        (orielref17_row a0 x6).bind fun x7 =>
        some x7
      else
        (getI a0.2.2.1 a0.2.2.2.2.1).bind fun x8 =>
        (orielref14_Mark x8 (IntKind.i64.wrap (a0.2.2.2.2.2.1 - 1)) a1).bind fun x9 =>
        (orielref17_row a0 x9).bind fun x10 =>
        some x10
    else
      (orielref17_Has a0 1).bind fun x11 =>
      ((bif a0.2.2.2.2.2.2.1 then
            some true
          else
            some false : Option (Bool)).bind fun x15 =>
        bif x15 then
          (bif x11 then
              some true
            else
              some false : Option (Bool)).bind fun x16 =>
          bif x16 then
            (orielref17_feed (a0.1, a0.2.1, a0.2.2.1, a0.2.2.2.1, a0.2.2.2.2.1, 0, false, a0.2.2.2.2.2.2.2)).bind fun x17 =>
            some (x17.1, x17.2.1, x17.2.2.1, x17.2.2.2.1, x17.2.2.2.2.1, x17.2.2.2.2.2.1, x17.2.2.2.2.2.2.1, x17.2.2.2.2.2.2.2.1.1, x17.2.2.2.2.2.2.2.1.2.1, x17.2.2.2.2.2.2.2.1.2.2, x17.2.2.2.2.2.2.2.2.1, x17.2.2.2.2.2.2.2.2.2.1, x17.2.2.2.2.2.2.2.2.2.2.1, x17.2.2.2.2.2.2.2.2.2.2.2.1.1.1, x17.2.2.2.2.2.2.2.2.2.2.2.1.1.2.1, x17.2.2.2.2.2.2.2.2.2.2.2.1.1.2.2.1.1, x17.2.2.2.2.2.2.2.2.2.2.2.1.1.2.2.1.2.1, x17.2.2.2.2.2.2.2.2.2.2.2.1.1.2.2.1.2.2, x17.2.2.2.2.2.2.2.2.2.2.2.1.1.2.2.2.1, x17.2.2.2.2.2.2.2.2.2.2.2.1.1.2.2.2.2, x17.2.2.2.2.2.2.2.2.2.2.2.1.2.1, x17.2.2.2.2.2.2.2.2.2.2.2.1.2.2.1, x17.2.2.2.2.2.2.2.2.2.2.2.1.2.2.2.1.1, x17.2.2.2.2.2.2.2.2.2.2.2.1.2.2.2.1.2.1, x17.2.2.2.2.2.2.2.2.2.2.2.1.2.2.2.1.2.2, x17.2.2.2.2.2.2.2.2.2.2.2.1.2.2.2.2.1, x17.2.2.2.2.2.2.2.2.2.2.2.1.2.2.2.2.2, x17.2.2.2.2.2.2.2.2.2.2.2.2.1.1, x17.2.2.2.2.2.2.2.2.2.2.2.2.1.2.1, x17.2.2.2.2.2.2.2.2.2.2.2.2.1.2.2.1, x17.2.2.2.2.2.2.2.2.2.2.2.2.1.2.2.2, x17.2.2.2.2.2.2.2.2.2.2.2.2.2)
          else
            some (a0.1, a0.2.1, a0.2.2.1, a0.2.2.2.1, a0.2.2.2.2.1, a0.2.2.2.2.2.1, false, a0.2.2.2.2.2.2.2.1.1, a0.2.2.2.2.2.2.2.1.2.1, a0.2.2.2.2.2.2.2.1.2.2, a0.2.2.2.2.2.2.2.2.1, a0.2.2.2.2.2.2.2.2.2.1, a0.2.2.2.2.2.2.2.2.2.2.1, a0.2.2.2.2.2.2.2.2.2.2.2.1.1.1, a0.2.2.2.2.2.2.2.2.2.2.2.1.1.2.1, a0.2.2.2.2.2.2.2.2.2.2.2.1.1.2.2.1.1, a0.2.2.2.2.2.2.2.2.2.2.2.1.1.2.2.1.2.1, a0.2.2.2.2.2.2.2.2.2.2.2.1.1.2.2.1.2.2, a0.2.2.2.2.2.2.2.2.2.2.2.1.1.2.2.2.1, a0.2.2.2.2.2.2.2.2.2.2.2.1.1.2.2.2.2, a0.2.2.2.2.2.2.2.2.2.2.2.1.2.1, a0.2.2.2.2.2.2.2.2.2.2.2.1.2.2.1, a0.2.2.2.2.2.2.2.2.2.2.2.1.2.2.2.1.1, a0.2.2.2.2.2.2.2.2.2.2.2.1.2.2.2.1.2.1, a0.2.2.2.2.2.2.2.2.2.2.2.1.2.2.2.1.2.2, a0.2.2.2.2.2.2.2.2.2.2.2.1.2.2.2.2.1, a0.2.2.2.2.2.2.2.2.2.2.2.1.2.2.2.2.2, a0.2.2.2.2.2.2.2.2.2.2.2.2.1.1, a0.2.2.2.2.2.2.2.2.2.2.2.2.1.2.1, a0.2.2.2.2.2.2.2.2.2.2.2.2.1.2.2.1, a0.2.2.2.2.2.2.2.2.2.2.2.2.1.2.2.2, a0.2.2.2.2.2.2.2.2.2.2.2.2.2)
        else
          some (a0.1, a0.2.1, a0.2.2.1, a0.2.2.2.1, a0.2.2.2.2.1, a0.2.2.2.2.2.1, a0.2.2.2.2.2.2.1, a0.2.2.2.2.2.2.2.1.1, a0.2.2.2.2.2.2.2.1.2.1, a0.2.2.2.2.2.2.2.1.2.2, a0.2.2.2.2.2.2.2.2.1, a0.2.2.2.2.2.2.2.2.2.1, a0.2.2.2.2.2.2.2.2.2.2.1, a0.2.2.2.2.2.2.2.2.2.2.2.1.1.1, a0.2.2.2.2.2.2.2.2.2.2.2.1.1.2.1, a0.2.2.2.2.2.2.2.2.2.2.2.1.1.2.2.1.1, a0.2.2.2.2.2.2.2.2.2.2.2.1.1.2.2.1.2.1, a0.2.2.2.2.2.2.2.2.2.2.2.1.1.2.2.1.2.2, a0.2.2.2.2.2.2.2.2.2.2.2.1.1.2.2.2.1, a0.2.2.2.2.2.2.2.2.2.2.2.1.1.2.2.2.2, a0.2.2.2.2.2.2.2.2.2.2.2.1.2.1, a0.2.2.2.2.2.2.2.2.2.2.2.1.2.2.1, a0.2.2.2.2.2.2.2.2.2.2.2.1.2.2.2.1.1, a0.2.2.2.2.2.2.2.2.2.2.2.1.2.2.2.1.2.1, a0.2.2.2.2.2.2.2.2.2.2.2.1.2.2.2.1.2.2, a0.2.2.2.2.2.2.2.2.2.2.2.1.2.2.2.2.1, a0.2.2.2.2.2.2.2.2.2.2.2.1.2.2.2.2.2, a0.2.2.2.2.2.2.2.2.2.2.2.2.1.1, a0.2.2.2.2.2.2.2.2.2.2.2.2.1.2.1, a0.2.2.2.2.2.2.2.2.2.2.2.2.1.2.2.1, a0.2.2.2.2.2.2.2.2.2.2.2.2.1.2.2.2, a0.2.2.2.2.2.2.2.2.2.2.2.2.2) : Option (Int × Int × (List (List (Int × K72c5.T))) × (List (List (Int × K72c5.T))) × Int × Int × Bool × Int × Int × Int × Int × Int × Int × Int × Int × Int × Int × Int × Bool × Bool × Int × Int × Int × Int × Int × Bool × Bool × Int × Int × Int × Int × List Int)).bind fun x18 =>
      ((bif decide ((IntKind.i64.wrap (x18.2.2.2.2.2.1 + x1)) > x18.2.1) then
            some true
          else
            some false : Option (Bool)).bind fun x22 =>
        bif x22 then
          (bif x11 then
              some true
            else
              some false : Option (Bool)).bind fun x23 =>
          bif x23 then
            (orielref17_feed (x18.1, x18.2.1, x18.2.2.1, x18.2.2.2.1, x18.2.2.2.2.1, 0, x18.2.2.2.2.2.2.1, (x18.2.2.2.2.2.2.2.1, x18.2.2.2.2.2.2.2.2.1, x18.2.2.2.2.2.2.2.2.2.1), x18.2.2.2.2.2.2.2.2.2.2.1, x18.2.2.2.2.2.2.2.2.2.2.2.1, x18.2.2.2.2.2.2.2.2.2.2.2.2.1, ((x18.2.2.2.2.2.2.2.2.2.2.2.2.2.1, x18.2.2.2.2.2.2.2.2.2.2.2.2.2.2.1, (x18.2.2.2.2.2.2.2.2.2.2.2.2.2.2.2.1, x18.2.2.2.2.2.2.2.2.2.2.2.2.2.2.2.2.1, x18.2.2.2.2.2.2.2.2.2.2.2.2.2.2.2.2.2.1), x18.2.2.2.2.2.2.2.2.2.2.2.2.2.2.2.2.2.2.1, x18.2.2.2.2.2.2.2.2.2.2.2.2.2.2.2.2.2.2.2.1), x18.2.2.2.2.2.2.2.2.2.2.2.2.2.2.2.2.2.2.2.2.1, x18.2.2.2.2.2.2.2.2.2.2.2.2.2.2.2.2.2.2.2.2.2.1, (x18.2.2.2.2.2.2.2.2.2.2.2.2.2.2.2.2.2.2.2.2.2.2.1, x18.2.2.2.2.2.2.2.2.2.2.2.2.2.2.2.2.2.2.2.2.2.2.2.1, x18.2.2.2.2.2.2.2.2.2.2.2.2.2.2.2.2.2.2.2.2.2.2.2.2.1), x18.2.2.2.2.2.2.2.2.2.2.2.2.2.2.2.2.2.2.2.2.2.2.2.2.2.1, x18.2.2.2.2.2.2.2.2.2.2.2.2.2.2.2.2.2.2.2.2.2.2.2.2.2.2.1), (x18.2.2.2.2.2.2.2.2.2.2.2.2.2.2.2.2.2.2.2.2.2.2.2.2.2.2.2.1, x18.2.2.2.2.2.2.2.2.2.2.2.2.2.2.2.2.2.2.2.2.2.2.2.2.2.2.2.2.1, x18.2.2.2.2.2.2.2.2.2.2.2.2.2.2.2.2.2.2.2.2.2.2.2.2.2.2.2.2.2.1, x18.2.2.2.2.2.2.2.2.2.2.2.2.2.2.2.2.2.2.2.2.2.2.2.2.2.2.2.2.2.2.1), x18.2.2.2.2.2.2.2.2.2.2.2.2.2.2.2.2.2.2.2.2.2.2.2.2.2.2.2.2.2.2.2)).bind fun x24 =>
            some (x24.1, x24.2.1, x24.2.2.1, x24.2.2.2.1, x24.2.2.2.2.1, x24.2.2.2.2.2.1, x24.2.2.2.2.2.2.1, x24.2.2.2.2.2.2.2.1.1, x24.2.2.2.2.2.2.2.1.2.1, x24.2.2.2.2.2.2.2.1.2.2, x24.2.2.2.2.2.2.2.2.1, x24.2.2.2.2.2.2.2.2.2.1, x24.2.2.2.2.2.2.2.2.2.2.1, x24.2.2.2.2.2.2.2.2.2.2.2.1.1.1, x24.2.2.2.2.2.2.2.2.2.2.2.1.1.2.1, x24.2.2.2.2.2.2.2.2.2.2.2.1.1.2.2.1.1, x24.2.2.2.2.2.2.2.2.2.2.2.1.1.2.2.1.2.1, x24.2.2.2.2.2.2.2.2.2.2.2.1.1.2.2.1.2.2, x24.2.2.2.2.2.2.2.2.2.2.2.1.1.2.2.2.1, x24.2.2.2.2.2.2.2.2.2.2.2.1.1.2.2.2.2, x24.2.2.2.2.2.2.2.2.2.2.2.1.2.1, x24.2.2.2.2.2.2.2.2.2.2.2.1.2.2.1, x24.2.2.2.2.2.2.2.2.2.2.2.1.2.2.2.1.1, x24.2.2.2.2.2.2.2.2.2.2.2.1.2.2.2.1.2.1, x24.2.2.2.2.2.2.2.2.2.2.2.1.2.2.2.1.2.2, x24.2.2.2.2.2.2.2.2.2.2.2.1.2.2.2.2.1, x24.2.2.2.2.2.2.2.2.2.2.2.1.2.2.2.2.2, x24.2.2.2.2.2.2.2.2.2.2.2.2.1.1, x24.2.2.2.2.2.2.2.2.2.2.2.2.1.2.1, x24.2.2.2.2.2.2.2.2.2.2.2.2.1.2.2.1, x24.2.2.2.2.2.2.2.2.2.2.2.2.1.2.2.2, x24.2.2.2.2.2.2.2.2.2.2.2.2.2)
          else
            some (x18.1, x18.2.1, x18.2.2.1, x18.2.2.2.1, x18.2.2.2.2.1, IntKind.i64.wrap (x18.2.1 - x1), x18.2.2.2.2.2.2.1, x18.2.2.2.2.2.2.2.1, x18.2.2.2.2.2.2.2.2.1, x18.2.2.2.2.2.2.2.2.2.1, x18.2.2.2.2.2.2.2.2.2.2.1, x18.2.2.2.2.2.2.2.2.2.2.2.1, x18.2.2.2.2.2.2.2.2.2.2.2.2.1, x18.2.2.2.2.2.2.2.2.2.2.2.2.2.1, x18.2.2.2.2.2.2.2.2.2.2.2.2.2.2.1, x18.2.2.2.2.2.2.2.2.2.2.2.2.2.2.2.1, x18.2.2.2.2.2.2.2.2.2.2.2.2.2.2.2.2.1, x18.2.2.2.2.2.2.2.2.2.2.2.2.2.2.2.2.2.1, x18.2.2.2.2.2.2.2.2.2.2.2.2.2.2.2.2.2.2.1, x18.2.2.2.2.2.2.2.2.2.2.2.2.2.2.2.2.2.2.2.1, x18.2.2.2.2.2.2.2.2.2.2.2.2.2.2.2.2.2.2.2.2.1, x18.2.2.2.2.2.2.2.2.2.2.2.2.2.2.2.2.2.2.2.2.2.1, x18.2.2.2.2.2.2.2.2.2.2.2.2.2.2.2.2.2.2.2.2.2.2.1, x18.2.2.2.2.2.2.2.2.2.2.2.2.2.2.2.2.2.2.2.2.2.2.2.1, x18.2.2.2.2.2.2.2.2.2.2.2.2.2.2.2.2.2.2.2.2.2.2.2.2.1, x18.2.2.2.2.2.2.2.2.2.2.2.2.2.2.2.2.2.2.2.2.2.2.2.2.2.1, x18.2.2.2.2.2.2.2.2.2.2.2.2.2.2.2.2.2.2.2.2.2.2.2.2.2.2.1, x18.2.2.2.2.2.2.2.2.2.2.2.2.2.2.2.2.2.2.2.2.2.2.2.2.2.2.2.1, x18.2.2.2.2.2.2.2.2.2.2.2.2.2.2.2.2.2.2.2.2.2.2.2.2.2.2.2.2.1, x18.2.2.2.2.2.2.2.2.2.2.2.2.2.2.2.2.2.2.2.2.2.2.2.2.2.2.2.2.2.1, x18.2.2.2.2.2.2.2.2.2.2.2.2.2.2.2.2.2.2.2.2.2.2.2.2.2.2.2.2.2.2.1, x18.2.2.2.2.2.2.2.2.2.2.2.2.2.2.2.2.2.2.2.2.2.2.2.2.2.2.2.2.2.2.2)
        else
          some (x18.1, x18.2.1, x18.2.2.1, x18.2.2.2.1, x18.2.2.2.2.1, x18.2.2.2.2.2.1, x18.2.2.2.2.2.2.1, x18.2.2.2.2.2.2.2.1, x18.2.2.2.2.2.2.2.2.1, x18.2.2.2.2.2.2.2.2.2.1, x18.2.2.2.2.2.2.2.2.2.2.1, x18.2.2.2.2.2.2.2.2.2.2.2.1, x18.2.2.2.2.2.2.2.2.2.2.2.2.1, x18.2.2.2.2.2.2.2.2.2.2.2.2.2.1, x18.2.2.2.2.2.2.2.2.2.2.2.2.2.2.1, x18.2.2.2.2.2.2.2.2.2.2.2.2.2.2.2.1, x18.2.2.2.2.2.2.2.2.2.2.2.2.2.2.2.2.1, x18.2.2.2.2.2.2.2.2.2.2.2.2.2.2.2.2.2.1, x18.2.2.2.2.2.2.2.2.2.2.2.2.2.2.2.2.2.2.1, x18.2.2.2.2.2.2.2.2.2.2.2.2.2.2.2.2.2.2.2.1, x18.2.2.2.2.2.2.2.2.2.2.2.2.2.2.2.2.2.2.2.2.1, x18.2.2.2.2.2.2.2.2.2.2.2.2.2.2.2.2.2.2.2.2.2.1, x18.2.2.2.2.2.2.2.2.2.2.2.2.2.2.2.2.2.2.2.2.2.2.1, x18.2.2.2.2.2.2.2.2.2.2.2.2.2.2.2.2.2.2.2.2.2.2.2.1, x18.2.2.2.2.2.2.2.2.2.2.2.2.2.2.2.2.2.2.2.2.2.2.2.2.1, x18.2.2.2.2.2.2.2.2.2.2.2.2.2.2.2.2.2.2.2.2.2.2.2.2.2.1, x18.2.2.2.2.2.2.2.2.2.2.2.2.2.2.2.2.2.2.2.2.2.2.2.2.2.2.1, x18.2.2.2.2.2.2.2.2.2.2.2.2.2.2.2.2.2.2.2.2.2.2.2.2.2.2.2.1, x18.2.2.2.2.2.2.2.2.2.2.2.2.2.2.2.2.2.2.2.2.2.2.2.2.2.2.2.2.1, x18.2.2.2.2.2.2.2.2.2.2.2.2.2.2.2.2.2.2.2.2.2.2.2.2.2.2.2.2.2.1, x18.2.2.2.2.2.2.2.2.2.2.2.2.2.2.2.2.2.2.2.2.2.2.2.2.2.2.2.2.2.2.1, x18.2.2.2.2.2.2.2.2.2.2.2.2.2.2.2.2.2.2.2.2.2.2.2.2.2.2.2.2.2.2.2) : Option (Int × Int × (List (List (Int × K72c5.T))) × (List (List (Int × K72c5.T))) × Int × Int × Bool × Int × Int × Int × Int × Int × Int × Int × Int × Int × Int × Int × Bool × Bool × Int × Int × Int × Int × Int × Bool × Bool × Int × Int × Int × Int × List Int)).bind fun x25 =>
      (((orielref17_Has (x25.1, x25.2.1, x25.2.2.1, x25.2.2.2.1, x25.2.2.2.2.1, x25.2.2.2.2.2.1, x25.2.2.2.2.2.2.1, (x25.2.2.2.2.2.2.2.1, x25.2.2.2.2.2.2.2.2.1, x25.2.2.2.2.2.2.2.2.2.1), x25.2.2.2.2.2.2.2.2.2.2.1, x25.2.2.2.2.2.2.2.2.2.2.2.1, x25.2.2.2.2.2.2.2.2.2.2.2.2.1, ((x25.2.2.2.2.2.2.2.2.2.2.2.2.2.1, x25.2.2.2.2.2.2.2.2.2.2.2.2.2.2.1, (x25.2.2.2.2.2.2.2.2.2.2.2.2.2.2.2.1, x25.2.2.2.2.2.2.2.2.2.2.2.2.2.2.2.2.1, x25.2.2.2.2.2.2.2.2.2.2.2.2.2.2.2.2.2.1), x25.2.2.2.2.2.2.2.2.2.2.2.2.2.2.2.2.2.2.1, x25.2.2.2.2.2.2.2.2.2.2.2.2.2.2.2.2.2.2.2.1), x25.2.2.2.2.2.2.2.2.2.2.2.2.2.2.2.2.2.2.2.2.1, x25.2.2.2.2.2.2.2.2.2.2.2.2.2.2.2.2.2.2.2.2.2.1, (x25.2.2.2.2.2.2.2.2.2.2.2.2.2.2.2.2.2.2.2.2.2.2.1, x25.2.2.2.2.2.2.2.2.2.2.2.2.2.2.2.2.2.2.2.2.2.2.2.1, x25.2.2.2.2.2.2.2.2.2.2.2.2.2.2.2.2.2.2.2.2.2.2.2.2.1), x25.2.2.2.2.2.2.2.2.2.2.2.2.2.2.2.2.2.2.2.2.2.2.2.2.2.1, x25.2.2.2.2.2.2.2.2.2.2.2.2.2.2.2.2.2.2.2.2.2.2.2.2.2.2.1), (x25.2.2.2.2.2.2.2.2.2.2.2.2.2.2.2.2.2.2.2.2.2.2.2.2.2.2.2.1, x25.2.2.2.2.2.2.2.2.2.2.2.2.2.2.2.2.2.2.2.2.2.2.2.2.2.2.2.2.1, x25.2.2.2.2.2.2.2.2.2.2.2.2.2.2.2.2.2.2.2.2.2.2.2.2.2.2.2.2.2.1, x25.2.2.2.2.2.2.2.2.2.2.2.2.2.2.2.2.2.2.2.2.2.2.2.2.2.2.2.2.2.2.1), x25.2.2.2.2.2.2.2.2.2.2.2.2.2.2.2.2.2.2.2.2.2.2.2.2.2.2.2.2.2.2.2) 4).bind fun x33 =>
          bif x33 then
            some true
          else
            some false : Option (Bool)).bind fun x34 =>
        bif x34 then
          (getI x25.2.2.1 x25.2.2.2.2.1).bind fun x35 =>
          (orielref14_Insert x35 x25.2.2.2.2.2.1 x1 (x25.2.2.2.2.2.2.2.1, x25.2.2.2.2.2.2.2.2.1, x25.2.2.2.2.2.2.2.2.2.1)).bind fun x36 =>
          (orielref17_row (x25.1, x25.2.1, x25.2.2.1, x25.2.2.2.1, x25.2.2.2.2.1, x25.2.2.2.2.2.1, x25.2.2.2.2.2.2.1, (x25.2.2.2.2.2.2.2.1, x25.2.2.2.2.2.2.2.2.1, x25.2.2.2.2.2.2.2.2.2.1), x25.2.2.2.2.2.2.2.2.2.2.1, x25.2.2.2.2.2.2.2.2.2.2.2.1, x25.2.2.2.2.2.2.2.2.2.2.2.2.1, ((x25.2.2.2.2.2.2.2.2.2.2.2.2.2.1, x25.2.2.2.2.2.2.2.2.2.2.2.2.2.2.1, (x25.2.2.2.2.2.2.2.2.2.2.2.2.2.2.2.1, x25.2.2.2.2.2.2.2.2.2.2.2.2.2.2.2.2.1, x25.2.2.2.2.2.2.2.2.2.2.2.2.2.2.2.2.2.1), x25.2.2.2.2.2.2.2.2.2.2.2.2.2.2.2.2.2.2.1, x25.2.2.2.2.2.2.2.2.2.2.2.2.2.2.2.2.2.2.2.1), x25.2.2.2.2.2.2.2.2.2.2.2.2.2.2.2.2.2.2.2.2.1, x25.2.2.2.2.2.2.2.2.2.2.2.2.2.2.2.2.2.2.2.2.2.1, (x25.2.2.2.2.2.2.2.2.2.2.2.2.2.2.2.2.2.2.2.2.2.2.1, x25.2.2.2.2.2.2.2.2.2.2.2.2.2.2.2.2.2.2.2.2.2.2.2.1, x25.2.2.2.2.2.2.2.2.2.2.2.2.2.2.2.2.2.2.2.2.2.2.2.2.1), x25.2.2.2.2.2.2.2.2.2.2.2.2.2.2.2.2.2.2.2.2.2.2.2.2.2.1, x25.2.2.2.2.2.2.2.2.2.2.2.2.2.2.2.2.2.2.2.2.2.2.2.2.2.2.1), (x25.2.2.2.2.2.2.2.2.2.2.2.2.2.2.2.2.2.2.2.2.2.2.2.2.2.2.2.1, x25.2.2.2.2.2.2.2.2.2.2.2.2.2.2.2.2.2.2.2.2.2.2.2.2.2.2.2.2.1, x25.2.2.2.2.2.2.2.2.2.2.2.2.2.2.2.2.2.2.2.2.2.2.2.2.2.2.2.2.2.1, x25.2.2.2.2.2.2.2.2.2.2.2.2.2.2.2.2.2.2.2.2.2.2.2.2.2.2.2.2.2.2.1), x25.2.2.2.2.2.2.2.2.2.2.2.2.2.2.2.2.2.2.2.2.2.2.2.2.2.2.2.2.2.2.2) x36).bind fun x37 =>
          some (x37.1, x37.2.1, x37.2.2.1, x37.2.2.2.1, x37.2.2.2.2.1, x37.2.2.2.2.2.1, x37.2.2.2.2.2.2.1, x37.2.2.2.2.2.2.2.1.1, x37.2.2.2.2.2.2.2.1.2.1, x37.2.2.2.2.2.2.2.1.2.2, x37.2.2.2.2.2.2.2.2.1, x37.2.2.2.2.2.2.2.2.2.1, x37.2.2.2.2.2.2.2.2.2.2.1, x37.2.2.2.2.2.2.2.2.2.2.2.1.1.1, x37.2.2.2.2.2.2.2.2.2.2.2.1.1.2.1, x37.2.2.2.2.2.2.2.2.2.2.2.1.1.2.2.1.1, x37.2.2.2.2.2.2.2.2.2.2.2.1.1.2.2.1.2.1, x37.2.2.2.2.2.2.2.2.2.2.2.1.1.2.2.1.2.2, x37.2.2.2.2.2.2.2.2.2.2.2.1.1.2.2.2.1, x37.2.2.2.2.2.2.2.2.2.2.2.1.1.2.2.2.2, x37.2.2.2.2.2.2.2.2.2.2.2.1.2.1, x37.2.2.2.2.2.2.2.2.2.2.2.1.2.2.1, x37.2.2.2.2.2.2.2.2.2.2.2.1.2.2.2.1.1, x37.2.2.2.2.2.2.2.2.2.2.2.1.2.2.2.1.2.1, x37.2.2.2.2.2.2.2.2.2.2.2.1.2.2.2.1.2.2, x37.2.2.2.2.2.2.2.2.2.2.2.1.2.2.2.2.1, x37.2.2.2.2.2.2.2.2.2.2.2.1.2.2.2.2.2, x37.2.2.2.2.2.2.2.2.2.2.2.2.1.1, x37.2.2.2.2.2.2.2.2.2.2.2.2.1.2.1, x37.2.2.2.2.2.2.2.2.2.2.2.2.1.2.2.1, x37.2.2.2.2.2.2.2.2.2.2.2.2.1.2.2.2, x37.2.2.2.2.2.2.2.2.2.2.2.2.2)
        else
          some (x25.1, x25.2.1, x25.2.2.1, x25.2.2.2.1, x25.2.2.2.2.1, x25.2.2.2.2.2.1, x25.2.2.2.2.2.2.1, x25.2.2.2.2.2.2.2.1, x25.2.2.2.2.2.2.2.2.1, x25.2.2.2.2.2.2.2.2.2.1, x25.2.2.2.2.2.2.2.2.2.2.1, x25.2.2.2.2.2.2.2.2.2.2.2.1, x25.2.2.2.2.2.2.2.2.2.2.2.2.1, x25.2.2.2.2.2.2.2.2.2.2.2.2.2.1, x25.2.2.2.2.2.2.2.2.2.2.2.2.2.2.1, x25.2.2.2.2.2.2.2.2.2.2.2.2.2.2.2.1, x25.2.2.2.2.2.2.2.2.2.2.2.2.2.2.2.2.1, x25.2.2.2.2.2.2.2.2.2.2.2.2.2.2.2.2.2.1, x25.2.2.2.2.2.2.2.2.2.2.2.2.2.2.2.2.2.2.1, x25.2.2.2.2.2.2.2.2.2.2.2.2.2.2.2.2.2.2.2.1, x25.2.2.2.2.2.2.2.2.2.2.2.2.2.2.2.2.2.2.2.2.1, x25.2.2.2.2.2.2.2.2.2.2.2.2.2.2.2.2.2.2.2.2.2.1, x25.2.2.2.2.2.2.2.2.2.2.2.2.2.2.2.2.2.2.2.2.2.2.1, x25.2.2.2.2.2.2.2.2.2.2.2.2.2.2.2.2.2.2.2.2.2.2.2.1, x25.2.2.2.2.2.2.2.2.2.2.2.2.2.2.2.2.2.2.2.2.2.2.2.2.1, x25.2.2.2.2.2.2.2.2.2.2.2.2.2.2.2.2.2.2.2.2.2.2.2.2.2.1, x25.2.2.2.2.2.2.2.2.2.2.2.2.2.2.2.2.2.2.2.2.2.2.2.2.2.2.1, x25.2.2.2.2.2.2.2.2.2.2.2.2.2.2.2.2.2.2.2.2.2.2.2.2.2.2.2.1, x25.2.2.2.2.2.2.2.2.2.2.2.2.2.2.2.2.2.2.2.2.2.2.2.2.2.2.2.2.1, x25.2.2.2.2.2.2.2.2.2.2.2.2.2.2.2.2.2.2.2.2.2.2.2.2.2.2.2.2.2.1, x25.2.2.2.2.2.2.2.2.2.2.2.2.2.2.2.2.2.2.2.2.2.2.2.2.2.2.2.2.2.2.1, x25.2.2.2.2.2.2.2.2.2.2.2.2.2.2.2.2.2.2.2.2.2.2.2.2.2.2.2.2.2.2.2) : Option (Int × Int × (List (List (Int × K72c5.T))) × (List (List (Int × K72c5.T))) × Int × Int × Bool × Int × Int × Int × Int × Int × Int × Int × Int × Int × Int × Int × Bool × Bool × Int × Int × Int × Int × Int × Bool × Bool × Int × Int × Int × Int × List Int)).bind fun x38 =>
      (getI x38.2.2.1 x38.2.2.2.2.1).bind fun x39 =>
      (orielref14_Put x39 x38.2.2.2.2.2.1 a1 (x38.2.2.2.2.2.2.2.1, x38.2.2.2.2.2.2.2.2.1, x38.2.2.2.2.2.2.2.2.2.1)).bind fun x40 =>
      (orielref17_row (x38.1, x38.2.1, x38.2.2.1, x38.2.2.2.1, x38.2.2.2.2.1, x38.2.2.2.2.2.1, x38.2.2.2.2.2.2.1, (x38.2.2.2.2.2.2.2.1, x38.2.2.2.2.2.2.2.2.1, x38.2.2.2.2.2.2.2.2.2.1), x38.2.2.2.2.2.2.2.2.2.2.1, x38.2.2.2.2.2.2.2.2.2.2.2.1, x38.2.2.2.2.2.2.2.2.2.2.2.2.1, ((x38.2.2.2.2.2.2.2.2.2.2.2.2.2.1, x38.2.2.2.2.2.2.2.2.2.2.2.2.2.2.1, (x38.2.2.2.2.2.2.2.2.2.2.2.2.2.2.2.1, x38.2.2.2.2.2.2.2.2.2.2.2.2.2.2.2.2.1, x38.2.2.2.2.2.2.2.2.2.2.2.2.2.2.2.2.2.1), x38.2.2.2.2.2.2.2.2.2.2.2.2.2.2.2.2.2.2.1, x38.2.2.2.2.2.2.2.2.2.2.2.2.2.2.2.2.2.2.2.1), x38.2.2.2.2.2.2.2.2.2.2.2.2.2.2.2.2.2.2.2.2.1, x38.2.2.2.2.2.2.2.2.2.2.2.2.2.2.2.2.2.2.2.2.2.1, (x38.2.2.2.2.2.2.2.2.2.2.2.2.2.2.2.2.2.2.2.2.2.2.1, x38.2.2.2.2.2.2.2.2.2.2.2.2.2.2.2.2.2.2.2.2.2.2.2.1, x38.2.2.2.2.2.2.2.2.2.2.2.2.2.2.2.2.2.2.2.2.2.2.2.2.1), x38.2.2.2.2.2.2.2.2.2.2.2.2.2.2.2.2.2.2.2.2.2.2.2.2.2.1, x38.2.2.2.2.2.2.2.2.2.2.2.2.2.2.2.2.2.2.2.2.2.2.2.2.2.2.1), (x38.2.2.2.2.2.2.2.2.2.2.2.2.2.2.2.2.2.2.2.2.2.2.2.2.2.2.2.1, x38.2.2.2.2.2.2.2.2.2.2.2.2.2.2.2.2.2.2.2.2.2.2.2.2.2.2.2.2.1, x38.2.2.2.2.2.2.2.2.2.2.2.2.2.2.2.2.2.2.2.2.2.2.2.2.2.2.2.2.2.1, x38.2.2.2.2.2.2.2.2.2.2.2.2.2.2.2.2.2.2.2.2.2.2.2.2.2.2.2.2.2.2.1), x38.2.2.2.2.2.2.2.2.2.2.2.2.2.2.2.2.2.2.2.2.2.2.2.2.2.2.2.2.2.2.2) x40).bind fun x41 =>
      (bif decide ((IntKind.i64.wrap (x41.2.2.2.2.2.1 + x1)) < x41.2.1) then
          some true
        else
          some false : Option (Bool)).bind fun x42 =>
      bif x42 then
        some (x41.1, x41.2.1, x41.2.2.1, x41.2.2.2.1, x41.2.2.2.2.1, IntKind.i64.wrap (x41.2.2.2.2.2.1 + x1), x41.2.2.2.2.2.2)
      else
        some (x41.1, x41.2.1, x41.2.2.1, x41.2.2.2.1, x41.2.2.2.2.1, IntKind.i64.wrap (x41.2.1 - 1), x11, x41.2.2.2.2.2.2.2)
noncomputable def orielref12_bits (a0 : Int) : Option (Int × Int) :=
  bif a0 == 0 then
    bif a0 == 0 then
      some (1, 22)
    else
      bif a0 == 1 then
        some (1, 22)
      else
        bif a0 == 2 then
          some (1, 23)
        else
          bif a0 == 3 then
            some (1, 24)
          else
            bif a0 == 4 then
              some (1, 25)
            else
              bif a0 == 5 then
                some (1, 27)
              else
                bif a0 == 6 then
                  some (1, 28)
                else
                  bif a0 == 7 then
                    some (1, 29)
                  else
                    none
  else
    bif a0 == 1 then
      bif a0 == 0 then
        some (2, 22)
      else
        bif a0 == 1 then
          some (2, 22)
        else
          bif a0 == 2 then
            some (2, 23)
          else
            bif a0 == 3 then
              some (2, 24)
            else
              bif a0 == 4 then
                some (2, 25)
              else
                bif a0 == 5 then
                  some (2, 27)
                else
                  bif a0 == 6 then
                    some (2, 28)
                  else
                    bif a0 == 7 then
                      some (2, 29)
                    else
                      none
    else
      bif a0 == 2 then
        bif a0 == 0 then
          some (3, 22)
        else
          bif a0 == 1 then
            some (3, 22)
          else
            bif a0 == 2 then
              some (3, 23)
            else
              bif a0 == 3 then
                some (3, 24)
              else
                bif a0 == 4 then
                  some (3, 25)
                else
                  bif a0 == 5 then
                    some (3, 27)
                  else
                    bif a0 == 6 then
                      some (3, 28)
                    else
                      bif a0 == 7 then
                        some (3, 29)
                      else
                        none
      else
        bif a0 == 3 then
          bif a0 == 0 then
            some (4, 22)
          else
            bif a0 == 1 then
              some (4, 22)
            else
              bif a0 == 2 then
                some (4, 23)
              else
                bif a0 == 3 then
                  some (4, 24)
                else
                  bif a0 == 4 then
                    some (4, 25)
                  else
                    bif a0 == 5 then
                      some (4, 27)
                    else
                      bif a0 == 6 then
                        some (4, 28)
                      else
                        bif a0 == 7 then
                          some (4, 29)
                        else
                          none
        else
          bif a0 == 4 then
            bif a0 == 0 then
              some (5, 22)
            else
              bif a0 == 1 then
                some (5, 22)
              else
                bif a0 == 2 then
                  some (5, 23)
                else
                  bif a0 == 3 then
                    some (5, 24)
                  else
                    bif a0 == 4 then
                      some (5, 25)
                    else
                      bif a0 == 5 then
                        some (5, 27)
                      else
                        bif a0 == 6 then
                          some (5, 28)
                        else
                          bif a0 == 7 then
                            some (5, 29)
                          else
                            none
          else
            bif a0 == 5 then
              bif a0 == 0 then
                some (7, 22)
              else
                bif a0 == 1 then
                  some (7, 22)
                else
                  bif a0 == 2 then
                    some (7, 23)
                  else
                    bif a0 == 3 then
                      some (7, 24)
                    else
                      bif a0 == 4 then
                        some (7, 25)
                      else
                        bif a0 == 5 then
                          some (7, 27)
                        else
                          bif a0 == 6 then
                            some (7, 28)
                          else
                            bif a0 == 7 then
                              some (7, 29)
                            else
                              none
            else
              bif a0 == 6 then
                bif a0 == 0 then
                  some (8, 22)
                else
                  bif a0 == 1 then
                    some (8, 22)
                  else
                    bif a0 == 2 then
                      some (8, 23)
                    else
                      bif a0 == 3 then
                        some (8, 24)
                      else
                        bif a0 == 4 then
                          some (8, 25)
                        else
                          bif a0 == 5 then
                            some (8, 27)
                          else
                            bif a0 == 6 then
                              some (8, 28)
                            else
                              bif a0 == 7 then
                                some (8, 29)
                              else
                                none
              else
                bif a0 == 7 then
                  bif a0 == 0 then
                    some (9, 22)
                  else
                    bif a0 == 1 then
                      some (9, 22)
                    else
                      bif a0 == 2 then
                        some (9, 23)
                      else
                        bif a0 == 3 then
                          some (9, 24)
                        else
                          bif a0 == 4 then
                            some (9, 25)
                          else
                            bif a0 == 5 then
                              some (9, 27)
                            else
                              bif a0 == 6 then
                                some (9, 28)
                              else
                                bif a0 == 7 then
                                  some (9, 29)
                                else
                                  none
                else
                  none
noncomputable def orielref12_byteLike (a0 : Int) : Option (Bool) :=
  bif decide (a0 ≥ 0) then
    some (decide (a0 ≤ 255))
  else
    some false
noncomputable def orielref12_Apply_loop2 (x109 : Int) (x122 : Int × Int) : Option (((Int)) ⊕ (Int × Int)) :=
    (bif decide (x122.1 < 8) then
        some true
      else
        some false : Option (Bool)).bind fun x123 =>
    bif x123 then
      ((orielref12_bits x122.1).bind fun x129 =>
        req (0 ≤ (IntKind.u64.wrap x122.1)) <|
        ((bif x109 == x129.1 then
              req ((IntKind.i64.wrap ((1 : Int) * 2 ^ (min (IntKind.u64.wrap x122.1).toNat 64))) ≠ 0) <|
              bif (Int.tmod (IntKind.i64.wrap (Int.tdiv x122.2 (IntKind.i64.wrap ((1 : Int) * 2 ^ (min (IntKind.u64.wrap x122.1).toNat 64))))) 2) == 0 then
                some true
              else
                some false
            else
              some false : Option (Bool)).bind fun x131 =>
          bif x131 then
            some (IntKind.i64.wrap (x122.2 + (IntKind.i64.wrap ((1 : Int) * 2 ^ (min (IntKind.u64.wrap x122.1).toNat 64)))))
          else
            some x122.2 : Option (Int)).bind fun x132 =>
        (bif x109 == x129.2 then
            req ((IntKind.i64.wrap ((1 : Int) * 2 ^ (min (IntKind.u64.wrap x122.1).toNat 64))) ≠ 0) <|
            bif (Int.tmod (IntKind.i64.wrap (Int.tdiv x132 (IntKind.i64.wrap ((1 : Int) * 2 ^ (min (IntKind.u64.wrap x122.1).toNat 64))))) 2) == 1 then
              some true
            else
              some false
          else
            some false : Option (Bool)).bind fun x133 =>
        bif x133 then
          some (IntKind.i64.wrap (x132 - (IntKind.i64.wrap ((1 : Int) * 2 ^ (min (IntKind.u64.wrap x122.1).toNat 64)))))
        else
          some x132 : Option (Int)).bind fun x134 =>
      some (.inr (IntKind.i64.wrap (x122.1 + 1), x134))
    else
      some (.inl x122.2)
noncomputable def orielref12_Apply_loop1 (a1 : List Int) (x107 : Int × Int × Int × Int) : Option (((Int × Int × Int × Int × Int × Int) ⊕ (Int × Int × Int)) ⊕ (Int × Int × Int × Int)) :=
    (bif decide (x107.1 < (a1.length : Int)) then
        some true
      else
        some false : Option (Bool)).bind fun x108 =>
    bif x108 then
      (getI a1 x107.1).bind fun x109 =>
      (bif x109 == 0 then
          some true
        else
          some false : Option (Bool)).bind fun x110 =>
      bif x110 then
        some (.inr (IntKind.i64.wrap (x107.1 + 1), 0, 0, 0))
      else
        (loopO (orielref12_Apply_loop2 x109) (0, x107.2.1)).bind fun x135 =>
        ((bif decide (x109 ≥ 30) then
              bif decide (x109 ≤ 37) then
                some true
              else
                some false
            else
              some false : Option (Bool)).bind fun x169 =>
          bif x169 then
            some (.inl (IntKind.i64.wrap (x107.1 + 1), IntKind.i64.wrap ((IntKind.i64.wrap (x109 - 30)) + 1), false))
          else
            (bif decide (x109 ≥ 90) then
                bif decide (x109 ≤ 97) then
                  some true
                else
                  some false
              else
                some false : Option (Bool)).bind fun x170 =>
            bif x170 then
              some (.inl (IntKind.i64.wrap (x107.1 + 1), IntKind.i64.wrap ((IntKind.i64.wrap (x109 - 90)) + 9), false))
            else
              (bif x109 == 39 then
                  some true
                else
                  some false : Option (Bool)).bind fun x171 =>
              bif x171 then
                some (.inl (IntKind.i64.wrap (x107.1 + 1), 0, false))
              else
                (bif decide (x109 ≥ 40) then
                    bif decide (x109 ≤ 47) then
                      some true
                    else
                      some false
                  else
                    some false : Option (Bool)).bind fun x172 =>
                bif x172 then
                  some (.inl (IntKind.i64.wrap (x107.1 + 1), IntKind.i64.wrap ((IntKind.i64.wrap (x109 - 40)) + 1), true))
                else
                  (bif decide (x109 ≥ 100) then
                      bif decide (x109 ≤ 107) then
                        some true
                      else
                        some false
                    else
                      some false : Option (Bool)).bind fun x173 =>
                  bif x173 then
                    some (.inl (IntKind.i64.wrap (x107.1 + 1), IntKind.i64.wrap ((IntKind.i64.wrap (x109 - 100)) + 9), true))
                  else
                    (bif x109 == 49 then
                        some true
                      else
                        some false : Option (Bool)).bind fun x174 =>
                    bif x174 then
                      some (.inl (IntKind.i64.wrap (x107.1 + 1), 0, true))
                    else
                      (bif x109 == 38 then
                          some true
                        else
                          bif x109 == 48 then
                            some true
                          else
                            some false : Option (Bool)).bind fun x175 =>
                      bif x175 then
                        req (0 ≤ (IntKind.i64.wrap (x107.1 + 1)) ∧ (IntKind.i64.wrap (x107.1 + 1)) ≤ ((a1.length : Nat) : Int) ∧ ((a1.length : Nat) : Int) ≤ ((a1.length : Nat) : Int)) <|
                        (bif decide (((sub a1 ((IntKind.i64.wrap (x107.1 + 1)).toNat) a1.length).length : Int) > 1) then
                            (getI (sub a1 ((IntKind.i64.wrap (x107.1 + 1)).toNat) a1.length) 0).bind fun x179 =>
                            bif x179 == 5 then
                              (getI (sub a1 ((IntKind.i64.wrap (x107.1 + 1)).toNat) a1.length) 1).bind fun x180 =>
                              (orielref12_byteLike x180).bind fun x181 =>
                              bif x181 then
                                some true
                              else
                                some false
                            else
                              some false
                          else
                            some false : Option (Bool)).bind fun x182 =>
                        bif x182 then
                          (getI (sub a1 ((IntKind.i64.wrap (x107.1 + 1)).toNat) a1.length) 1).bind fun x183 =>
                          some (.inl (IntKind.i64.wrap ((IntKind.i64.wrap (x107.1 + 1)) + 2), IntKind.i64.wrap (x183 + 1), (x109 == 48)))
                        else
                          (bif decide (((sub a1 ((IntKind.i64.wrap (x107.1 + 1)).toNat) a1.length).length : Int) > 3) then
                              (getI (sub a1 ((IntKind.i64.wrap (x107.1 + 1)).toNat) a1.length) 0).bind fun x191 =>
                              bif x191 == 2 then
                                (getI (sub a1 ((IntKind.i64.wrap (x107.1 + 1)).toNat) a1.length) 1).bind fun x192 =>
                                (orielref12_byteLike x192).bind fun x193 =>
                                bif x193 then
                                  (getI (sub a1 ((IntKind.i64.wrap (x107.1 + 1)).toNat) a1.length) 2).bind fun x194 =>
                                  (orielref12_byteLike x194).bind fun x195 =>
                                  bif x195 then
                                    (getI (sub a1 ((IntKind.i64.wrap (x107.1 + 1)).toNat) a1.length) 3).bind fun x196 =>
                                    (orielref12_byteLike x196).bind fun x197 =>
                                    bif x197 then
                                      some true
                                    else
                                      some false
                                  else
                                    some false
                                else
                                  some false
                              else
                                some false
                            else
                              some false : Option (Bool)).bind fun x198 =>
                          bif x198 then
                            (getI (sub a1 ((IntKind.i64.wrap (x107.1 + 1)).toNat) a1.length) 1).bind fun x199 =>
                            (getI (sub a1 ((IntKind.i64.wrap (x107.1 + 1)).toNat) a1.length) 2).bind fun x200 =>
                            (getI (sub a1 ((IntKind.i64.wrap (x107.1 + 1)).toNat) a1.length) 3).bind fun x201 =>
                            some (.inl (IntKind.i64.wrap ((IntKind.i64.wrap (x107.1 + 1)) + 4), IntKind.i64.wrap ((IntKind.i64.wrap ((IntKind.i64.wrap ((IntKind.i64.wrap ((16 : Int) + (IntKind.i64.wrap ((36 : Int) * (IntKind.i64.wrap (Int.tdiv (IntKind.i64.wrap ((6 : Int) * x199)) 256)))))) + (IntKind.i64.wrap ((6 : Int) * (IntKind.i64.wrap (Int.tdiv (IntKind.i64.wrap ((6 : Int) * x200)) 256)))))) + (IntKind.i64.wrap (Int.tdiv (IntKind.i64.wrap ((6 : Int) * x201)) 256)))) + 1), (x109 == 48)))
                          else
                            some (.inr (.inl (.inl (x135, x107.2.2.1, x107.2.2.2, x135, x107.2.2.1, x107.2.2.2))))
                      else
                        some (.inl (IntKind.i64.wrap (x107.1 + 1), (-1), false)) : Option ((Int × Int × Bool) ⊕ (((Int × Int × Int × Int × Int × Int) ⊕ (Int × Int × Int)) ⊕ (Int × Int × Int × Int)))).bind fun o => match o with
        | .inr r => some r
        | .inl x202 =>
        ((bif decide (x202.2.1 ≥ 0) then
              bif x202.2.2 then
                some true
              else
                some false
            else
              some false : Option (Bool)).bind fun x204 =>
          bif x204 then
            some x202.2.1
          else
            some x107.2.2.2 : Option (Int)).bind fun x205 =>
        (bif decide (x202.2.1 ≥ 0) then
            bif !x202.2.2 then
              some true
            else
              some false
          else
            some false : Option (Bool)).bind fun x206 =>
        bif x206 then
          some (.inr (x202.1, x135, x202.2.1, x205))
        else
          some (.inr (x202.1, x135, x107.2.2.1, x205))
    else
      some (.inl (.inr (x107.2.1, x107.2.2.1, x107.2.2.2)))
noncomputable def orielref12_Apply (a0 : K92a5.T) (a1 : List Int) : Option (K92a5.T) :=
  (((orielref12_May a0).bind fun x5 =>
      bif !x5 then
        some true
      else
        bif (a1.length : Int) == 0 then
          some true
        else
          some false : Option (Bool)).bind fun x6 =>
    bif x6 then
      some (0, 0, 0)
    else
      some (a0.1, a0.2.1, a0.2.2) : Option (Int × Int × Int)).bind fun x7 =>
  (loopO (orielref12_Apply_loop1 a1) (0, x7.1, x7.2.1, x7.2.2)).bind fun o => match o with
  | .inl x207 =>
    some x207.2.2.2
  | .inr x208 =>
    some x208
noncomputable def orielref17_step_loop1 (a1 : Int) (a0 : Int × Int × K05d1.T) (x5 : Int × Int) : Option (((Int)) ⊕ (Int × Int)) :=
    (bif decide (x5.1 < a1) then
        some true
      else
        some false : Option (Bool)).bind fun x6 =>
    bif x6 then
      ((bif x5.2 != a0.2.2.2.2.2.2.2.2.2.1 then
            bif decide (x5.2 < (IntKind.i64.wrap (a0.1 - 1))) then
              some true
            else
              some false
          else
            some false : Option (Bool)).bind fun x8 =>
        bif x8 then
          some (IntKind.i64.wrap (x5.2 + 1))
        else
          some x5.2 : Option (Int)).bind fun x9 =>
      some (.inr (IntKind.i64.wrap (x5.1 + 1), x9))
    else
      some (.inl x5.2)
noncomputable def orielref17_step_loop2 (a1 : Int) (a0 : Int × Int × K05d1.T) (x15 : Int × Int) : Option (((Int)) ⊕ (Int × Int)) :=
    (bif decide (x15.1 > a1) then
        some true
      else
        some false : Option (Bool)).bind fun x16 =>
    bif x16 then
      ((bif x15.2 != a0.2.2.2.2.2.2.2.2.1 then
            bif decide (x15.2 > 0) then
              some true
            else
              some false
          else
            some false : Option (Bool)).bind fun x18 =>
        bif x18 then
          some (IntKind.i64.wrap (x15.2 - 1))
        else
          some x15.2 : Option (Int)).bind fun x19 =>
      some (.inr (IntKind.i64.wrap (x15.1 - 1), x19))
    else
      some (.inl x15.2)
noncomputable def orielref17_step (a0 : Int × Int × K05d1.T) (a1 : Int) (a2 : Int) : Option ((Int × Int × K05d1.T)) :=
  (loopO (orielref17_step_loop1 a1 a0) (0, a0.2.2.2.2.1)).bind fun x10 =>
  (loopO (orielref17_step_loop2 a1 a0) (0, x10)).bind fun x20 =>
  (orielref17_bring (IntKind.i64.wrap (a0.2.2.2.2.2.1 + a2)) 0 (IntKind.i64.wrap (a0.2.1 - 1))).bind fun x21 =>
  some (a0.1, a0.2.1, a0.2.2.1, a0.2.2.2.1, x20, x21, a0.2.2.2.2.2.2)
noncomputable def orielref16_Next_loop1 (x6 : Int) (a1 : Int) (a0 : Int × Kf613.T) (x11 : Int) : Option (((Int) ⊕ (Unit)) ⊕ (Int)) :=
    (bif decide (x11 < x6) then
        some true
      else
        some false : Option (Bool)).bind fun x12 =>
    bif x12 then
      (bif decide (x11 > a1) then
          (orielref16_Is a0 x11).bind fun x14 =>
          bif x14 then
            some true
          else
            some false
        else
          some false : Option (Bool)).bind fun x15 =>
      bif x15 then
        some (.inl (.inl x11))
      else
        some (.inr (IntKind.i64.wrap (x11 + 1)))
    else
      some (.inl (.inr ()))
noncomputable def orielref16_Next (a0 : Int × Kf613.T) (a1 : Int) (a2 : Int) : Option (Int) :=
  ((bif decide (a2 < 1) then
        some true
      else
        some false : Option (Bool)).bind fun x2 =>
    bif x2 then
      some 1
    else
      some a2 : Option (Int)).bind fun x3 =>
  ((bif decide (x3 > 200) then
        some true
      else
        some false : Option (Bool)).bind fun x5 =>
    bif x5 then
      some 200
    else
      some x3 : Option (Int)).bind fun x6 =>
  (loopO (orielref16_Next_loop1 x6 a1 a0) 0).bind fun o => match o with
  | .inl x16 =>
    some x16
  | .inr _ =>
    some (IntKind.i64.wrap (x6 - 1))
noncomputable def orielref16_Back_loop1 (a1 : Int) (a0 : Int × Kf613.T) (x4 : Int) : Option (((Int) ⊕ (Unit)) ⊕ (Int)) :=
    (bif decide (x4 > 0) then
        some true
      else
        some false : Option (Bool)).bind fun x5 =>
    bif x5 then
      (bif decide (x4 < a1) then
          (orielref16_Is a0 x4).bind fun x7 =>
          bif x7 then
            some true
          else
            some false
        else
          some false : Option (Bool)).bind fun x8 =>
      bif x8 then
        some (.inl (.inl x4))
      else
        some (.inr (IntKind.i64.wrap (x4 - 1)))
    else
      some (.inl (.inr ()))
noncomputable def orielref16_Back (a0 : Int × Kf613.T) (a1 : Int) : Option (Int) :=
  (loopO (orielref16_Back_loop1 a1 a0) 199).bind fun o => match o with
  | .inl x9 =>
    some x9
  | .inr _ =>
    some 0
noncomputable def orielref17_cursor_loop4 (a1 : K86d9.T) (x42 : Int × Int × Int × (List (List (Int × K72c5.T))) × (List (List (Int × K72c5.T))) × Int × Int × Bool × Int × Int × Int × Int × Int × Int × Int × Int × Int × Int × Int × Bool × Bool × Int × Int × Int × Int × Int × Bool × Bool × Int × Int × Int × Int × List Int) : Option (((Int × Int × (List (List (Int × K72c5.T))) × (List (List (Int × K72c5.T))) × Int × Int × Bool × Int × Int × Int × Int × Int × Int × Int × Int × Int × Int × Int × Bool × Bool × Int × Int × Int × Int × Int × Bool × Bool × Int × Int × Int × Int × List Int)) ⊕ (Int × Int × Int × (List (List (Int × K72c5.T))) × (List (List (Int × K72c5.T))) × Int × Int × Bool × Int × Int × Int × Int × Int × Int × Int × Int × Int × Int × Int × Bool × Bool × Int × Int × Int × Int × Int × Bool × Bool × Int × Int × Int × Int × List Int)) :=
    (bif decide (x42.1 < a1.2.1) then
        some true
      else
        some false : Option (Bool)).bind fun x43 =>
    bif x43 then
      (orielref17_feed (x42.2.1, x42.2.2.1, x42.2.2.2.1, x42.2.2.2.2.1, x42.2.2.2.2.2.1, x42.2.2.2.2.2.2.1, x42.2.2.2.2.2.2.2.1, (x42.2.2.2.2.2.2.2.2.1, x42.2.2.2.2.2.2.2.2.2.1, x42.2.2.2.2.2.2.2.2.2.2.1), x42.2.2.2.2.2.2.2.2.2.2.2.1, x42.2.2.2.2.2.2.2.2.2.2.2.2.1, x42.2.2.2.2.2.2.2.2.2.2.2.2.2.1, ((x42.2.2.2.2.2.2.2.2.2.2.2.2.2.2.1, x42.2.2.2.2.2.2.2.2.2.2.2.2.2.2.2.1, (x42.2.2.2.2.2.2.2.2.2.2.2.2.2.2.2.2.1, x42.2.2.2.2.2.2.2.2.2.2.2.2.2.2.2.2.2.1, x42.2.2.2.2.2.2.2.2.2.2.2.2.2.2.2.2.2.2.1), x42.2.2.2.2.2.2.2.2.2.2.2.2.2.2.2.2.2.2.2.1, x42.2.2.2.2.2.2.2.2.2.2.2.2.2.2.2.2.2.2.2.2.1), x42.2.2.2.2.2.2.2.2.2.2.2.2.2.2.2.2.2.2.2.2.2.1, x42.2.2.2.2.2.2.2.2.2.2.2.2.2.2.2.2.2.2.2.2.2.2.1, (x42.2.2.2.2.2.2.2.2.2.2.2.2.2.2.2.2.2.2.2.2.2.2.2.1, x42.2.2.2.2.2.2.2.2.2.2.2.2.2.2.2.2.2.2.2.2.2.2.2.2.1, x42.2.2.2.2.2.2.2.2.2.2.2.2.2.2.2.2.2.2.2.2.2.2.2.2.2.1), x42.2.2.2.2.2.2.2.2.2.2.2.2.2.2.2.2.2.2.2.2.2.2.2.2.2.2.1, x42.2.2.2.2.2.2.2.2.2.2.2.2.2.2.2.2.2.2.2.2.2.2.2.2.2.2.2.1), (x42.2.2.2.2.2.2.2.2.2.2.2.2.2.2.2.2.2.2.2.2.2.2.2.2.2.2.2.2.1, x42.2.2.2.2.2.2.2.2.2.2.2.2.2.2.2.2.2.2.2.2.2.2.2.2.2.2.2.2.2.1, x42.2.2.2.2.2.2.2.2.2.2.2.2.2.2.2.2.2.2.2.2.2.2.2.2.2.2.2.2.2.2.1, x42.2.2.2.2.2.2.2.2.2.2.2.2.2.2.2.2.2.2.2.2.2.2.2.2.2.2.2.2.2.2.2.1), x42.2.2.2.2.2.2.2.2.2.2.2.2.2.2.2.2.2.2.2.2.2.2.2.2.2.2.2.2.2.2.2.2)).bind fun x44 =>
      some (.inr (IntKind.i64.wrap (x42.1 + 1), x44.1, x44.2.1, x44.2.2.1, x44.2.2.2.1, x44.2.2.2.2.1, x44.2.2.2.2.2.1, x44.2.2.2.2.2.2.1, x44.2.2.2.2.2.2.2.1.1, x44.2.2.2.2.2.2.2.1.2.1, x44.2.2.2.2.2.2.2.1.2.2, x44.2.2.2.2.2.2.2.2.1, x44.2.2.2.2.2.2.2.2.2.1, x44.2.2.2.2.2.2.2.2.2.2.1, x44.2.2.2.2.2.2.2.2.2.2.2.1.1.1, x44.2.2.2.2.2.2.2.2.2.2.2.1.1.2.1, x44.2.2.2.2.2.2.2.2.2.2.2.1.1.2.2.1.1, x44.2.2.2.2.2.2.2.2.2.2.2.1.1.2.2.1.2.1, x44.2.2.2.2.2.2.2.2.2.2.2.1.1.2.2.1.2.2, x44.2.2.2.2.2.2.2.2.2.2.2.1.1.2.2.2.1, x44.2.2.2.2.2.2.2.2.2.2.2.1.1.2.2.2.2, x44.2.2.2.2.2.2.2.2.2.2.2.1.2.1, x44.2.2.2.2.2.2.2.2.2.2.2.1.2.2.1, x44.2.2.2.2.2.2.2.2.2.2.2.1.2.2.2.1.1, x44.2.2.2.2.2.2.2.2.2.2.2.1.2.2.2.1.2.1, x44.2.2.2.2.2.2.2.2.2.2.2.1.2.2.2.1.2.2, x44.2.2.2.2.2.2.2.2.2.2.2.1.2.2.2.2.1, x44.2.2.2.2.2.2.2.2.2.2.2.1.2.2.2.2.2, x44.2.2.2.2.2.2.2.2.2.2.2.2.1.1, x44.2.2.2.2.2.2.2.2.2.2.2.2.1.2.1, x44.2.2.2.2.2.2.2.2.2.2.2.2.1.2.2.1, x44.2.2.2.2.2.2.2.2.2.2.2.2.1.2.2.2, x44.2.2.2.2.2.2.2.2.2.2.2.2.2))
    else
      some (.inl (x42.2.1, x42.2.2.1, x42.2.2.2.1, x42.2.2.2.2.1, x42.2.2.2.2.2.1, x42.2.2.2.2.2.2.1, x42.2.2.2.2.2.2.2.1, x42.2.2.2.2.2.2.2.2.1, x42.2.2.2.2.2.2.2.2.2.1, x42.2.2.2.2.2.2.2.2.2.2.1, x42.2.2.2.2.2.2.2.2.2.2.2.1, x42.2.2.2.2.2.2.2.2.2.2.2.2.1, x42.2.2.2.2.2.2.2.2.2.2.2.2.2.1, x42.2.2.2.2.2.2.2.2.2.2.2.2.2.2.1, x42.2.2.2.2.2.2.2.2.2.2.2.2.2.2.2.1, x42.2.2.2.2.2.2.2.2.2.2.2.2.2.2.2.2.1, x42.2.2.2.2.2.2.2.2.2.2.2.2.2.2.2.2.2.1, x42.2.2.2.2.2.2.2.2.2.2.2.2.2.2.2.2.2.2.1, x42.2.2.2.2.2.2.2.2.2.2.2.2.2.2.2.2.2.2.2.1, x42.2.2.2.2.2.2.2.2.2.2.2.2.2.2.2.2.2.2.2.2.1, x42.2.2.2.2.2.2.2.2.2.2.2.2.2.2.2.2.2.2.2.2.2.1, x42.2.2.2.2.2.2.2.2.2.2.2.2.2.2.2.2.2.2.2.2.2.2.1, x42.2.2.2.2.2.2.2.2.2.2.2.2.2.2.2.2.2.2.2.2.2.2.2.1, x42.2.2.2.2.2.2.2.2.2.2.2.2.2.2.2.2.2.2.2.2.2.2.2.2.1, x42.2.2.2.2.2.2.2.2.2.2.2.2.2.2.2.2.2.2.2.2.2.2.2.2.2.1, x42.2.2.2.2.2.2.2.2.2.2.2.2.2.2.2.2.2.2.2.2.2.2.2.2.2.2.1, x42.2.2.2.2.2.2.2.2.2.2.2.2.2.2.2.2.2.2.2.2.2.2.2.2.2.2.2.1, x42.2.2.2.2.2.2.2.2.2.2.2.2.2.2.2.2.2.2.2.2.2.2.2.2.2.2.2.2.1, x42.2.2.2.2.2.2.2.2.2.2.2.2.2.2.2.2.2.2.2.2.2.2.2.2.2.2.2.2.2.1, x42.2.2.2.2.2.2.2.2.2.2.2.2.2.2.2.2.2.2.2.2.2.2.2.2.2.2.2.2.2.2.1, x42.2.2.2.2.2.2.2.2.2.2.2.2.2.2.2.2.2.2.2.2.2.2.2.2.2.2.2.2.2.2.2.1, x42.2.2.2.2.2.2.2.2.2.2.2.2.2.2.2.2.2.2.2.2.2.2.2.2.2.2.2.2.2.2.2.2))
noncomputable def orielref17_cursor_loop5 (a1 : K86d9.T) (a0 : Int × Int × K05d1.T) (x62 : Int × Int) : Option (((Int)) ⊕ (Int × Int)) :=
    (bif decide (x62.1 < a1.2.1) then
        some true
      else
        some false : Option (Bool)).bind fun x63 =>
    bif x63 then
      (orielref16_Next a0.2.2.2.2.2.2.2.2.2.2.2.2.1 x62.2 a0.2.1).bind fun x64 =>
      some (.inr (IntKind.i64.wrap (x62.1 + 1), x64))
    else
      some (.inl x62.2)
noncomputable def orielref17_cursor_loop6 (a1 : K86d9.T) (a0 : Int × Int × K05d1.T) (x68 : Int × Int) : Option (((Int)) ⊕ (Int × Int)) :=
    (bif decide (x68.1 > a1.2.1) then
        some true
      else
        some false : Option (Bool)).bind fun x69 =>
    bif x69 then
      (orielref16_Back a0.2.2.2.2.2.2.2.2.2.2.2.2.1 x68.2).bind fun x70 =>
      some (.inr (IntKind.i64.wrap (x68.1 - 1), x70))
    else
      some (.inl x68.2)
noncomputable def orielref17_cursor (a0 : Int × Int × K05d1.T) (a1 : K86d9.T) : Option ((Int × Int × K05d1.T)) :=
  ((bif a1.1 == 2 then
        some true
      else
        some false : Option (Bool)).bind fun x39 =>
    bif x39 then
      (loopO (orielref17_cursor_loop4 a1) (0, a0.1, a0.2.1, a0.2.2.1, a0.2.2.2.1, a0.2.2.2.2.1, a0.2.2.2.2.2.1, a0.2.2.2.2.2.2.1, a0.2.2.2.2.2.2.2.1.1, a0.2.2.2.2.2.2.2.1.2.1, a0.2.2.2.2.2.2.2.1.2.2, a0.2.2.2.2.2.2.2.2.1, a0.2.2.2.2.2.2.2.2.2.1, a0.2.2.2.2.2.2.2.2.2.2.1, a0.2.2.2.2.2.2.2.2.2.2.2.1.1.1, a0.2.2.2.2.2.2.2.2.2.2.2.1.1.2.1, a0.2.2.2.2.2.2.2.2.2.2.2.1.1.2.2.1.1, a0.2.2.2.2.2.2.2.2.2.2.2.1.1.2.2.1.2.1, a0.2.2.2.2.2.2.2.2.2.2.2.1.1.2.2.1.2.2, a0.2.2.2.2.2.2.2.2.2.2.2.1.1.2.2.2.1, a0.2.2.2.2.2.2.2.2.2.2.2.1.1.2.2.2.2, a0.2.2.2.2.2.2.2.2.2.2.2.1.2.1, a0.2.2.2.2.2.2.2.2.2.2.2.1.2.2.1, a0.2.2.2.2.2.2.2.2.2.2.2.1.2.2.2.1.1, a0.2.2.2.2.2.2.2.2.2.2.2.1.2.2.2.1.2.1, a0.2.2.2.2.2.2.2.2.2.2.2.1.2.2.2.1.2.2, a0.2.2.2.2.2.2.2.2.2.2.2.1.2.2.2.2.1, a0.2.2.2.2.2.2.2.2.2.2.2.1.2.2.2.2.2, a0.2.2.2.2.2.2.2.2.2.2.2.2.1.1, a0.2.2.2.2.2.2.2.2.2.2.2.2.1.2.1, a0.2.2.2.2.2.2.2.2.2.2.2.2.1.2.2.1, a0.2.2.2.2.2.2.2.2.2.2.2.2.1.2.2.2, a0.2.2.2.2.2.2.2.2.2.2.2.2.2)).bind fun x45 =>
      some (x45.1, x45.2.1, x45.2.2.1, x45.2.2.2.1, x45.2.2.2.2.1, x45.2.2.2.2.2.1, x45.2.2.2.2.2.2.1, x45.2.2.2.2.2.2.2.1, x45.2.2.2.2.2.2.2.2.1, x45.2.2.2.2.2.2.2.2.2.1, x45.2.2.2.2.2.2.2.2.2.2.1, x45.2.2.2.2.2.2.2.2.2.2.2.1, x45.2.2.2.2.2.2.2.2.2.2.2.2.1, x45.2.2.2.2.2.2.2.2.2.2.2.2.2.1, x45.2.2.2.2.2.2.2.2.2.2.2.2.2.2.1, x45.2.2.2.2.2.2.2.2.2.2.2.2.2.2.2.1, x45.2.2.2.2.2.2.2.2.2.2.2.2.2.2.2.2.1, x45.2.2.2.2.2.2.2.2.2.2.2.2.2.2.2.2.2.1, x45.2.2.2.2.2.2.2.2.2.2.2.2.2.2.2.2.2.2.1, x45.2.2.2.2.2.2.2.2.2.2.2.2.2.2.2.2.2.2.2.1, x45.2.2.2.2.2.2.2.2.2.2.2.2.2.2.2.2.2.2.2.2.1, x45.2.2.2.2.2.2.2.2.2.2.2.2.2.2.2.2.2.2.2.2.2.1, x45.2.2.2.2.2.2.2.2.2.2.2.2.2.2.2.2.2.2.2.2.2.2.1, x45.2.2.2.2.2.2.2.2.2.2.2.2.2.2.2.2.2.2.2.2.2.2.2.1, x45.2.2.2.2.2.2.2.2.2.2.2.2.2.2.2.2.2.2.2.2.2.2.2.2.1, x45.2.2.2.2.2.2.2.2.2.2.2.2.2.2.2.2.2.2.2.2.2.2.2.2.2.1, x45.2.2.2.2.2.2.2.2.2.2.2.2.2.2.2.2.2.2.2.2.2.2.2.2.2.2.1, x45.2.2.2.2.2.2.2.2.2.2.2.2.2.2.2.2.2.2.2.2.2.2.2.2.2.2.2.1, x45.2.2.2.2.2.2.2.2.2.2.2.2.2.2.2.2.2.2.2.2.2.2.2.2.2.2.2.2.1, x45.2.2.2.2.2.2.2.2.2.2.2.2.2.2.2.2.2.2.2.2.2.2.2.2.2.2.2.2.2.1, x45.2.2.2.2.2.2.2.2.2.2.2.2.2.2.2.2.2.2.2.2.2.2.2.2.2.2.2.2.2.2.1, x45.2.2.2.2.2.2.2.2.2.2.2.2.2.2.2.2.2.2.2.2.2.2.2.2.2.2.2.2.2.2.2)
    else
      (bif a1.1 == 3 then
          some true
        else
          some false : Option (Bool)).bind fun x46 =>
      bif x46 then
        (bif a0.2.2.2.2.1 == a0.2.2.2.2.2.2.2.2.1 then
            some true
          else
            some false : Option (Bool)).bind fun x47 =>
        bif x47 then
          (orielref15_Scroll a0.2.2.1 a0.2.2.2.2.2.2.2.2.1 a0.2.2.2.2.2.2.2.2.2.1 (-1) a0.2.2.2.2.2.2.2.1).bind fun x48 =>
          some (a0.1, a0.2.1, x48, a0.2.2.2.1, a0.2.2.2.2.1, a0.2.2.2.2.2.1, a0.2.2.2.2.2.2.1, a0.2.2.2.2.2.2.2.1.1, a0.2.2.2.2.2.2.2.1.2.1, a0.2.2.2.2.2.2.2.1.2.2, a0.2.2.2.2.2.2.2.2.1, a0.2.2.2.2.2.2.2.2.2.1, a0.2.2.2.2.2.2.2.2.2.2.1, a0.2.2.2.2.2.2.2.2.2.2.2.1.1.1, a0.2.2.2.2.2.2.2.2.2.2.2.1.1.2.1, a0.2.2.2.2.2.2.2.2.2.2.2.1.1.2.2.1.1, a0.2.2.2.2.2.2.2.2.2.2.2.1.1.2.2.1.2.1, a0.2.2.2.2.2.2.2.2.2.2.2.1.1.2.2.1.2.2, a0.2.2.2.2.2.2.2.2.2.2.2.1.1.2.2.2.1, a0.2.2.2.2.2.2.2.2.2.2.2.1.1.2.2.2.2, a0.2.2.2.2.2.2.2.2.2.2.2.1.2.1, a0.2.2.2.2.2.2.2.2.2.2.2.1.2.2.1, a0.2.2.2.2.2.2.2.2.2.2.2.1.2.2.2.1.1, a0.2.2.2.2.2.2.2.2.2.2.2.1.2.2.2.1.2.1, a0.2.2.2.2.2.2.2.2.2.2.2.1.2.2.2.1.2.2, a0.2.2.2.2.2.2.2.2.2.2.2.1.2.2.2.2.1, a0.2.2.2.2.2.2.2.2.2.2.2.1.2.2.2.2.2, a0.2.2.2.2.2.2.2.2.2.2.2.2.1.1, a0.2.2.2.2.2.2.2.2.2.2.2.2.1.2.1, a0.2.2.2.2.2.2.2.2.2.2.2.2.1.2.2.1, a0.2.2.2.2.2.2.2.2.2.2.2.2.1.2.2.2, a0.2.2.2.2.2.2.2.2.2.2.2.2.2)
        else
          (bif decide (a0.2.2.2.2.1 > 0) then
              some true
            else
              some false : Option (Bool)).bind fun x49 =>
          bif x49 then
            some (a0.1, a0.2.1, a0.2.2.1, a0.2.2.2.1, IntKind.i64.wrap (a0.2.2.2.2.1 - 1), a0.2.2.2.2.2.1, a0.2.2.2.2.2.2.1, a0.2.2.2.2.2.2.2.1.1, a0.2.2.2.2.2.2.2.1.2.1, a0.2.2.2.2.2.2.2.1.2.2, a0.2.2.2.2.2.2.2.2.1, a0.2.2.2.2.2.2.2.2.2.1, a0.2.2.2.2.2.2.2.2.2.2.1, a0.2.2.2.2.2.2.2.2.2.2.2.1.1.1, a0.2.2.2.2.2.2.2.2.2.2.2.1.1.2.1, a0.2.2.2.2.2.2.2.2.2.2.2.1.1.2.2.1.1, a0.2.2.2.2.2.2.2.2.2.2.2.1.1.2.2.1.2.1, a0.2.2.2.2.2.2.2.2.2.2.2.1.1.2.2.1.2.2, a0.2.2.2.2.2.2.2.2.2.2.2.1.1.2.2.2.1, a0.2.2.2.2.2.2.2.2.2.2.2.1.1.2.2.2.2, a0.2.2.2.2.2.2.2.2.2.2.2.1.2.1, a0.2.2.2.2.2.2.2.2.2.2.2.1.2.2.1, a0.2.2.2.2.2.2.2.2.2.2.2.1.2.2.2.1.1, a0.2.2.2.2.2.2.2.2.2.2.2.1.2.2.2.1.2.1, a0.2.2.2.2.2.2.2.2.2.2.2.1.2.2.2.1.2.2, a0.2.2.2.2.2.2.2.2.2.2.2.1.2.2.2.2.1, a0.2.2.2.2.2.2.2.2.2.2.2.1.2.2.2.2.2, a0.2.2.2.2.2.2.2.2.2.2.2.2.1.1, a0.2.2.2.2.2.2.2.2.2.2.2.2.1.2.1, a0.2.2.2.2.2.2.2.2.2.2.2.2.1.2.2.1, a0.2.2.2.2.2.2.2.2.2.2.2.2.1.2.2.2, a0.2.2.2.2.2.2.2.2.2.2.2.2.2)
          else
            some (a0.1, a0.2.1, a0.2.2.1, a0.2.2.2.1, a0.2.2.2.2.1, a0.2.2.2.2.2.1, a0.2.2.2.2.2.2.1, a0.2.2.2.2.2.2.2.1.1, a0.2.2.2.2.2.2.2.1.2.1, a0.2.2.2.2.2.2.2.1.2.2, a0.2.2.2.2.2.2.2.2.1, a0.2.2.2.2.2.2.2.2.2.1, a0.2.2.2.2.2.2.2.2.2.2.1, a0.2.2.2.2.2.2.2.2.2.2.2.1.1.1, a0.2.2.2.2.2.2.2.2.2.2.2.1.1.2.1, a0.2.2.2.2.2.2.2.2.2.2.2.1.1.2.2.1.1, a0.2.2.2.2.2.2.2.2.2.2.2.1.1.2.2.1.2.1, a0.2.2.2.2.2.2.2.2.2.2.2.1.1.2.2.1.2.2, a0.2.2.2.2.2.2.2.2.2.2.2.1.1.2.2.2.1, a0.2.2.2.2.2.2.2.2.2.2.2.1.1.2.2.2.2, a0.2.2.2.2.2.2.2.2.2.2.2.1.2.1, a0.2.2.2.2.2.2.2.2.2.2.2.1.2.2.1, a0.2.2.2.2.2.2.2.2.2.2.2.1.2.2.2.1.1, a0.2.2.2.2.2.2.2.2.2.2.2.1.2.2.2.1.2.1, a0.2.2.2.2.2.2.2.2.2.2.2.1.2.2.2.1.2.2, a0.2.2.2.2.2.2.2.2.2.2.2.1.2.2.2.2.1, a0.2.2.2.2.2.2.2.2.2.2.2.1.2.2.2.2.2, a0.2.2.2.2.2.2.2.2.2.2.2.2.1.1, a0.2.2.2.2.2.2.2.2.2.2.2.2.1.2.1, a0.2.2.2.2.2.2.2.2.2.2.2.2.1.2.2.1, a0.2.2.2.2.2.2.2.2.2.2.2.2.1.2.2.2, a0.2.2.2.2.2.2.2.2.2.2.2.2.2)
      else
        (bif a1.1 == 4 then
            some true
          else
            some false : Option (Bool)).bind fun x50 =>
        bif x50 then
          some (a0.1, a0.2.1, a0.2.2.1, a0.2.2.2.1, a0.2.2.2.2.1, 0, a0.2.2.2.2.2.2.1, a0.2.2.2.2.2.2.2.1.1, a0.2.2.2.2.2.2.2.1.2.1, a0.2.2.2.2.2.2.2.1.2.2, a0.2.2.2.2.2.2.2.2.1, a0.2.2.2.2.2.2.2.2.2.1, a0.2.2.2.2.2.2.2.2.2.2.1, a0.2.2.2.2.2.2.2.2.2.2.2.1.1.1, a0.2.2.2.2.2.2.2.2.2.2.2.1.1.2.1, a0.2.2.2.2.2.2.2.2.2.2.2.1.1.2.2.1.1, a0.2.2.2.2.2.2.2.2.2.2.2.1.1.2.2.1.2.1, a0.2.2.2.2.2.2.2.2.2.2.2.1.1.2.2.1.2.2, a0.2.2.2.2.2.2.2.2.2.2.2.1.1.2.2.2.1, a0.2.2.2.2.2.2.2.2.2.2.2.1.1.2.2.2.2, a0.2.2.2.2.2.2.2.2.2.2.2.1.2.1, a0.2.2.2.2.2.2.2.2.2.2.2.1.2.2.1, a0.2.2.2.2.2.2.2.2.2.2.2.1.2.2.2.1.1, a0.2.2.2.2.2.2.2.2.2.2.2.1.2.2.2.1.2.1, a0.2.2.2.2.2.2.2.2.2.2.2.1.2.2.2.1.2.2, a0.2.2.2.2.2.2.2.2.2.2.2.1.2.2.2.2.1, a0.2.2.2.2.2.2.2.2.2.2.2.1.2.2.2.2.2, a0.2.2.2.2.2.2.2.2.2.2.2.2.1.1, a0.2.2.2.2.2.2.2.2.2.2.2.2.1.2.1, a0.2.2.2.2.2.2.2.2.2.2.2.2.1.2.2.1, a0.2.2.2.2.2.2.2.2.2.2.2.2.1.2.2.2, a0.2.2.2.2.2.2.2.2.2.2.2.2.2)
        else
          (bif a1.1 == 5 then
              some true
            else
              some false : Option (Bool)).bind fun x51 =>
          bif x51 then
            (orielref17_move a0 a1.2.1 a1.2.2.1).bind fun x52 =>
            some (x52.1, x52.2.1, x52.2.2.1, x52.2.2.2.1, x52.2.2.2.2.1, x52.2.2.2.2.2.1, x52.2.2.2.2.2.2.1, x52.2.2.2.2.2.2.2.1.1, x52.2.2.2.2.2.2.2.1.2.1, x52.2.2.2.2.2.2.2.1.2.2, x52.2.2.2.2.2.2.2.2.1, x52.2.2.2.2.2.2.2.2.2.1, x52.2.2.2.2.2.2.2.2.2.2.1, x52.2.2.2.2.2.2.2.2.2.2.2.1.1.1, x52.2.2.2.2.2.2.2.2.2.2.2.1.1.2.1, x52.2.2.2.2.2.2.2.2.2.2.2.1.1.2.2.1.1, x52.2.2.2.2.2.2.2.2.2.2.2.1.1.2.2.1.2.1, x52.2.2.2.2.2.2.2.2.2.2.2.1.1.2.2.1.2.2, x52.2.2.2.2.2.2.2.2.2.2.2.1.1.2.2.2.1, x52.2.2.2.2.2.2.2.2.2.2.2.1.1.2.2.2.2, x52.2.2.2.2.2.2.2.2.2.2.2.1.2.1, x52.2.2.2.2.2.2.2.2.2.2.2.1.2.2.1, x52.2.2.2.2.2.2.2.2.2.2.2.1.2.2.2.1.1, x52.2.2.2.2.2.2.2.2.2.2.2.1.2.2.2.1.2.1, x52.2.2.2.2.2.2.2.2.2.2.2.1.2.2.2.1.2.2, x52.2.2.2.2.2.2.2.2.2.2.2.1.2.2.2.2.1, x52.2.2.2.2.2.2.2.2.2.2.2.1.2.2.2.2.2, x52.2.2.2.2.2.2.2.2.2.2.2.2.1.1, x52.2.2.2.2.2.2.2.2.2.2.2.2.1.2.1, x52.2.2.2.2.2.2.2.2.2.2.2.2.1.2.2.1, x52.2.2.2.2.2.2.2.2.2.2.2.2.1.2.2.2, x52.2.2.2.2.2.2.2.2.2.2.2.2.2)
          else
            (bif a1.1 == 6 then
                some true
              else
                some false : Option (Bool)).bind fun x53 =>
            bif x53 then
              (orielref17_step a0 a1.2.1 a1.2.2.1).bind fun x54 =>
              some (x54.1, x54.2.1, x54.2.2.1, x54.2.2.2.1, x54.2.2.2.2.1, x54.2.2.2.2.2.1, x54.2.2.2.2.2.2.1, x54.2.2.2.2.2.2.2.1.1, x54.2.2.2.2.2.2.2.1.2.1, x54.2.2.2.2.2.2.2.1.2.2, x54.2.2.2.2.2.2.2.2.1, x54.2.2.2.2.2.2.2.2.2.1, x54.2.2.2.2.2.2.2.2.2.2.1, x54.2.2.2.2.2.2.2.2.2.2.2.1.1.1, x54.2.2.2.2.2.2.2.2.2.2.2.1.1.2.1, x54.2.2.2.2.2.2.2.2.2.2.2.1.1.2.2.1.1, x54.2.2.2.2.2.2.2.2.2.2.2.1.1.2.2.1.2.1, x54.2.2.2.2.2.2.2.2.2.2.2.1.1.2.2.1.2.2, x54.2.2.2.2.2.2.2.2.2.2.2.1.1.2.2.2.1, x54.2.2.2.2.2.2.2.2.2.2.2.1.1.2.2.2.2, x54.2.2.2.2.2.2.2.2.2.2.2.1.2.1, x54.2.2.2.2.2.2.2.2.2.2.2.1.2.2.1, x54.2.2.2.2.2.2.2.2.2.2.2.1.2.2.2.1.1, x54.2.2.2.2.2.2.2.2.2.2.2.1.2.2.2.1.2.1, x54.2.2.2.2.2.2.2.2.2.2.2.1.2.2.2.1.2.2, x54.2.2.2.2.2.2.2.2.2.2.2.1.2.2.2.2.1, x54.2.2.2.2.2.2.2.2.2.2.2.1.2.2.2.2.2, x54.2.2.2.2.2.2.2.2.2.2.2.2.1.1, x54.2.2.2.2.2.2.2.2.2.2.2.2.1.2.1, x54.2.2.2.2.2.2.2.2.2.2.2.2.1.2.2.1, x54.2.2.2.2.2.2.2.2.2.2.2.2.1.2.2.2, x54.2.2.2.2.2.2.2.2.2.2.2.2.2)
            else
              (bif a1.1 == 7 then
                  some true
                else
                  some false : Option (Bool)).bind fun x55 =>
              bif x55 then
                (orielref17_bring a1.2.1 0 (IntKind.i64.wrap (a0.2.1 - 1))).bind fun x56 =>
                some (a0.1, a0.2.1, a0.2.2.1, a0.2.2.2.1, a0.2.2.2.2.1, x56, a0.2.2.2.2.2.2.1, a0.2.2.2.2.2.2.2.1.1, a0.2.2.2.2.2.2.2.1.2.1, a0.2.2.2.2.2.2.2.1.2.2, a0.2.2.2.2.2.2.2.2.1, a0.2.2.2.2.2.2.2.2.2.1, a0.2.2.2.2.2.2.2.2.2.2.1, a0.2.2.2.2.2.2.2.2.2.2.2.1.1.1, a0.2.2.2.2.2.2.2.2.2.2.2.1.1.2.1, a0.2.2.2.2.2.2.2.2.2.2.2.1.1.2.2.1.1, a0.2.2.2.2.2.2.2.2.2.2.2.1.1.2.2.1.2.1, a0.2.2.2.2.2.2.2.2.2.2.2.1.1.2.2.1.2.2, a0.2.2.2.2.2.2.2.2.2.2.2.1.1.2.2.2.1, a0.2.2.2.2.2.2.2.2.2.2.2.1.1.2.2.2.2, a0.2.2.2.2.2.2.2.2.2.2.2.1.2.1, a0.2.2.2.2.2.2.2.2.2.2.2.1.2.2.1, a0.2.2.2.2.2.2.2.2.2.2.2.1.2.2.2.1.1, a0.2.2.2.2.2.2.2.2.2.2.2.1.2.2.2.1.2.1, a0.2.2.2.2.2.2.2.2.2.2.2.1.2.2.2.1.2.2, a0.2.2.2.2.2.2.2.2.2.2.2.1.2.2.2.2.1, a0.2.2.2.2.2.2.2.2.2.2.2.1.2.2.2.2.2, a0.2.2.2.2.2.2.2.2.2.2.2.2.1.1, a0.2.2.2.2.2.2.2.2.2.2.2.2.1.2.1, a0.2.2.2.2.2.2.2.2.2.2.2.2.1.2.2.1, a0.2.2.2.2.2.2.2.2.2.2.2.2.1.2.2.2, a0.2.2.2.2.2.2.2.2.2.2.2.2.2)
              else
                (bif a1.1 == 8 then
                    some true
                  else
                    some false : Option (Bool)).bind fun x57 =>
                bif x57 then
                  (orielref17_move a0 a1.2.1 a0.2.2.2.2.2.1).bind fun x58 =>
                  some (x58.1, x58.2.1, x58.2.2.1, x58.2.2.2.1, x58.2.2.2.2.1, x58.2.2.2.2.2.1, x58.2.2.2.2.2.2.1, x58.2.2.2.2.2.2.2.1.1, x58.2.2.2.2.2.2.2.1.2.1, x58.2.2.2.2.2.2.2.1.2.2, x58.2.2.2.2.2.2.2.2.1, x58.2.2.2.2.2.2.2.2.2.1, x58.2.2.2.2.2.2.2.2.2.2.1, x58.2.2.2.2.2.2.2.2.2.2.2.1.1.1, x58.2.2.2.2.2.2.2.2.2.2.2.1.1.2.1, x58.2.2.2.2.2.2.2.2.2.2.2.1.1.2.2.1.1, x58.2.2.2.2.2.2.2.2.2.2.2.1.1.2.2.1.2.1, x58.2.2.2.2.2.2.2.2.2.2.2.1.1.2.2.1.2.2, x58.2.2.2.2.2.2.2.2.2.2.2.1.1.2.2.2.1, x58.2.2.2.2.2.2.2.2.2.2.2.1.1.2.2.2.2, x58.2.2.2.2.2.2.2.2.2.2.2.1.2.1, x58.2.2.2.2.2.2.2.2.2.2.2.1.2.2.1, x58.2.2.2.2.2.2.2.2.2.2.2.1.2.2.2.1.1, x58.2.2.2.2.2.2.2.2.2.2.2.1.2.2.2.1.2.1, x58.2.2.2.2.2.2.2.2.2.2.2.1.2.2.2.1.2.2, x58.2.2.2.2.2.2.2.2.2.2.2.1.2.2.2.2.1, x58.2.2.2.2.2.2.2.2.2.2.2.1.2.2.2.2.2, x58.2.2.2.2.2.2.2.2.2.2.2.2.1.1, x58.2.2.2.2.2.2.2.2.2.2.2.2.1.2.1, x58.2.2.2.2.2.2.2.2.2.2.2.2.1.2.2.1, x58.2.2.2.2.2.2.2.2.2.2.2.2.1.2.2.2, x58.2.2.2.2.2.2.2.2.2.2.2.2.2)
                else
                  (bif a1.1 == 9 then
                      some true
                    else
                      some false : Option (Bool)).bind fun x59 =>
                  bif x59 then
                    (loopO (orielref17_cursor_loop5 a1 a0) (0, a0.2.2.2.2.2.1)).bind fun x65 =>
                    (loopO (orielref17_cursor_loop6 a1 a0) (0, x65)).bind fun x71 =>
                    some (a0.1, a0.2.1, a0.2.2.1, a0.2.2.2.1, a0.2.2.2.2.1, x71, a0.2.2.2.2.2.2.1, a0.2.2.2.2.2.2.2.1.1, a0.2.2.2.2.2.2.2.1.2.1, a0.2.2.2.2.2.2.2.1.2.2, a0.2.2.2.2.2.2.2.2.1, a0.2.2.2.2.2.2.2.2.2.1, a0.2.2.2.2.2.2.2.2.2.2.1, a0.2.2.2.2.2.2.2.2.2.2.2.1.1.1, a0.2.2.2.2.2.2.2.2.2.2.2.1.1.2.1, a0.2.2.2.2.2.2.2.2.2.2.2.1.1.2.2.1.1, a0.2.2.2.2.2.2.2.2.2.2.2.1.1.2.2.1.2.1, a0.2.2.2.2.2.2.2.2.2.2.2.1.1.2.2.1.2.2, a0.2.2.2.2.2.2.2.2.2.2.2.1.1.2.2.2.1, a0.2.2.2.2.2.2.2.2.2.2.2.1.1.2.2.2.2, a0.2.2.2.2.2.2.2.2.2.2.2.1.2.1, a0.2.2.2.2.2.2.2.2.2.2.2.1.2.2.1, a0.2.2.2.2.2.2.2.2.2.2.2.1.2.2.2.1.1, a0.2.2.2.2.2.2.2.2.2.2.2.1.2.2.2.1.2.1, a0.2.2.2.2.2.2.2.2.2.2.2.1.2.2.2.1.2.2, a0.2.2.2.2.2.2.2.2.2.2.2.1.2.2.2.2.1, a0.2.2.2.2.2.2.2.2.2.2.2.1.2.2.2.2.2, a0.2.2.2.2.2.2.2.2.2.2.2.2.1.1, a0.2.2.2.2.2.2.2.2.2.2.2.2.1.2.1, a0.2.2.2.2.2.2.2.2.2.2.2.2.1.2.2.1, a0.2.2.2.2.2.2.2.2.2.2.2.2.1.2.2.2, a0.2.2.2.2.2.2.2.2.2.2.2.2.2)
                  else
                    (bif a1.1 == 19 then
                        some true
                      else
                        some false : Option (Bool)).bind fun x72 =>
                    bif x72 then
                      (bif decide (a1.2.1 ≥ 0) then
                          bif decide (a1.2.1 < a1.2.2.1) then
                            bif decide (a1.2.2.1 < a0.1) then
                              some true
                            else
                              some false
                          else
                            some false
                        else
                          some false : Option (Bool)).bind fun x73 =>
                      bif x73 then
                        (orielref17_move (a0.1, a0.2.1, a0.2.2.1, a0.2.2.2.1, a0.2.2.2.2.1, a0.2.2.2.2.2.1, a0.2.2.2.2.2.2.1, a0.2.2.2.2.2.2.2.1, a1.2.1, a1.2.2.1, a0.2.2.2.2.2.2.2.2.2.2) 0 0).bind fun x74 =>
                        some (x74.1, x74.2.1, x74.2.2.1, x74.2.2.2.1, x74.2.2.2.2.1, x74.2.2.2.2.2.1, x74.2.2.2.2.2.2.1, x74.2.2.2.2.2.2.2.1.1, x74.2.2.2.2.2.2.2.1.2.1, x74.2.2.2.2.2.2.2.1.2.2, x74.2.2.2.2.2.2.2.2.1, x74.2.2.2.2.2.2.2.2.2.1, x74.2.2.2.2.2.2.2.2.2.2.1, x74.2.2.2.2.2.2.2.2.2.2.2.1.1.1, x74.2.2.2.2.2.2.2.2.2.2.2.1.1.2.1, x74.2.2.2.2.2.2.2.2.2.2.2.1.1.2.2.1.1, x74.2.2.2.2.2.2.2.2.2.2.2.1.1.2.2.1.2.1, x74.2.2.2.2.2.2.2.2.2.2.2.1.1.2.2.1.2.2, x74.2.2.2.2.2.2.2.2.2.2.2.1.1.2.2.2.1, x74.2.2.2.2.2.2.2.2.2.2.2.1.1.2.2.2.2, x74.2.2.2.2.2.2.2.2.2.2.2.1.2.1, x74.2.2.2.2.2.2.2.2.2.2.2.1.2.2.1, x74.2.2.2.2.2.2.2.2.2.2.2.1.2.2.2.1.1, x74.2.2.2.2.2.2.2.2.2.2.2.1.2.2.2.1.2.1, x74.2.2.2.2.2.2.2.2.2.2.2.1.2.2.2.1.2.2, x74.2.2.2.2.2.2.2.2.2.2.2.1.2.2.2.2.1, x74.2.2.2.2.2.2.2.2.2.2.2.1.2.2.2.2.2, x74.2.2.2.2.2.2.2.2.2.2.2.2.1.1, x74.2.2.2.2.2.2.2.2.2.2.2.2.1.2.1, x74.2.2.2.2.2.2.2.2.2.2.2.2.1.2.2.1, x74.2.2.2.2.2.2.2.2.2.2.2.2.1.2.2.2, x74.2.2.2.2.2.2.2.2.2.2.2.2.2)
                      else
                        some (a0.1, a0.2.1, a0.2.2.1, a0.2.2.2.1, a0.2.2.2.2.1, a0.2.2.2.2.2.1, a0.2.2.2.2.2.2.1, a0.2.2.2.2.2.2.2.1.1, a0.2.2.2.2.2.2.2.1.2.1, a0.2.2.2.2.2.2.2.1.2.2, a0.2.2.2.2.2.2.2.2.1, a0.2.2.2.2.2.2.2.2.2.1, a0.2.2.2.2.2.2.2.2.2.2.1, a0.2.2.2.2.2.2.2.2.2.2.2.1.1.1, a0.2.2.2.2.2.2.2.2.2.2.2.1.1.2.1, a0.2.2.2.2.2.2.2.2.2.2.2.1.1.2.2.1.1, a0.2.2.2.2.2.2.2.2.2.2.2.1.1.2.2.1.2.1, a0.2.2.2.2.2.2.2.2.2.2.2.1.1.2.2.1.2.2, a0.2.2.2.2.2.2.2.2.2.2.2.1.1.2.2.2.1, a0.2.2.2.2.2.2.2.2.2.2.2.1.1.2.2.2.2, a0.2.2.2.2.2.2.2.2.2.2.2.1.2.1, a0.2.2.2.2.2.2.2.2.2.2.2.1.2.2.1, a0.2.2.2.2.2.2.2.2.2.2.2.1.2.2.2.1.1, a0.2.2.2.2.2.2.2.2.2.2.2.1.2.2.2.1.2.1, a0.2.2.2.2.2.2.2.2.2.2.2.1.2.2.2.1.2.2, a0.2.2.2.2.2.2.2.2.2.2.2.1.2.2.2.2.1, a0.2.2.2.2.2.2.2.2.2.2.2.1.2.2.2.2.2, a0.2.2.2.2.2.2.2.2.2.2.2.2.1.1, a0.2.2.2.2.2.2.2.2.2.2.2.2.1.2.1, a0.2.2.2.2.2.2.2.2.2.2.2.2.1.2.2.1, a0.2.2.2.2.2.2.2.2.2.2.2.2.1.2.2.2, a0.2.2.2.2.2.2.2.2.2.2.2.2.2)
                    else
                      (bif a1.1 == 22 then
                          some true
                        else
                          some false : Option (Bool)).bind fun x75 =>
                      bif x75 then
                        (orielref17_restore a0).bind fun x76 =>
                        some (x76.1, x76.2.1, x76.2.2.1, x76.2.2.2.1, x76.2.2.2.2.1, x76.2.2.2.2.2.1, x76.2.2.2.2.2.2.1, x76.2.2.2.2.2.2.2.1.1, x76.2.2.2.2.2.2.2.1.2.1, x76.2.2.2.2.2.2.2.1.2.2, x76.2.2.2.2.2.2.2.2.1, x76.2.2.2.2.2.2.2.2.2.1, x76.2.2.2.2.2.2.2.2.2.2.1, x76.2.2.2.2.2.2.2.2.2.2.2.1.1.1, x76.2.2.2.2.2.2.2.2.2.2.2.1.1.2.1, x76.2.2.2.2.2.2.2.2.2.2.2.1.1.2.2.1.1, x76.2.2.2.2.2.2.2.2.2.2.2.1.1.2.2.1.2.1, x76.2.2.2.2.2.2.2.2.2.2.2.1.1.2.2.1.2.2, x76.2.2.2.2.2.2.2.2.2.2.2.1.1.2.2.2.1, x76.2.2.2.2.2.2.2.2.2.2.2.1.1.2.2.2.2, x76.2.2.2.2.2.2.2.2.2.2.2.1.2.1, x76.2.2.2.2.2.2.2.2.2.2.2.1.2.2.1, x76.2.2.2.2.2.2.2.2.2.2.2.1.2.2.2.1.1, x76.2.2.2.2.2.2.2.2.2.2.2.1.2.2.2.1.2.1, x76.2.2.2.2.2.2.2.2.2.2.2.1.2.2.2.1.2.2, x76.2.2.2.2.2.2.2.2.2.2.2.1.2.2.2.2.1, x76.2.2.2.2.2.2.2.2.2.2.2.1.2.2.2.2.2, x76.2.2.2.2.2.2.2.2.2.2.2.2.1.1, x76.2.2.2.2.2.2.2.2.2.2.2.2.1.2.1, x76.2.2.2.2.2.2.2.2.2.2.2.2.1.2.2.1, x76.2.2.2.2.2.2.2.2.2.2.2.2.1.2.2.2, x76.2.2.2.2.2.2.2.2.2.2.2.2.2)
                      else
                        some (a0.1, a0.2.1, a0.2.2.1, a0.2.2.2.1, a0.2.2.2.2.1, a0.2.2.2.2.2.1, a0.2.2.2.2.2.2.1, a0.2.2.2.2.2.2.2.1.1, a0.2.2.2.2.2.2.2.1.2.1, a0.2.2.2.2.2.2.2.1.2.2, a0.2.2.2.2.2.2.2.2.1, a0.2.2.2.2.2.2.2.2.2.1, a0.2.2.2.2.2.2.2.2.2.2.1, a0.2.2.2.2.2.2.2.2.2.2.2.1.1.1, a0.2.2.2.2.2.2.2.2.2.2.2.1.1.2.1, a0.2.2.2.2.2.2.2.2.2.2.2.1.1.2.2.1.1, a0.2.2.2.2.2.2.2.2.2.2.2.1.1.2.2.1.2.1, a0.2.2.2.2.2.2.2.2.2.2.2.1.1.2.2.1.2.2, a0.2.2.2.2.2.2.2.2.2.2.2.1.1.2.2.2.1, a0.2.2.2.2.2.2.2.2.2.2.2.1.1.2.2.2.2, a0.2.2.2.2.2.2.2.2.2.2.2.1.2.1, a0.2.2.2.2.2.2.2.2.2.2.2.1.2.2.1, a0.2.2.2.2.2.2.2.2.2.2.2.1.2.2.2.1.1, a0.2.2.2.2.2.2.2.2.2.2.2.1.2.2.2.1.2.1, a0.2.2.2.2.2.2.2.2.2.2.2.1.2.2.2.1.2.2, a0.2.2.2.2.2.2.2.2.2.2.2.1.2.2.2.2.1, a0.2.2.2.2.2.2.2.2.2.2.2.1.2.2.2.2.2, a0.2.2.2.2.2.2.2.2.2.2.2.2.1.1, a0.2.2.2.2.2.2.2.2.2.2.2.2.1.2.1, a0.2.2.2.2.2.2.2.2.2.2.2.2.1.2.2.1, a0.2.2.2.2.2.2.2.2.2.2.2.2.1.2.2.2, a0.2.2.2.2.2.2.2.2.2.2.2.2.2) : Option (Int × Int × (List (List (Int × K72c5.T))) × (List (List (Int × K72c5.T))) × Int × Int × Bool × Int × Int × Int × Int × Int × Int × Int × Int × Int × Int × Int × Bool × Bool × Int × Int × Int × Int × Int × Bool × Bool × Int × Int × Int × Int × List Int)).bind fun x77 =>
  some (x77.1, x77.2.1, x77.2.2.1, x77.2.2.2.1, x77.2.2.2.2.1, x77.2.2.2.2.2.1, x77.2.2.2.2.2.2.1, (x77.2.2.2.2.2.2.2.1, x77.2.2.2.2.2.2.2.2.1, x77.2.2.2.2.2.2.2.2.2.1), x77.2.2.2.2.2.2.2.2.2.2.1, x77.2.2.2.2.2.2.2.2.2.2.2.1, x77.2.2.2.2.2.2.2.2.2.2.2.2.1, ((x77.2.2.2.2.2.2.2.2.2.2.2.2.2.1, x77.2.2.2.2.2.2.2.2.2.2.2.2.2.2.1, (x77.2.2.2.2.2.2.2.2.2.2.2.2.2.2.2.1, x77.2.2.2.2.2.2.2.2.2.2.2.2.2.2.2.2.1, x77.2.2.2.2.2.2.2.2.2.2.2.2.2.2.2.2.2.1), x77.2.2.2.2.2.2.2.2.2.2.2.2.2.2.2.2.2.2.1, x77.2.2.2.2.2.2.2.2.2.2.2.2.2.2.2.2.2.2.2.1), x77.2.2.2.2.2.2.2.2.2.2.2.2.2.2.2.2.2.2.2.2.1, x77.2.2.2.2.2.2.2.2.2.2.2.2.2.2.2.2.2.2.2.2.2.1, (x77.2.2.2.2.2.2.2.2.2.2.2.2.2.2.2.2.2.2.2.2.2.2.1, x77.2.2.2.2.2.2.2.2.2.2.2.2.2.2.2.2.2.2.2.2.2.2.2.1, x77.2.2.2.2.2.2.2.2.2.2.2.2.2.2.2.2.2.2.2.2.2.2.2.2.1), x77.2.2.2.2.2.2.2.2.2.2.2.2.2.2.2.2.2.2.2.2.2.2.2.2.2.1, x77.2.2.2.2.2.2.2.2.2.2.2.2.2.2.2.2.2.2.2.2.2.2.2.2.2.2.1), (x77.2.2.2.2.2.2.2.2.2.2.2.2.2.2.2.2.2.2.2.2.2.2.2.2.2.2.2.1, x77.2.2.2.2.2.2.2.2.2.2.2.2.2.2.2.2.2.2.2.2.2.2.2.2.2.2.2.2.1, x77.2.2.2.2.2.2.2.2.2.2.2.2.2.2.2.2.2.2.2.2.2.2.2.2.2.2.2.2.2.1, x77.2.2.2.2.2.2.2.2.2.2.2.2.2.2.2.2.2.2.2.2.2.2.2.2.2.2.2.2.2.2.1), x77.2.2.2.2.2.2.2.2.2.2.2.2.2.2.2.2.2.2.2.2.2.2.2.2.2.2.2.2.2.2.2)
noncomputable def orielref15_place (a0 : List (List (Int × K72c5.T))) (a1 : Int × Int) : Option (Bool) :=
  bif decide (a1.1 ≥ 0) then
    bif decide (a1.1 < (a0.length : Int)) then
      bif decide (a1.2 ≥ 0) then
        (getI a0 0).bind fun x1 =>
        some (decide (a1.2 < (x1.length : Int)))
      else
        some false
    else
      some false
  else
    some false
noncomputable def orielref14_Erase_loop1 (x6 : Int) (a3 : K92a5.T) (x9 : (List (Int × K72c5.T))) (x13 : Int × (List (Int × K72c5.T))) : Option ((((List (Int × K72c5.T)))) ⊕ (Int × (List (Int × K72c5.T)))) :=
    (bif decide (x13.1 < x6) then
        some true
      else
        some false : Option (Bool)).bind fun x14 =>
    bif x14 then
      (orielref14_Blank a3).bind fun x15 =>
      req (0 ≤ x13.1 ∧ x13.1 < ((x9.length : Nat) : Int)) <|
      (x13.2[x13.1.toNat]?).bind fun x16 =>
      some (.inr (IntKind.i64.wrap (x13.1 + 1), x13.2.set x13.1.toNat x15))
    else
      some (.inl x13.2)
noncomputable def orielref14_Erase (a0 : List (Int × K72c5.T)) (a1 : Int) (a2 : Int) (a3 : K92a5.T) : Option ((List (Int × K72c5.T))) :=
  ((bif decide (a1 < 0) then
        some true
      else
        some false : Option (Bool)).bind fun x2 =>
    bif x2 then
      some 0
    else
      some a1 : Option (Int)).bind fun x3 =>
  ((bif decide (a2 > (a0.length : Int)) then
        some true
      else
        some false : Option (Bool)).bind fun x5 =>
    bif x5 then
      some (a0.length : Int)
    else
      some a2 : Option (Int)).bind fun x6 =>
  (bif decide (x6 ≤ x3) then
      some true
    else
      some false : Option (Bool)).bind fun x7 =>
  bif x7 then
    some a0
  else
    (orielref14_Tear_668 a0 x3).bind fun x8 =>
    req (x8.length = x8.length) <|
    (orielref14_Tear_ed0 x6 x8).bind fun x9 =>
    (loopO (orielref14_Erase_loop1 x6 a3 x9) (x3, x9)).bind fun x17 =>
    req (x9.length = x17.length) (some x17)
end Go.SH
