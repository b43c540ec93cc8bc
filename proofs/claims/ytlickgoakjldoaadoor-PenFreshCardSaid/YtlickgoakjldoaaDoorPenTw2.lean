/- Twins of functions, and that the code does what they say: written by gen.py. -/
import Derived.Test.YtlickgoakjldoaaDoorPenTw1
set_option linter.unusedVariables false
set_option linter.unusedSimpArgs false
namespace Go.SH
open Go.Proofs
noncomputable def pen_Turn_loop1 (x4 : Int) (x12 : Int) (x18 : Int) (x19 : List Int) : Option ((List Int) ⊕ (Int × (List Int))) :=
    bif (decide (x18 ≤ 8)) then
      (((pen_bitOf x18).bind fun x20 =>
        bif (((ibits .andNot .i64 (ibits .and .i64 x20 x4) x12) : Int) != 0) then
          (req (((x19 ++ ([IntKind.i64.wrap (x18 + 1)] : List Int)).length : Int) * 8 ≤ 140737488355328) (
          some (x19 ++ ([IntKind.i64.wrap (x18 + 1)] : List Int))))
        else
          (some x19) : Option ((List Int))).bind fun x21 =>
      some (.inr (IntKind.i64.wrap (x18 + 1), x21)))
    else
      (some (.inl x19))
noncomputable def pen_Turn (a0 : Int) (a1 : Int) (a2 : Int) (a3 : Int) (a4 : Int) (a5 : Int) : Option ((List Int)) :=
  (pen_fine a0 a1 a2).bind fun (x1, x2, x3) =>
  (pen_fine a3 a4 a5).bind fun (x4, x5, x6) =>
  bif (((x1 : Int) == x4) && (((x2 : Int) == x5) && (((x3 : Int) == x6) && true))) then
    (some ([] : List Int))
  else
    (((bif (((ibits .andNot .i64 x1 x4) : Int) != 0) then
          (some true)
        else
          ((pen_Turn_1 x2 x5).bind fun x7 =>
          bif x7 then
            (some true)
          else
            ((pen_Turn_1 x3 x6).bind fun x8 =>
            some x8)) : Option (Bool)).bind fun x9 =>
      bif x9 then
        (some (([0] : List Int), 0, 0, 0))
      else
        (some (([] : List Int), x1, x2, x3)) : Option ((List Int) × Int × Int × Int)).bind fun (x11, x12, x13, x14) =>
    (loopO (fun z => match z with | (x18, x19) => pen_Turn_loop1 x4 x12 x18 x19) (0, x11)).bind fun x25 =>
    (bif ((x5 : Int) != x13) then
        ((pen_show 30 x5).bind fun x26 =>
        req (((x25 ++ x26).length : Int) * 8 ≤ 140737488355328) (
        some (x25 ++ x26)))
      else
        (some x25) : Option ((List Int))).bind fun x27 =>
    (bif ((x6 : Int) != x14) then
        ((pen_show 40 x6).bind fun x28 =>
        req (((x27 ++ x28).length : Int) * 8 ≤ 140737488355328) (
        some (x27 ++ x28)))
      else
        (some x27) : Option ((List Int))).bind fun x29 =>
    some x29)
theorem pen_Turn_ok {a0 : Int} {a1 : Int} {a2 : Int} {a3 : Int} {a4 : Int} {a5 : Int} {x33 : List Int} (h : pen_Turn a0 a1 a2 a3 a4 a5 = some x33) : Pure En 13 [.agg [.int .i64 a0, .int .i64 a1, .int .i64 a2], .agg [.int .i64 a3, .int .i64 a4, .int .i64 a5]] (.ro (fl (eI .i64) x33) x33.length none) := by
  unfold pen_Turn at h
  refine ACalls_pureW En_ok (fn := Tryd.f13) Tryd.func13 rfl (by simp [Tryd.ntmps13]) ?_
  refine AW_seq ?_
  refine AW_region ?_
  refine AWl_xrun 3 _ _ _ [(4, .nils), (3, .ptr 1 0), (2, .ptr 0 0), (0, .agg [.int .i64 a0, .int .i64 a1, .int .i64 a2]), (1, .agg [.int .i64 a3, .int .i64 a4, .int .i64 a5])] [(0, some [.int .i64 a0, .int .i64 a1, .int .i64 a2]), (1, some [.int .i64 a3, .int .i64 a4, .int .i64 a5])] (by kernel_rfl) ?_
  refine AWl_nilK [3, 2] [(3, .ptr 1 0), (2, .ptr 0 0)] (by kernel_rfl) ?_
  refine athen_n ?_
  refine AW_seq ?_
  obtain ⟨⟨x1, x2, x3⟩, h1, h29⟩ := bind_some h
  obtain ⟨⟨x4, x5, x6⟩, h2, h30⟩ := bind_some h29
  refine AW_drawK En_mixed [⟨[(2, .ptr 0 0)], [(0, some [.int .i64 a0, .int .i64 a1, .int .i64 a2])], .agg [.int .i64 a0, .int .i64 a1, .int .i64 a2], [], true, false⟩, ⟨[(9, .agg [.int .i64 a0, .int .i64 a1, .int .i64 a2])], [], .agg [.int .i64 x1, .int .i64 x2, .int .i64 x3], [], true, false⟩, ⟨[(3, .ptr 1 0)], [(1, some [.int .i64 a3, .int .i64 a4, .int .i64 a5])], .agg [.int .i64 a3, .int .i64 a4, .int .i64 a5], [], true, false⟩, ⟨[(11, .agg [.int .i64 a3, .int .i64 a4, .int .i64 a5])], [], .agg [.int .i64 x4, .int .i64 x5, .int .i64 x6], [], true, false⟩, ⟨[(2, .ptr 0 0), (10, .agg [.int .i64 x1, .int .i64 x2, .int .i64 x3])], [(0, some [.int .i64 a0, .int .i64 a1, .int .i64 a2])], .dead, [(0, some [.int .i64 x1, .int .i64 x2, .int .i64 x3])], true, false⟩, ⟨[(3, .ptr 1 0), (12, .agg [.int .i64 x4, .int .i64 x5, .int .i64 x6])], [(1, some [.int .i64 a3, .int .i64 a4, .int .i64 a5])], .dead, [(1, some [.int .i64 x4, .int .i64 x5, .int .i64 x6])], true, false⟩] [3, 2] [(3, .ptr 1 0), (2, .ptr 0 0)] [(0, some [.int .i64 x1, .int .i64 x2, .int .i64 x3]), (1, some [.int .i64 x4, .int .i64 x5, .int .i64 x6])] (.x 2 rfl (by kernel_rfl) (.o (AOp_callP En_ok Tryd.call17 (caps := []) (xs := [.agg [.int .i64 a0, .int .i64 a1, .int .i64 a2]]) (by exact rfl) (by exact rfl) (pen_fine_ok h1) (by exact rfl)) (.x 2 rfl (by kernel_rfl) (.o (AOp_callP En_ok Tryd.call17 (caps := []) (xs := [.agg [.int .i64 a3, .int .i64 a4, .int .i64 a5]]) (by exact rfl) (by exact rfl) (pen_fine_ok h2) (by exact rfl)) (.x 2 rfl (by kernel_rfl) (.x 2 rfl (by kernel_rfl) .nil)))))) (by kernel_rfl) (by kernel_rfl) (by kernel_rfl) (by kernel_rfl) (by kernel_rfl) (by kernel_rfl) ?_
  refine athen_n ?_
  refine AW_seq ?_
  refine AW_seq ?_
  refine AW_region ?_
  refine AWl_xrun 3 _ _ _ [(15, .bool (((x1 : Int) == x4) && (((x2 : Int) == x5) && (((x3 : Int) == x6) && true)))), (14, .agg [.int .i64 x4, .int .i64 x5, .int .i64 x6]), (13, .agg [.int .i64 x1, .int .i64 x2, .int .i64 x3]), (3, .ptr 1 0), (2, .ptr 0 0)] [(0, some [.int .i64 x1, .int .i64 x2, .int .i64 x3]), (1, some [.int .i64 x4, .int .i64 x5, .int .i64 x6])] (by kernel_rfl) ?_
  refine AWl_nilK [15, 3, 2] [(15, .bool (((x1 : Int) == x4) && (((x2 : Int) == x5) && (((x3 : Int) == x6) && true)))), (3, .ptr 1 0), (2, .ptr 0 0)] (by kernel_rfl) ?_
  refine athen_n ?_
  cases h3 : (((x1 : Int) == x4) && (((x2 : Int) == x5) && (((x3 : Int) == x6) && true)))
  · have h31 := bif_f h3 h30
    refine AW_condF rfl ?_
    refine AW_skip ?_
    refine athen_n ?_
    refine AW_seq ?_
    refine AW_region ?_
    refine AWl_xrun 1 _ _ _ [(5, .nils), (15, .bool false), (3, .ptr 1 0), (2, .ptr 0 0)] [(0, some [.int .i64 x1, .int .i64 x2, .int .i64 x3]), (1, some [.int .i64 x4, .int .i64 x5, .int .i64 x6])] (by kernel_rfl) ?_
    refine AWl_nilK [5, 3, 2] [(5, .nils), (3, .ptr 1 0), (2, .ptr 0 0)] (by kernel_rfl) ?_
    refine athen_n ?_
    refine AW_seq ?_
    refine AW_region ?_
    refine AWl_xrun 1 _ _ _ [(6, .fn 25 []), (5, .nils), (3, .ptr 1 0), (2, .ptr 0 0)] [(0, some [.int .i64 x1, .int .i64 x2, .int .i64 x3]), (1, some [.int .i64 x4, .int .i64 x5, .int .i64 x6])] (by kernel_rfl) ?_
    refine AWl_nilK [6, 5, 3, 2] [(6, .fn 25 []), (5, .nils), (3, .ptr 1 0), (2, .ptr 0 0)] (by kernel_rfl) ?_
    refine athen_n ?_
    obtain ⟨⟨x11, x12, x13, x14⟩, h28, h32⟩ := bind_some h31
    refine AW_meetN (fun z => match z with | (x11, x12, x13, x14) => [(5, .rw 3 0 x11.length 1 none), (3, .ptr 1 0), (2, .ptr 0 0)]) (fun z => match z with | (x11, x12, x13, x14) => [(3, some (fl (eI .i64) x11)), (1, some [.int .i64 x4, .int .i64 x5, .int .i64 x6]), (0, some [.int .i64 x12, .int .i64 x13, .int .i64 x14])]) (x11, x12, x13, x14) ?_ ?_
    · skip
      obtain ⟨x9, h9, h33⟩ := bind_some h28
      refine AW_meetN (fun x9 => [(37, .bool x9), (5, .nils), (3, .ptr 1 0), (2, .ptr 0 0)]) (fun x9 => [(1, some [.int .i64 x4, .int .i64 x5, .int .i64 x6]), (0, some [.int .i64 x1, .int .i64 x2, .int .i64 x3])]) x9 ?_ ?_
      · skip
        refine AW_region ?_
        refine AWl_xrun 7 _ _ _ [(22, .bool (((ibits .andNot .i64 x1 x4) : Int) != 0)), (21, .bool (((ibits .andNot .i64 x1 x4) : Int) != 0)), (20, .int .i64 (ibits .andNot .i64 x1 x4)), (19, .int .i64 x4), (18, .ptr 1 0), (17, .int .i64 x1), (16, .ptr 0 0), (6, .fn 25 []), (5, .nils), (3, .ptr 1 0), (2, .ptr 0 0)] [(0, some [.int .i64 x1, .int .i64 x2, .int .i64 x3]), (1, some [.int .i64 x4, .int .i64 x5, .int .i64 x6])] (by kernel_rfl) ?_
        cases h4 : (((ibits .andNot .i64 x1 x4) : Int) != 0)
        · have h34 := bif_f h4 h9
          refine AWl_xrun 5 _ _ _ [(27, .int .i64 x5), (26, .ptr 1 1), (25, .int .i64 x2), (24, .ptr 0 1), (23, .fn 25 []), (22, .bool false), (21, .bool false), (20, .int .i64 (ibits .andNot .i64 x1 x4)), (19, .int .i64 x4), (18, .ptr 1 0), (17, .int .i64 x1), (16, .ptr 0 0), (6, .fn 25 []), (5, .nils), (3, .ptr 1 0), (2, .ptr 0 0)] [(0, some [.int .i64 x1, .int .i64 x2, .int .i64 x3]), (1, some [.int .i64 x4, .int .i64 x5, .int .i64 x6])] (by kernel_rfl) ?_
          obtain ⟨x7, h5, h35⟩ := bind_some h34
          refine AWl_o (x := .bool x7) (wl := []) (AOp_callP En_ok Tryd.call25 (caps := []) (xs := [.int .i64 x2, .int .i64 x5]) rfl rfl (pen_Turn_1_ok h5) rfl) (by kernel_rfl) (by kernel_rfl) (by kernel_rfl) ?_
          refine AWl_xrun 2 _ _ _ [(30, .bool x7), (29, .bool x7), (28, .bool x7), (27, .int .i64 x5), (26, .ptr 1 1), (25, .int .i64 x2), (24, .ptr 0 1), (23, .fn 25 []), (22, .bool false), (21, .bool false), (20, .int .i64 (ibits .andNot .i64 x1 x4)), (19, .int .i64 x4), (18, .ptr 1 0), (17, .int .i64 x1), (16, .ptr 0 0), (6, .fn 25 []), (5, .nils), (3, .ptr 1 0), (2, .ptr 0 0)] [(0, some [.int .i64 x1, .int .i64 x2, .int .i64 x3]), (1, some [.int .i64 x4, .int .i64 x5, .int .i64 x6])] (by kernel_rfl) ?_
          cases h6 : x7
          · have h36 := bif_f h6 h35
            refine AWl_xrun 5 _ _ _ [(35, .int .i64 x6), (34, .ptr 1 2), (33, .int .i64 x3), (32, .ptr 0 2), (31, .fn 25 []), (30, .bool false), (29, .bool false), (28, .bool false), (27, .int .i64 x5), (26, .ptr 1 1), (25, .int .i64 x2), (24, .ptr 0 1), (23, .fn 25 []), (22, .bool false), (21, .bool false), (20, .int .i64 (ibits .andNot .i64 x1 x4)), (19, .int .i64 x4), (18, .ptr 1 0), (17, .int .i64 x1), (16, .ptr 0 0), (6, .fn 25 []), (5, .nils), (3, .ptr 1 0), (2, .ptr 0 0)] [(0, some [.int .i64 x1, .int .i64 x2, .int .i64 x3]), (1, some [.int .i64 x4, .int .i64 x5, .int .i64 x6])] (by kernel_rfl) ?_
            obtain ⟨x8, h7, h37⟩ := bind_some h36
            refine AWl_o (x := .bool x8) (wl := []) (AOp_callP En_ok Tryd.call25 (caps := []) (xs := [.int .i64 x3, .int .i64 x6]) rfl rfl (pen_Turn_1_ok h7) rfl) (by kernel_rfl) (by kernel_rfl) (by kernel_rfl) ?_
            refine AWl_xrun 1 _ _ _ [(37, .bool x8), (36, .bool x8), (35, .int .i64 x6), (34, .ptr 1 2), (33, .int .i64 x3), (32, .ptr 0 2), (31, .fn 25 []), (30, .bool false), (29, .bool false), (28, .bool false), (27, .int .i64 x5), (26, .ptr 1 1), (25, .int .i64 x2), (24, .ptr 0 1), (23, .fn 25 []), (22, .bool false), (21, .bool false), (20, .int .i64 (ibits .andNot .i64 x1 x4)), (19, .int .i64 x4), (18, .ptr 1 0), (17, .int .i64 x1), (16, .ptr 0 0), (6, .fn 25 []), (5, .nils), (3, .ptr 1 0), (2, .ptr 0 0)] [(0, some [.int .i64 x1, .int .i64 x2, .int .i64 x3]), (1, some [.int .i64 x4, .int .i64 x5, .int .i64 x6])] (by kernel_rfl) ?_
            refine AWl_nilK [37, 5, 3, 2] [(37, .bool x8), (5, .nils), (3, .ptr 1 0), (2, .ptr 0 0)] (by kernel_rfl) ?_
            obtain rfl := Option.some.inj h37
            refine Tgt.mk (Weak.ren [] [] (.cons rfl (.pure rfl) (.cons rfl (.pure rfl) (.cons rfl (.ptr (l := 1) (l' := 1) rfl rfl) (.cons rfl (.ptr (l := 0) (l' := 0) rfl rfl) .nil)))) (.cons rfl (.pure rfl) (.cons rfl (.pure rfl) .nil)) (by kernel_rfl) (fun _ h => h.elim) En_ok)
          · have h38 := bif_t h6 h35
            refine AWl_xrun 7 _ _ _ [(37, .bool true), (36, .dead), (35, .dead), (34, .dead), (33, .dead), (32, .dead), (31, .dead), (30, .bool true), (29, .bool true), (28, .bool true), (27, .int .i64 x5), (26, .ptr 1 1), (25, .int .i64 x2), (24, .ptr 0 1), (23, .fn 25 []), (22, .bool false), (21, .bool false), (20, .int .i64 (ibits .andNot .i64 x1 x4)), (19, .int .i64 x4), (18, .ptr 1 0), (17, .int .i64 x1), (16, .ptr 0 0), (6, .fn 25 []), (5, .nils), (3, .ptr 1 0), (2, .ptr 0 0)] [(0, some [.int .i64 x1, .int .i64 x2, .int .i64 x3]), (1, some [.int .i64 x4, .int .i64 x5, .int .i64 x6])] (by kernel_rfl) ?_
            refine AWl_nilK [37, 5, 3, 2] [(37, .bool true), (5, .nils), (3, .ptr 1 0), (2, .ptr 0 0)] (by kernel_rfl) ?_
            obtain rfl := Option.some.inj h38
            refine Tgt.mk (Weak.ren [] [] (.cons rfl (.pure rfl) (.cons rfl (.pure rfl) (.cons rfl (.ptr (l := 1) (l' := 1) rfl rfl) (.cons rfl (.ptr (l := 0) (l' := 0) rfl rfl) .nil)))) (.cons rfl (.pure rfl) (.cons rfl (.pure rfl) .nil)) (by kernel_rfl) (fun _ h => h.elim) En_ok)
        · have h39 := bif_t h4 h9
          refine AWl_xrun 15 _ _ _ [(37, .bool true), (36, .dead), (35, .dead), (34, .dead), (33, .dead), (32, .dead), (31, .dead), (30, .bool true), (29, .bool true), (28, .dead), (27, .dead), (26, .dead), (25, .dead), (24, .dead), (23, .dead), (22, .bool true), (21, .bool true), (20, .int .i64 (ibits .andNot .i64 x1 x4)), (19, .int .i64 x4), (18, .ptr 1 0), (17, .int .i64 x1), (16, .ptr 0 0), (6, .fn 25 []), (5, .nils), (3, .ptr 1 0), (2, .ptr 0 0)] [(0, some [.int .i64 x1, .int .i64 x2, .int .i64 x3]), (1, some [.int .i64 x4, .int .i64 x5, .int .i64 x6])] (by kernel_rfl) ?_
          refine AWl_nilK [37, 5, 3, 2] [(37, .bool true), (5, .nils), (3, .ptr 1 0), (2, .ptr 0 0)] (by kernel_rfl) ?_
          obtain rfl := Option.some.inj h39
          refine Tgt.mk (Weak.ren [] [] (.cons rfl (.pure rfl) (.cons rfl (.pure rfl) (.cons rfl (.ptr (l := 1) (l' := 1) rfl rfl) (.cons rfl (.ptr (l := 0) (l' := 0) rfl rfl) .nil)))) (.cons rfl (.pure rfl) (.cons rfl (.pure rfl) .nil)) (by kernel_rfl) (fun _ h => h.elim) En_ok)
      · skip
        cases h8 : x9
        · have h40 := bif_f h8 h33
          refine AW_condF rfl ?_
          refine AW_skip ?_
          obtain ⟨rfl, h41⟩ := Prod.mk.inj (Option.some.inj h40)
          obtain ⟨rfl, h42⟩ := Prod.mk.inj (h41)
          obtain ⟨rfl, rfl⟩ := Prod.mk.inj (h42)
          refine Tgt.mk (Weak.ren [(3, 52)] [] (.cons rfl (.nilsRw rfl) (.cons rfl (.ptr (l := 1) (l' := 1) rfl rfl) (.cons rfl (.ptr (l := 0) (l' := 0) rfl rfl) .nil))) (.fresh rfl (.cons rfl (.pure rfl) (.cons rfl (.pure rfl) .nil))) (by kernel_rfl) (fun _ h => h.elim) En_ok)
        · have h43 := bif_t h8 h33
          refine AW_condT rfl ?_
          refine AW_region ?_
          refine AWl_xrun 4 _ _ _ [(5, .rw 2 0 1 1 (some 1)), (39, .agg [.int .i64 0, .int .i64 0, .int .i64 0]), (38, .rw 2 0 1 1 (some 1)), (37, .bool true), (5, .nils), (3, .ptr 1 0), (2, .ptr 0 0)] [(1, some [.int .i64 x4, .int .i64 x5, .int .i64 x6]), (0, some [.int .i64 0, .int .i64 0, .int .i64 0]), (2, some [.int .i64 0])] (by kernel_rfl) ?_
          refine AWl_nilK [5, 3, 2] [(5, .rw 2 0 1 1 (some 1)), (3, .ptr 1 0), (2, .ptr 0 0)] (by kernel_rfl) ?_
          obtain ⟨rfl, h44⟩ := Prod.mk.inj (Option.some.inj h43)
          obtain ⟨rfl, h45⟩ := Prod.mk.inj (h44)
          obtain ⟨rfl, rfl⟩ := Prod.mk.inj (h45)
          refine Tgt.mk (Weak.ren [(3, 2)] [] (.cons rfl (.rwCo (l := 2) (l' := 3) rfl rfl) (.cons rfl (.ptr (l := 1) (l' := 1) rfl rfl) (.cons rfl (.ptr (l := 0) (l' := 0) rfl rfl) .nil))) (.cons rfl (.pure rfl) (.cons rfl (.pure rfl) (.cons rfl (.pure rfl) .nil))) (by kernel_rfl) (fun _ h => h.elim) En_ok)
    · skip
      refine AW_seq ?_
      refine AW_seq ?_
      refine AW_region ?_
      refine AWl_xrun 1 _ _ _ [(7, .int .i64 0), (5, .rw 3 0 x11.length 1 none), (3, .ptr 1 0), (2, .ptr 0 0)] [(3, some (fl (eI .i64) x11)), (1, some [.int .i64 x4, .int .i64 x5, .int .i64 x6]), (0, some [.int .i64 x12, .int .i64 x13, .int .i64 x14])] (by kernel_rfl) ?_
      refine AWl_nilK [7, 5, 3, 2] [(7, .int .i64 0), (5, .rw 3 0 x11.length 1 none), (3, .ptr 1 0), (2, .ptr 0 0)] (by kernel_rfl) ?_
      refine athen_n ?_
      refine AW_block ?_
      obtain ⟨x25, h19, h46⟩ := bind_some h32
      refine AW_loopM _ (fun z => match z with | (x18, x19) => [(7, .int .i64 x18), (5, .rw 4 0 x19.length 1 none), (3, .ptr 1 0), (2, .ptr 0 0)]) (fun z => match z with | (x18, x19) => [(4, some (fl (eI .i64) x19)), (1, some [.int .i64 x4, .int .i64 x5, .int .i64 x6]), (0, some [.int .i64 x12, .int .i64 x13, .int .i64 x14])]) (fun z e al L => match z with | x25 => Tgt En (fun _ => False) (.exit 0) [(5, .rw 4 0 x25.length 1 none), (3, .ptr 1 0), (2, .ptr 0 0)] [(4, some (fl (eI .i64) x25)), (1, some [.int .i64 x4, .int .i64 x5, .int .i64 x6]), (0, some [.int .i64 x12, .int .i64 x13, .int .i64 x14])] e al L) h19 (Weak.ren [(4, 3)] [] (.cons rfl (.pure rfl) (.cons rfl (.rw (l := 3) (l' := 4) rfl rfl) (.cons rfl (.ptr (l := 1) (l' := 1) rfl rfl) (.cons rfl (.ptr (l := 0) (l' := 0) rfl rfl) .nil)))) (.cons rfl (.pure (fl_pure _)) (.cons rfl (.pure rfl) (.cons rfl (.pure rfl) .nil))) (by kernel_rfl) (fun _ h => h.elim) En_ok) ?_ ?_
      · rintro ⟨x18, x19⟩ x34 h47
        have h48 : pen_Turn_loop1 x4 x12 x18 x19 = some _ := h47
        unfold pen_Turn_loop1 at h48
        refine AW_seq ?_
        refine AW_seq ?_
        refine AW_region ?_
        refine AWl_xrun 2 _ _ _ [(41, .bool (decide (x18 ≤ 8))), (40, .int .i64 x18), (7, .int .i64 x18), (5, .rw 4 0 x19.length 1 none), (3, .ptr 1 0), (2, .ptr 0 0)] [(4, some (fl (eI .i64) x19)), (1, some [.int .i64 x4, .int .i64 x5, .int .i64 x6]), (0, some [.int .i64 x12, .int .i64 x13, .int .i64 x14])] (by kernel_rfl) ?_
        refine AWl_nilK [41, 7, 5, 3, 2] [(41, .bool (decide (x18 ≤ 8))), (7, .int .i64 x18), (5, .rw 4 0 x19.length 1 none), (3, .ptr 1 0), (2, .ptr 0 0)] (by kernel_rfl) ?_
        refine athen_n ?_
        cases h14 : (decide (x18 ≤ 8))
        · have h49 := bif_f h14 h48
          refine AW_condF rfl ?_
          refine AW_exit ?_
          refine athen_exit ?_
          obtain rfl := Option.some.inj h49
          refine Round.off (by simp) (Tgt.mk (Weak.ren [] [] (.cons rfl (.rw (l := 4) (l' := 4) rfl rfl) (.cons rfl (.ptr (l := 1) (l' := 1) rfl rfl) (.cons rfl (.ptr (l := 0) (l' := 0) rfl rfl) .nil))) (.cons rfl (.pure (fl_pure _)) (.cons rfl (.pure rfl) (.cons rfl (.pure rfl) .nil))) (by kernel_rfl) (fun _ h => h.elim) En_ok))
        · have h50 := bif_t h14 h48
          refine AW_condT rfl ?_
          refine AW_skip ?_
          refine athen_n ?_
          obtain ⟨x21, h18, h51⟩ := bind_some h50
          refine AW_meetN (fun x21 => [(7, .int .i64 x18), (5, .rw 2 0 x21.length 1 none), (3, .ptr 1 0), (2, .ptr 0 0)]) (fun x21 => [(2, some (fl (eI .i64) x21)), (1, some [.int .i64 x4, .int .i64 x5, .int .i64 x6]), (0, some [.int .i64 x12, .int .i64 x13, .int .i64 x14])]) x21 ?_ ?_
          · skip
            refine AW_block ?_
            refine AW_seq ?_
            refine AW_region ?_
            refine AWl_xrun 1 _ _ _ [(44, .int .i64 x18), (41, .bool true), (7, .int .i64 x18), (5, .rw 4 0 x19.length 1 none), (3, .ptr 1 0), (2, .ptr 0 0)] [(4, some (fl (eI .i64) x19)), (1, some [.int .i64 x4, .int .i64 x5, .int .i64 x6]), (0, some [.int .i64 x12, .int .i64 x13, .int .i64 x14])] (by kernel_rfl) ?_
            obtain ⟨x20, h15, h52⟩ := bind_some h18
            refine AWl_o (x := .int .i64 x20) (wl := []) (AOp_callP En_ok Tryd.call20 (caps := []) (xs := [.int .i64 x18]) rfl rfl (pen_bitOf_ok h15) rfl) (by kernel_rfl) (by kernel_rfl) (by kernel_rfl) ?_
            refine AWl_xrun 1 _ _ _ [(8, .int .i64 x20), (45, .int .i64 x20), (44, .int .i64 x18), (41, .bool true), (7, .int .i64 x18), (5, .rw 4 0 x19.length 1 none), (3, .ptr 1 0), (2, .ptr 0 0)] [(4, some (fl (eI .i64) x19)), (1, some [.int .i64 x4, .int .i64 x5, .int .i64 x6]), (0, some [.int .i64 x12, .int .i64 x13, .int .i64 x14])] (by kernel_rfl) ?_
            refine AWl_nilK [8, 7, 5, 3, 2] [(8, .int .i64 x20), (7, .int .i64 x18), (5, .rw 4 0 x19.length 1 none), (3, .ptr 1 0), (2, .ptr 0 0)] (by kernel_rfl) ?_
            refine athen_n ?_
            refine AW_seq ?_
            refine AW_region ?_
            refine AWl_xrun 8 _ _ _ [(53, .bool (((ibits .andNot .i64 (ibits .and .i64 x20 x4) x12) : Int) != 0)), (52, .int .i64 (ibits .andNot .i64 (ibits .and .i64 x20 x4) x12)), (51, .int .i64 x12), (50, .ptr 0 0), (49, .int .i64 (ibits .and .i64 x20 x4)), (48, .int .i64 x4), (47, .ptr 1 0), (46, .int .i64 x20), (8, .int .i64 x20), (7, .int .i64 x18), (5, .rw 4 0 x19.length 1 none), (3, .ptr 1 0), (2, .ptr 0 0)] [(4, some (fl (eI .i64) x19)), (1, some [.int .i64 x4, .int .i64 x5, .int .i64 x6]), (0, some [.int .i64 x12, .int .i64 x13, .int .i64 x14])] (by kernel_rfl) ?_
            refine AWl_nilK [53, 7, 5, 3, 2] [(53, .bool (((ibits .andNot .i64 (ibits .and .i64 x20 x4) x12) : Int) != 0)), (7, .int .i64 x18), (5, .rw 4 0 x19.length 1 none), (3, .ptr 1 0), (2, .ptr 0 0)] (by kernel_rfl) ?_
            refine athen_n ?_
            cases h16 : (((ibits .andNot .i64 (ibits .and .i64 x20 x4) x12) : Int) != 0)
            · have h53 := bif_f h16 h52
              refine AW_condF rfl ?_
              refine AW_skip ?_
              refine ablock_n ?_
              obtain rfl := Option.some.inj h53
              refine Tgt.mk (Weak.ren [(2, 4)] [] (.cons rfl (.pure rfl) (.cons rfl (.rw (l := 4) (l' := 2) rfl rfl) (.cons rfl (.ptr (l := 1) (l' := 1) rfl rfl) (.cons rfl (.ptr (l := 0) (l' := 0) rfl rfl) .nil)))) (.cons rfl (.pure (fl_pure _)) (.cons rfl (.pure rfl) (.cons rfl (.pure rfl) .nil))) (by kernel_rfl) (fun _ h => h.elim) En_ok)
            · have h54 := bif_t h16 h52
              refine AW_condT rfl ?_
              refine AW_region ?_
              refine AWl_xrun 4 _ _ _ [(57, .rw 5 0 1 1 (some 1)), (56, .int .i64 (IntKind.i64.wrap (x18 + 1))), (55, .int .i64 x18), (54, .rw 4 0 x19.length 1 none), (53, .bool true), (7, .int .i64 x18), (5, .rw 4 0 x19.length 1 none), (3, .ptr 1 0), (2, .ptr 0 0)] [(4, some (fl (eI .i64) x19)), (1, some [.int .i64 x4, .int .i64 x5, .int .i64 x6]), (0, some [.int .i64 x12, .int .i64 x13, .int .i64 x14]), (5, some [.int .i64 (IntKind.i64.wrap (x18 + 1))])] (by kernel_rfl) ?_
              obtain ⟨h17, h55⟩ := req_some h54
              refine AWl_o (x := .rw 6 0 ((x19 ++ ([IntKind.i64.wrap (x18 + 1)] : List Int)).length) 1 none) (wl := [(4, none), (6, some (fl (eI .i64) (x19 ++ ([IntKind.i64.wrap (x18 + 1)] : List Int))))]) (AOp_appendL (e := (eI .i64)) (l := x19) (m := ([IntKind.i64.wrap (x18 + 1)] : List Int)) 6 1 rfl rfl (.own rfl rfl rfl rfl) (Src.ok (.rwL rfl rfl rfl rfl rfl)) rfl rfl rfl rfl rfl rfl h17 (by decide) rfl) (by kernel_rfl) (by kernel_rfl) (by kernel_rfl) ?_
              refine AWl_xrun 1 _ _ _ [(5, .rw 6 0 ((x19 ++ ([IntKind.i64.wrap (x18 + 1)] : List Int)).length) 1 none), (58, .rw 6 0 ((x19 ++ ([IntKind.i64.wrap (x18 + 1)] : List Int)).length) 1 none), (57, .rw 5 0 1 1 (some 1)), (56, .int .i64 (IntKind.i64.wrap (x18 + 1))), (55, .int .i64 x18), (54, .rw 4 0 x19.length 1 none), (53, .bool true), (7, .int .i64 x18), (5, .rw 4 0 x19.length 1 none), (3, .ptr 1 0), (2, .ptr 0 0)] [(4, none), (1, some [.int .i64 x4, .int .i64 x5, .int .i64 x6]), (0, some [.int .i64 x12, .int .i64 x13, .int .i64 x14]), (5, some [.int .i64 (IntKind.i64.wrap (x18 + 1))]), (6, some (fl (eI .i64) (x19 ++ ([IntKind.i64.wrap (x18 + 1)] : List Int))))] (by kernel_rfl) ?_
              refine AWl_nilK [5, 7, 3, 2] [(5, .rw 6 0 ((x19 ++ ([IntKind.i64.wrap (x18 + 1)] : List Int)).length) 1 none), (7, .int .i64 x18), (3, .ptr 1 0), (2, .ptr 0 0)] (by kernel_rfl) ?_
              refine ablock_n ?_
              obtain rfl := Option.some.inj h55
              refine Tgt.mk (Weak.ren [(2, 6)] [] (.cons rfl (.pure rfl) (.cons rfl (.rw (l := 6) (l' := 2) rfl rfl) (.cons rfl (.ptr (l := 1) (l' := 1) rfl rfl) (.cons rfl (.ptr (l := 0) (l' := 0) rfl rfl) .nil)))) (.cons rfl (.pure (fl_pure _)) (.cons rfl (.pure rfl) (.cons rfl (.pure rfl) .nil))) (by kernel_rfl) (fun _ h => h.elim) En_ok)
          · skip
            refine AW_region ?_
            refine AWl_xrun 3 _ _ _ [(7, .int .i64 (IntKind.i64.wrap (x18 + 1))), (43, .int .i64 (IntKind.i64.wrap (x18 + 1))), (42, .int .i64 x18), (7, .int .i64 x18), (5, .rw 2 0 x21.length 1 none), (3, .ptr 1 0), (2, .ptr 0 0)] [(2, some (fl (eI .i64) x21)), (1, some [.int .i64 x4, .int .i64 x5, .int .i64 x6]), (0, some [.int .i64 x12, .int .i64 x13, .int .i64 x14])] (by kernel_rfl) ?_
            refine AWl_nilK [7, 5, 3, 2] [(7, .int .i64 (IntKind.i64.wrap (x18 + 1))), (5, .rw 2 0 x21.length 1 none), (3, .ptr 1 0), (2, .ptr 0 0)] (by kernel_rfl) ?_
            obtain rfl := Option.some.inj h51
            refine Round.on (Weak.ren [(4, 2)] [] (.cons rfl (.pure rfl) (.cons rfl (.rw (l := 2) (l' := 4) rfl rfl) (.cons rfl (.ptr (l := 1) (l' := 1) rfl rfl) (.cons rfl (.ptr (l := 0) (l' := 0) rfl rfl) .nil)))) (.cons rfl (.pure (fl_pure _)) (.cons rfl (.pure rfl) (.cons rfl (.pure rfl) .nil))) (by kernel_rfl) (fun _ h => h.elim) En_ok)
      · skip
        rintro e al L ⟨rfl, h56⟩ -
        refine ⟨_, _, h56, ?_⟩
        refine ablock_eq ?_
        refine athen_n ?_
        obtain ⟨x27, h27, h57⟩ := bind_some h46
        refine AW_meetN (fun x27 => [(5, .rw 2 0 x27.length 1 none), (3, .ptr 1 0), (2, .ptr 0 0)]) (fun x27 => [(2, some (fl (eI .i64) x27)), (1, some [.int .i64 x4, .int .i64 x5, .int .i64 x6]), (0, some [.int .i64 x12, .int .i64 x13, .int .i64 x14])]) x27 ?_ ?_
        · skip
          refine AW_seq ?_
          refine AW_region ?_
          refine AWl_xrun 5 _ _ _ [(63, .bool ((x5 : Int) != x13)), (62, .int .i64 x13), (61, .ptr 0 1), (60, .int .i64 x5), (59, .ptr 1 1), (5, .rw 4 0 x25.length 1 none), (3, .ptr 1 0), (2, .ptr 0 0)] [(4, some (fl (eI .i64) x25)), (1, some [.int .i64 x4, .int .i64 x5, .int .i64 x6]), (0, some [.int .i64 x12, .int .i64 x13, .int .i64 x14])] (by kernel_rfl) ?_
          refine AWl_nilK [63, 5, 3, 2] [(63, .bool ((x5 : Int) != x13)), (5, .rw 4 0 x25.length 1 none), (3, .ptr 1 0), (2, .ptr 0 0)] (by kernel_rfl) ?_
          refine athen_n ?_
          cases h20 : ((x5 : Int) != x13)
          · have h58 := bif_f h20 h27
            refine AW_condF rfl ?_
            refine AW_skip ?_
            obtain rfl := Option.some.inj h58
            refine Tgt.mk (Weak.ren [(2, 4)] [] (.cons rfl (.rw (l := 4) (l' := 2) rfl rfl) (.cons rfl (.ptr (l := 1) (l' := 1) rfl rfl) (.cons rfl (.ptr (l := 0) (l' := 0) rfl rfl) .nil))) (.cons rfl (.pure (fl_pure _)) (.cons rfl (.pure rfl) (.cons rfl (.pure rfl) .nil))) (by kernel_rfl) (fun _ h => h.elim) En_ok)
          · have h59 := bif_t h20 h27
            refine AW_condT rfl ?_
            refine AW_region ?_
            refine AWl_xrun 3 _ _ _ [(66, .int .i64 x5), (65, .ptr 1 1), (64, .rw 4 0 x25.length 1 none), (63, .bool true), (5, .rw 4 0 x25.length 1 none), (3, .ptr 1 0), (2, .ptr 0 0)] [(4, some (fl (eI .i64) x25)), (1, some [.int .i64 x4, .int .i64 x5, .int .i64 x6]), (0, some [.int .i64 x12, .int .i64 x13, .int .i64 x14])] (by kernel_rfl) ?_
            obtain ⟨x26, h21, h60⟩ := bind_some h59
            refine AWl_o (x := .ro (fl (eI .i64) x26) x26.length none) (wl := []) (AOp_callP En_ok Tryd.call26 (caps := []) (xs := [.int .i64 30, .int .i64 x5]) rfl rfl (pen_show_ok h21) rfl) (by kernel_rfl) (by kernel_rfl) (by kernel_rfl) ?_
            obtain ⟨h22, h61⟩ := req_some h60
            refine AWl_o (x := .rw 5 0 ((x25 ++ x26).length) 1 none) (wl := [(4, none), (5, some (fl (eI .i64) (x25 ++ x26)))]) (AOp_appendL (e := (eI .i64)) (l := x25) (m := x26) 5 1 rfl rfl (.own rfl rfl rfl rfl) (Src.ok (.ro rfl rfl)) rfl rfl rfl rfl rfl rfl h22 (by decide) rfl) (by kernel_rfl) (by kernel_rfl) (by kernel_rfl) ?_
            refine AWl_xrun 1 _ _ _ [(5, .rw 5 0 ((x25 ++ x26).length) 1 none), (68, .rw 5 0 ((x25 ++ x26).length) 1 none), (67, .ro (fl (eI .i64) x26) x26.length none), (66, .int .i64 x5), (65, .ptr 1 1), (64, .rw 4 0 x25.length 1 none), (63, .bool true), (5, .rw 4 0 x25.length 1 none), (3, .ptr 1 0), (2, .ptr 0 0)] [(4, none), (1, some [.int .i64 x4, .int .i64 x5, .int .i64 x6]), (0, some [.int .i64 x12, .int .i64 x13, .int .i64 x14]), (5, some (fl (eI .i64) (x25 ++ x26)))] (by kernel_rfl) ?_
            refine AWl_nilK [5, 3, 2] [(5, .rw 5 0 ((x25 ++ x26).length) 1 none), (3, .ptr 1 0), (2, .ptr 0 0)] (by kernel_rfl) ?_
            obtain rfl := Option.some.inj h61
            refine Tgt.mk (Weak.ren [(2, 5)] [] (.cons rfl (.rw (l := 5) (l' := 2) rfl rfl) (.cons rfl (.ptr (l := 1) (l' := 1) rfl rfl) (.cons rfl (.ptr (l := 0) (l' := 0) rfl rfl) .nil))) (.cons rfl (.pure (fl_pure _)) (.cons rfl (.pure rfl) (.cons rfl (.pure rfl) .nil))) (by kernel_rfl) (fun _ h => h.elim) En_ok)
        · skip
          obtain ⟨x29, h26, h62⟩ := bind_some h57
          refine AW_meetN (fun x29 => [(5, .rw 4 0 x29.length 1 none)]) (fun x29 => [(4, some (fl (eI .i64) x29))]) x29 ?_ ?_
          · skip
            refine AW_seq ?_
            refine AW_region ?_
            refine AWl_xrun 5 _ _ _ [(73, .bool ((x6 : Int) != x14)), (72, .int .i64 x14), (71, .ptr 0 2), (70, .int .i64 x6), (69, .ptr 1 2), (5, .rw 2 0 x27.length 1 none), (3, .ptr 1 0), (2, .ptr 0 0)] [(2, some (fl (eI .i64) x27)), (1, some [.int .i64 x4, .int .i64 x5, .int .i64 x6]), (0, some [.int .i64 x12, .int .i64 x13, .int .i64 x14])] (by kernel_rfl) ?_
            refine AWl_nilK [73, 5, 3] [(73, .bool ((x6 : Int) != x14)), (5, .rw 2 0 x27.length 1 none), (3, .ptr 1 0)] (by kernel_rfl) ?_
            refine athen_n ?_
            cases h23 : ((x6 : Int) != x14)
            · have h63 := bif_f h23 h26
              refine AW_condF rfl ?_
              refine AW_skip ?_
              obtain rfl := Option.some.inj h63
              refine Tgt.mk (Weak.ren [(4, 2)] [] (.cons rfl (.rw (l := 2) (l' := 4) rfl rfl) .nil) (.cons rfl (.pure (fl_pure _)) .nil) (by kernel_rfl) (fun _ h => h.elim) En_ok)
            · have h64 := bif_t h23 h26
              refine AW_condT rfl ?_
              refine AW_region ?_
              refine AWl_xrun 3 _ _ _ [(76, .int .i64 x6), (75, .ptr 1 2), (74, .rw 2 0 x27.length 1 none), (73, .bool true), (5, .rw 2 0 x27.length 1 none), (3, .ptr 1 0)] [(2, some (fl (eI .i64) x27)), (1, some [.int .i64 x4, .int .i64 x5, .int .i64 x6]), (0, some [.int .i64 x12, .int .i64 x13, .int .i64 x14])] (by kernel_rfl) ?_
              obtain ⟨x28, h24, h65⟩ := bind_some h64
              refine AWl_o (x := .ro (fl (eI .i64) x28) x28.length none) (wl := []) (AOp_callP En_ok Tryd.call26 (caps := []) (xs := [.int .i64 40, .int .i64 x6]) rfl rfl (pen_show_ok h24) rfl) (by kernel_rfl) (by kernel_rfl) (by kernel_rfl) ?_
              obtain ⟨h25, h66⟩ := req_some h65
              refine AWl_o (x := .rw 3 0 ((x27 ++ x28).length) 1 none) (wl := [(2, none), (3, some (fl (eI .i64) (x27 ++ x28)))]) (AOp_appendL (e := (eI .i64)) (l := x27) (m := x28) 3 1 rfl rfl (.own rfl rfl rfl rfl) (Src.ok (.ro rfl rfl)) rfl rfl rfl rfl rfl rfl h25 (by decide) rfl) (by kernel_rfl) (by kernel_rfl) (by kernel_rfl) ?_
              refine AWl_xrun 1 _ _ _ [(5, .rw 3 0 ((x27 ++ x28).length) 1 none), (78, .rw 3 0 ((x27 ++ x28).length) 1 none), (77, .ro (fl (eI .i64) x28) x28.length none), (76, .int .i64 x6), (75, .ptr 1 2), (74, .rw 2 0 x27.length 1 none), (73, .bool true), (5, .rw 2 0 x27.length 1 none), (3, .ptr 1 0)] [(2, none), (1, some [.int .i64 x4, .int .i64 x5, .int .i64 x6]), (0, some [.int .i64 x12, .int .i64 x13, .int .i64 x14]), (3, some (fl (eI .i64) (x27 ++ x28)))] (by kernel_rfl) ?_
              refine AWl_nilK [5] [(5, .rw 3 0 ((x27 ++ x28).length) 1 none)] (by kernel_rfl) ?_
              obtain rfl := Option.some.inj h66
              refine Tgt.mk (Weak.ren [(4, 3)] [] (.cons rfl (.rw (l := 3) (l' := 4) rfl rfl) .nil) (.cons rfl (.pure (fl_pure _)) .nil) (by kernel_rfl) (fun _ h => h.elim) En_ok)
          · skip
            refine AW_seq ?_
            refine AW_region ?_
            refine AWl_xrun 2 _ _ _ [(4, .rw 4 0 x29.length 1 none), (79, .rw 4 0 x29.length 1 none), (5, .rw 4 0 x29.length 1 none)] [(4, some (fl (eI .i64) x29))] (by kernel_rfl) ?_
            refine AWl_nilK [4] [(4, .rw 4 0 x29.length 1 none)] (by kernel_rfl) ?_
            refine athen_n ?_
            refine AW_ret ?_
            obtain rfl := Option.some.inj h62
            refine RetsW.mk [(4, .rw 2 0 x29.length 1 none)] [(2, some (fl (eI .i64) x29))] (Weak.ren [(2, 4)] [] (.cons rfl (.rw (l := 4) (l' := 2) rfl rfl) .nil) (.cons rfl (.pure (fl_pure _)) .nil) (by kernel_rfl) (fun _ h => h.elim) En_ok) (rets1 (x := .rw 2 0 x29.length 1 none) (.inl rfl) (by kernel_rfl) (Out.fl rfl rfl rfl rfl))
  · have h67 := bif_t h3 h30
    refine AW_condT rfl ?_
    refine AW_seq ?_
    refine AW_region ?_
    refine AWl_xrun 1 _ _ _ [(4, .nils), (15, .bool true), (3, .ptr 1 0), (2, .ptr 0 0)] [(0, some [.int .i64 x1, .int .i64 x2, .int .i64 x3]), (1, some [.int .i64 x4, .int .i64 x5, .int .i64 x6])] (by kernel_rfl) ?_
    refine AWl_nilK [4] [(4, .nils)] (by kernel_rfl) ?_
    refine athen_n ?_
    refine AW_ret ?_
    refine athen_ret ?_
    obtain rfl := Option.some.inj h67
    refine RetsW.mk [(4, .rw 2 0 (([] : List Int).length) 1 none)] [(2, some (fl (eI .i64) ([] : List Int)))] (Weak.ren [(2, 52)] [] (.cons rfl (.nilsRw rfl) .nil) (.fresh rfl .nil) (by kernel_rfl) (fun _ h => h.elim) En_ok) (rets1 (x := .rw 2 0 (([] : List Int).length) 1 none) (.inl rfl) (by kernel_rfl) (Out.fl rfl rfl rfl rfl))
noncomputable def strconv_small (a0 : Int) : Option ((List UInt8)) :=
  bif (decide (a0 < 10)) then
    (req (0 ≤ a0 ∧ 0 ≤ (IntKind.i64.wrap (a0 + 1)) ∧ a0.toNat ≤ (IntKind.i64.wrap (a0 + 1)).toNat ∧ (IntKind.i64.wrap (a0 + 1)).toNat ≤ lit_0.length) (
    some (sub lit_0 a0.toNat ((IntKind.i64.wrap (a0 + 1)).toNat))))
  else
    (req (0 ≤ (IntKind.i64.wrap (a0 * 2)) ∧ 0 ≤ (IntKind.i64.wrap ((IntKind.i64.wrap (a0 * 2)) + 2)) ∧ (IntKind.i64.wrap (a0 * 2)).toNat ≤ (IntKind.i64.wrap ((IntKind.i64.wrap (a0 * 2)) + 2)).toNat ∧ (IntKind.i64.wrap ((IntKind.i64.wrap (a0 * 2)) + 2)).toNat ≤ lit_1.length) (
    some (sub lit_1 ((IntKind.i64.wrap (a0 * 2)).toNat) ((IntKind.i64.wrap ((IntKind.i64.wrap (a0 * 2)) + 2)).toNat))))
theorem strconv_small_ok {a0 : Int} {x1 : List UInt8} (h : strconv_small a0 = some x1) : Pure En 33 [.int .i64 a0] (.str x1) := by
  unfold strconv_small at h
  refine ACalls_pureW En_ok (fn := Tryd.f33) Tryd.func33 rfl (by simp [Tryd.ntmps33]) ?_
  refine AW_seq ?_
  refine AW_region ?_
  refine AWl_xrun 1 _ _ _ [(2, .str []), (0, .int .i64 a0)] [] (by kernel_rfl) ?_
  refine AWl_nilK [0] [(0, .int .i64 a0)] (by kernel_rfl) ?_
  refine athen_n ?_
  refine AW_seq ?_
  refine AW_seq ?_
  refine AW_region ?_
  refine AWl_xrun 2 _ _ _ [(4, .bool (decide (a0 < 10))), (3, .int .i64 a0), (0, .int .i64 a0)] [] (by kernel_rfl) ?_
  refine AWl_nilK [4, 0] [(4, .bool (decide (a0 < 10))), (0, .int .i64 a0)] (by kernel_rfl) ?_
  refine athen_n ?_
  cases h1 : (decide (a0 < 10))
  · have h4 := bif_f h1 h
    refine AW_condF rfl ?_
    refine AW_skip ?_
    refine athen_n ?_
    refine AW_seq ?_
    refine AW_region ?_
    refine AWl_xrun 5 _ _ _ [(13, .int .i64 (IntKind.i64.wrap ((IntKind.i64.wrap (a0 * 2)) + 2))), (12, .int .i64 (IntKind.i64.wrap (a0 * 2))), (11, .int .i64 a0), (10, .int .i64 (IntKind.i64.wrap (a0 * 2))), (9, .int .i64 a0), (4, .bool false), (0, .int .i64 a0)] [] (by kernel_rfl) ?_
    obtain ⟨h3, h5⟩ := req_some h4
    refine AWl_o (x := .str (sub lit_1 ((IntKind.i64.wrap (a0 * 2)).toNat) ((IntKind.i64.wrap ((IntKind.i64.wrap (a0 * 2)) + 2)).toNat))) (wl := []) (AOp_sliceStrI (a := (IntKind.i64.wrap (a0 * 2)).toNat) (b := (IntKind.i64.wrap ((IntKind.i64.wrap (a0 * 2)) + 2)).toNat) rfl rfl (bnd_int rfl h3.1) (bnd_int rfl h3.2.1) h3.2.2.1 h3.2.2.2) (by kernel_rfl) (by kernel_rfl) (by kernel_rfl) ?_
    refine AWl_xrun 1 _ _ _ [(2, .str (sub lit_1 ((IntKind.i64.wrap (a0 * 2)).toNat) ((IntKind.i64.wrap ((IntKind.i64.wrap (a0 * 2)) + 2)).toNat))), (14, .str (sub lit_1 ((IntKind.i64.wrap (a0 * 2)).toNat) ((IntKind.i64.wrap ((IntKind.i64.wrap (a0 * 2)) + 2)).toNat))), (13, .int .i64 (IntKind.i64.wrap ((IntKind.i64.wrap (a0 * 2)) + 2))), (12, .int .i64 (IntKind.i64.wrap (a0 * 2))), (11, .int .i64 a0), (10, .int .i64 (IntKind.i64.wrap (a0 * 2))), (9, .int .i64 a0), (4, .bool false), (0, .int .i64 a0)] [] (by kernel_rfl) ?_
    refine AWl_nilK [2] [(2, .str (sub lit_1 ((IntKind.i64.wrap (a0 * 2)).toNat) ((IntKind.i64.wrap ((IntKind.i64.wrap (a0 * 2)) + 2)).toNat)))] (by kernel_rfl) ?_
    refine athen_n ?_
    refine AW_ret ?_
    obtain rfl := Option.some.inj h5
    refine RetsW.mk [(2, .str (sub lit_1 ((IntKind.i64.wrap (a0 * 2)).toNat) ((IntKind.i64.wrap ((IntKind.i64.wrap (a0 * 2)) + 2)).toNat)))] [] (Weak.ren [] [] (.cons rfl (.pure rfl) .nil) .nil (by kernel_rfl) (fun _ h => h.elim) En_ok) (rets1 (x := .str (sub lit_1 ((IntKind.i64.wrap (a0 * 2)).toNat) ((IntKind.i64.wrap ((IntKind.i64.wrap (a0 * 2)) + 2)).toNat))) (.inl rfl) (by kernel_rfl) (.pure rfl))
  · have h6 := bif_t h1 h
    refine AW_condT rfl ?_
    refine AW_seq ?_
    refine AW_region ?_
    refine AWl_xrun 3 _ _ _ [(7, .int .i64 (IntKind.i64.wrap (a0 + 1))), (6, .int .i64 a0), (5, .int .i64 a0), (4, .bool true), (0, .int .i64 a0)] [] (by kernel_rfl) ?_
    obtain ⟨h2, h7⟩ := req_some h6
    refine AWl_o (x := .str (sub lit_0 a0.toNat ((IntKind.i64.wrap (a0 + 1)).toNat))) (wl := []) (AOp_sliceStrI (a := a0.toNat) (b := (IntKind.i64.wrap (a0 + 1)).toNat) rfl rfl (bnd_int rfl h2.1) (bnd_int rfl h2.2.1) h2.2.2.1 h2.2.2.2) (by kernel_rfl) (by kernel_rfl) (by kernel_rfl) ?_
    refine AWl_xrun 1 _ _ _ [(2, .str (sub lit_0 a0.toNat ((IntKind.i64.wrap (a0 + 1)).toNat))), (8, .str (sub lit_0 a0.toNat ((IntKind.i64.wrap (a0 + 1)).toNat))), (7, .int .i64 (IntKind.i64.wrap (a0 + 1))), (6, .int .i64 a0), (5, .int .i64 a0), (4, .bool true), (0, .int .i64 a0)] [] (by kernel_rfl) ?_
    refine AWl_nilK [2] [(2, .str (sub lit_0 a0.toNat ((IntKind.i64.wrap (a0 + 1)).toNat)))] (by kernel_rfl) ?_
    refine athen_n ?_
    refine AW_ret ?_
    refine athen_ret ?_
    obtain rfl := Option.some.inj h7
    refine RetsW.mk [(2, .str (sub lit_0 a0.toNat ((IntKind.i64.wrap (a0 + 1)).toNat)))] [] (Weak.ren [] [] (.cons rfl (.pure rfl) .nil) .nil (by kernel_rfl) (fun _ h => h.elim) En_ok) (rets1 (x := .str (sub lit_0 a0.toNat ((IntKind.i64.wrap (a0 + 1)).toNat))) (.inl rfl) (by kernel_rfl) (.pure rfl))
noncomputable def bits_Len64 (a0 : Int) : Option (Int) :=
  (bif (decide (a0 ≥ 4294967296)) then
      (some (32, Int.fdiv a0 (2 ^ 32)))
    else
      (some (0, a0)) : Option (Int × Int)).bind fun (x1, x2) =>
  (bif (decide (x2 ≥ 65536)) then
      (some (IntKind.i64.wrap (x1 + 16), Int.fdiv x2 (2 ^ 16)))
    else
      (some (x1, x2)) : Option (Int × Int)).bind fun (x3, x4) =>
  (bif (decide (x4 ≥ 256)) then
      (some (IntKind.i64.wrap (x3 + 8), Int.fdiv x4 (2 ^ 8)))
    else
      (some (x3, x4)) : Option (Int × Int)).bind fun (x5, x6) =>
  (getI lit_2 ((UInt8.ofInt (x6)).toNat : Int)).bind fun x7 =>
  some (IntKind.i64.wrap (x5 + (IntKind.i64.wrap (x7.toNat : Int))))
theorem bits_Len64_ok {a0 : Int} {x11 : Int} (h : bits_Len64 a0 = some x11) : Pure En 38 [.int .u64 a0] (.int .i64 x11) := by
  unfold bits_Len64 at h
  refine ACalls_pureW En_ok (fn := Tryd.f38) Tryd.func38 rfl (by simp [Tryd.ntmps38]) ?_
  refine AW_seq ?_
  refine AW_region ?_
  refine AWl_xrun 1 _ _ _ [(2, .int .i64 0), (0, .int .u64 a0)] [] (by kernel_rfl) ?_
  refine AWl_nilK [2, 0] [(2, .int .i64 0), (0, .int .u64 a0)] (by kernel_rfl) ?_
  refine athen_n ?_
  obtain ⟨⟨x1, x2⟩, h7, h8⟩ := bind_some h
  refine AW_meetN (fun z => match z with | (x1, x2) => [(2, .int .i64 x1), (0, .int .u64 x2)]) (fun z => match z with | (x1, x2) => []) (x1, x2) ?_ ?_
  · skip
    refine AW_seq ?_
    refine AW_region ?_
    refine AWl_xrun 2 _ _ _ [(4, .bool (decide (a0 ≥ 4294967296))), (3, .int .u64 a0), (2, .int .i64 0), (0, .int .u64 a0)] [] (by kernel_rfl) ?_
    refine AWl_nilK [4, 2, 0] [(4, .bool (decide (a0 ≥ 4294967296))), (2, .int .i64 0), (0, .int .u64 a0)] (by kernel_rfl) ?_
    refine athen_n ?_
    cases h1 : (decide (a0 ≥ 4294967296))
    · have h9 := bif_f h1 h7
      refine AW_condF rfl ?_
      refine AW_skip ?_
      obtain ⟨rfl, rfl⟩ := Prod.mk.inj (Option.some.inj h9)
      refine Tgt.mk (Weak.ren [] [] (.cons rfl (.pure rfl) (.cons rfl (.pure rfl) .nil)) .nil (by kernel_rfl) (fun _ h => h.elim) En_ok)
    · have h10 := bif_t h1 h7
      refine AW_condT rfl ?_
      refine AW_seq ?_
      refine AW_region ?_
      refine AWl_xrun 3 _ _ _ [(0, .int .u64 (Int.fdiv a0 (2 ^ 32))), (6, .int .u64 (Int.fdiv a0 (2 ^ 32))), (5, .int .u64 a0), (4, .bool true), (2, .int .i64 0), (0, .int .u64 a0)] [] (by kernel_rfl) ?_
      refine AWl_nilK [0] [(0, .int .u64 (Int.fdiv a0 (2 ^ 32)))] (by kernel_rfl) ?_
      refine athen_n ?_
      refine AW_region ?_
      refine AWl_xrun 1 _ _ _ [(2, .int .i64 32), (0, .int .u64 (Int.fdiv a0 (2 ^ 32)))] [] (by kernel_rfl) ?_
      refine AWl_nilK [2, 0] [(2, .int .i64 32), (0, .int .u64 (Int.fdiv a0 (2 ^ 32)))] (by kernel_rfl) ?_
      obtain ⟨rfl, rfl⟩ := Prod.mk.inj (Option.some.inj h10)
      refine Tgt.mk (Weak.ren [] [] (.cons rfl (.pure rfl) (.cons rfl (.pure rfl) .nil)) .nil (by kernel_rfl) (fun _ h => h.elim) En_ok)
  · skip
    obtain ⟨⟨x3, x4⟩, h6, h11⟩ := bind_some h8
    refine AW_meetN (fun z => match z with | (x3, x4) => [(2, .int .i64 x3), (0, .int .u64 x4)]) (fun z => match z with | (x3, x4) => []) (x3, x4) ?_ ?_
    · skip
      refine AW_seq ?_
      refine AW_region ?_
      refine AWl_xrun 2 _ _ _ [(8, .bool (decide (x2 ≥ 65536))), (7, .int .u64 x2), (2, .int .i64 x1), (0, .int .u64 x2)] [] (by kernel_rfl) ?_
      refine AWl_nilK [8, 2, 0] [(8, .bool (decide (x2 ≥ 65536))), (2, .int .i64 x1), (0, .int .u64 x2)] (by kernel_rfl) ?_
      refine athen_n ?_
      cases h2 : (decide (x2 ≥ 65536))
      · have h12 := bif_f h2 h6
        refine AW_condF rfl ?_
        refine AW_skip ?_
        obtain ⟨rfl, rfl⟩ := Prod.mk.inj (Option.some.inj h12)
        refine Tgt.mk (Weak.ren [] [] (.cons rfl (.pure rfl) (.cons rfl (.pure rfl) .nil)) .nil (by kernel_rfl) (fun _ h => h.elim) En_ok)
      · have h13 := bif_t h2 h6
        refine AW_condT rfl ?_
        refine AW_seq ?_
        refine AW_region ?_
        refine AWl_xrun 3 _ _ _ [(0, .int .u64 (Int.fdiv x2 (2 ^ 16))), (10, .int .u64 (Int.fdiv x2 (2 ^ 16))), (9, .int .u64 x2), (8, .bool true), (2, .int .i64 x1), (0, .int .u64 x2)] [] (by kernel_rfl) ?_
        refine AWl_nilK [0, 2] [(0, .int .u64 (Int.fdiv x2 (2 ^ 16))), (2, .int .i64 x1)] (by kernel_rfl) ?_
        refine athen_n ?_
        refine AW_region ?_
        refine AWl_xrun 3 _ _ _ [(2, .int .i64 (IntKind.i64.wrap (x1 + 16))), (12, .int .i64 (IntKind.i64.wrap (x1 + 16))), (11, .int .i64 x1), (0, .int .u64 (Int.fdiv x2 (2 ^ 16))), (2, .int .i64 x1)] [] (by kernel_rfl) ?_
        refine AWl_nilK [2, 0] [(2, .int .i64 (IntKind.i64.wrap (x1 + 16))), (0, .int .u64 (Int.fdiv x2 (2 ^ 16)))] (by kernel_rfl) ?_
        obtain ⟨rfl, rfl⟩ := Prod.mk.inj (Option.some.inj h13)
        refine Tgt.mk (Weak.ren [] [] (.cons rfl (.pure rfl) (.cons rfl (.pure rfl) .nil)) .nil (by kernel_rfl) (fun _ h => h.elim) En_ok)
    · skip
      obtain ⟨⟨x5, x6⟩, h5, h14⟩ := bind_some h11
      refine AW_meetN (fun z => match z with | (x5, x6) => [(2, .int .i64 x5), (0, .int .u64 x6)]) (fun z => match z with | (x5, x6) => []) (x5, x6) ?_ ?_
      · skip
        refine AW_seq ?_
        refine AW_region ?_
        refine AWl_xrun 2 _ _ _ [(14, .bool (decide (x4 ≥ 256))), (13, .int .u64 x4), (2, .int .i64 x3), (0, .int .u64 x4)] [] (by kernel_rfl) ?_
        refine AWl_nilK [14, 2, 0] [(14, .bool (decide (x4 ≥ 256))), (2, .int .i64 x3), (0, .int .u64 x4)] (by kernel_rfl) ?_
        refine athen_n ?_
        cases h3 : (decide (x4 ≥ 256))
        · have h15 := bif_f h3 h5
          refine AW_condF rfl ?_
          refine AW_skip ?_
          obtain ⟨rfl, rfl⟩ := Prod.mk.inj (Option.some.inj h15)
          refine Tgt.mk (Weak.ren [] [] (.cons rfl (.pure rfl) (.cons rfl (.pure rfl) .nil)) .nil (by kernel_rfl) (fun _ h => h.elim) En_ok)
        · have h16 := bif_t h3 h5
          refine AW_condT rfl ?_
          refine AW_seq ?_
          refine AW_region ?_
          refine AWl_xrun 3 _ _ _ [(0, .int .u64 (Int.fdiv x4 (2 ^ 8))), (16, .int .u64 (Int.fdiv x4 (2 ^ 8))), (15, .int .u64 x4), (14, .bool true), (2, .int .i64 x3), (0, .int .u64 x4)] [] (by kernel_rfl) ?_
          refine AWl_nilK [0, 2] [(0, .int .u64 (Int.fdiv x4 (2 ^ 8))), (2, .int .i64 x3)] (by kernel_rfl) ?_
          refine athen_n ?_
          refine AW_region ?_
          refine AWl_xrun 3 _ _ _ [(2, .int .i64 (IntKind.i64.wrap (x3 + 8))), (18, .int .i64 (IntKind.i64.wrap (x3 + 8))), (17, .int .i64 x3), (0, .int .u64 (Int.fdiv x4 (2 ^ 8))), (2, .int .i64 x3)] [] (by kernel_rfl) ?_
          refine AWl_nilK [2, 0] [(2, .int .i64 (IntKind.i64.wrap (x3 + 8))), (0, .int .u64 (Int.fdiv x4 (2 ^ 8)))] (by kernel_rfl) ?_
          obtain ⟨rfl, rfl⟩ := Prod.mk.inj (Option.some.inj h16)
          refine Tgt.mk (Weak.ren [] [] (.cons rfl (.pure rfl) (.cons rfl (.pure rfl) .nil)) .nil (by kernel_rfl) (fun _ h => h.elim) En_ok)
      · skip
        refine AW_seq ?_
        refine AW_region ?_
        refine AWl_xrun 2 _ _ _ [(20, .int .u64 x6), (19, .int .i64 x5), (2, .int .i64 x5), (0, .int .u64 x6)] [] (by kernel_rfl) ?_
        refine AWl_o (x := .int .u8 ((UInt8.ofInt (x6)).toNat : Int)) (wl := []) (AOp_x (x' := .int .u8 (IntKind.u8.wrap x6)) 0 rfl (by kernel_rfl) (by rw [wrap_u8])) (by kernel_rfl) (by kernel_rfl) (by kernel_rfl) ?_
        obtain ⟨x7, h4, h17⟩ := bind_some h14
        refine AWl_o (x := .int .u8 (x7.toNat : Int)) (wl := []) (AOp_idxStr (s := lit_2) rfl rfl rfl h4) (by kernel_rfl) (by kernel_rfl) (by kernel_rfl) ?_
        refine AWl_xrun 3 _ _ _ [(2, .int .i64 (IntKind.i64.wrap (x5 + (IntKind.i64.wrap (x7.toNat : Int))))), (24, .int .i64 (IntKind.i64.wrap (x5 + (IntKind.i64.wrap (x7.toNat : Int))))), (23, .int .i64 (IntKind.i64.wrap (x7.toNat : Int))), (22, .int .u8 (x7.toNat : Int)), (21, .int .u8 ((UInt8.ofInt (x6)).toNat : Int)), (20, .int .u64 x6), (19, .int .i64 x5), (2, .int .i64 x5), (0, .int .u64 x6)] [] (by kernel_rfl) ?_
        refine AWl_nilK [2] [(2, .int .i64 (IntKind.i64.wrap (x5 + (IntKind.i64.wrap (x7.toNat : Int)))))] (by kernel_rfl) ?_
        refine athen_n ?_
        refine AW_ret ?_
        obtain rfl := Option.some.inj h17
        refine RetsW.mk [(2, .int .i64 (IntKind.i64.wrap (x5 + (IntKind.i64.wrap (x7.toNat : Int)))))] [] (Weak.ren [] [] (.cons rfl (.pure rfl) .nil) .nil (by kernel_rfl) (fun _ h => h.elim) En_ok) (rets1 (x := .int .i64 (IntKind.i64.wrap (x5 + (IntKind.i64.wrap (x7.toNat : Int))))) (.inl rfl) (by kernel_rfl) (.pure rfl))
noncomputable def strconv_log10Pow2 (a0 : Int) : Option (Unit) :=
  some ()
theorem strconv_log10Pow2_ok {a0 : Int} (h : strconv_log10Pow2 a0 = some ()) : Pure En 37 [.int .i64 a0] (.int .i64 (Int.fdiv (IntKind.i64.wrap (a0 * 78913)) (2 ^ 18))) := by
  unfold strconv_log10Pow2 at h
  refine ACalls_pureW En_ok (fn := Tryd.f37) Tryd.func37 rfl (by simp [Tryd.ntmps37]) ?_
  refine AW_seq ?_
  refine AW_region ?_
  refine AWl_xrun 1 _ _ _ [(2, .int .i64 0), (0, .int .i64 a0)] [] (by kernel_rfl) ?_
  refine AWl_nilK [0] [(0, .int .i64 a0)] (by kernel_rfl) ?_
  refine athen_n ?_
  refine AW_seq ?_
  refine AW_region ?_
  refine AWl_xrun 4 _ _ _ [(2, .int .i64 (Int.fdiv (IntKind.i64.wrap (a0 * 78913)) (2 ^ 18))), (5, .int .i64 (Int.fdiv (IntKind.i64.wrap (a0 * 78913)) (2 ^ 18))), (4, .int .i64 (IntKind.i64.wrap (a0 * 78913))), (3, .int .i64 a0), (0, .int .i64 a0)] [] (by kernel_rfl) ?_
  refine AWl_nilK [2] [(2, .int .i64 (Int.fdiv (IntKind.i64.wrap (a0 * 78913)) (2 ^ 18)))] (by kernel_rfl) ?_
  refine athen_n ?_
  refine AW_ret ?_
  refine RetsW.mk [(2, .int .i64 (Int.fdiv (IntKind.i64.wrap (a0 * 78913)) (2 ^ 18)))] [] (Weak.ren [] [] (.cons rfl (.pure rfl) .nil) .nil (by kernel_rfl) (fun _ h => h.elim) En_ok) (rets1 (x := .int .i64 (Int.fdiv (IntKind.i64.wrap (a0 * 78913)) (2 ^ 18))) (.inl rfl) (by kernel_rfl) (.pure rfl))
noncomputable def strconv_bool2_int (a0 : Bool) : Option (Int) :=
  bif a0 then
    (some 1)
  else
    (some 0)
theorem strconv_bool2_int_ok {a0 : Bool} {x1 : Int} (h : strconv_bool2_int a0 = some x1) : Pure En 39 [.bool a0] (.int .i64 x1) := by
  unfold strconv_bool2_int at h
  refine ACalls_pureW En_ok (fn := Tryd.f39) Tryd.func39 rfl (by simp [Tryd.ntmps39]) ?_
  refine AW_seq ?_
  refine AW_region ?_
  refine AWl_xrun 1 _ _ _ [(2, .int .i64 0), (0, .bool a0)] [] (by kernel_rfl) ?_
  refine AWl_nilK [0] [(0, .bool a0)] (by kernel_rfl) ?_
  refine athen_n ?_
  refine AW_seq ?_
  refine AW_seq ?_
  refine AW_region ?_
  refine AWl_xrun 1 _ _ _ [(3, .bool a0), (0, .bool a0)] [] (by kernel_rfl) ?_
  refine AWl_nilK [3] [(3, .bool a0)] (by kernel_rfl) ?_
  refine athen_n ?_
  cases h1 : a0
  · have h2 := bif_f h1 h
    refine AW_condF rfl ?_
    refine AW_skip ?_
    refine athen_n ?_
    refine AW_seq ?_
    refine AW_region ?_
    refine AWl_xrun 1 _ _ _ [(2, .int .i64 0), (3, .bool false)] [] (by kernel_rfl) ?_
    refine AWl_nilK [2] [(2, .int .i64 0)] (by kernel_rfl) ?_
    refine athen_n ?_
    refine AW_ret ?_
    obtain rfl := Option.some.inj h2
    refine RetsW.mk [(2, .int .i64 0)] [] (Weak.ren [] [] (.cons rfl (.pure rfl) .nil) .nil (by kernel_rfl) (fun _ h => h.elim) En_ok) (rets1 (x := .int .i64 0) (.inl rfl) (by kernel_rfl) (.pure rfl))
  · have h3 := bif_t h1 h
    refine AW_condT rfl ?_
    refine AW_seq ?_
    refine AW_region ?_
    refine AWl_xrun 1 _ _ _ [(2, .int .i64 1), (3, .bool true)] [] (by kernel_rfl) ?_
    refine AWl_nilK [2] [(2, .int .i64 1)] (by kernel_rfl) ?_
    refine athen_n ?_
    refine AW_ret ?_
    refine athen_ret ?_
    obtain rfl := Option.some.inj h3
    refine RetsW.mk [(2, .int .i64 1)] [] (Weak.ren [] [] (.cons rfl (.pure rfl) .nil) .nil (by kernel_rfl) (fun _ h => h.elim) En_ok) (rets1 (x := .int .i64 1) (.inl rfl) (by kernel_rfl) (.pure rfl))
noncomputable def strconv_numDigits (a0 : Int) : Option (Int) :=
  (bits_Len64 a0).bind fun x1 =>
  (strconv_log10Pow2 x1).bind fun _ =>
  (getI tab_pow10 (Int.fdiv (IntKind.i64.wrap (x1 * 78913)) (2 ^ 18))).bind fun x2 =>
  (strconv_bool2_int (decide (a0 ≥ x2))).bind fun x3 =>
  some (IntKind.i64.wrap ((Int.fdiv (IntKind.i64.wrap (x1 * 78913)) (2 ^ 18)) + x3))
theorem strconv_numDigits_ok {a0 : Int} {x4 : Int} (h : strconv_numDigits a0 = some x4) : Pure En 34 [.int .u64 a0] (.int .i64 x4) := by
  unfold strconv_numDigits at h
  refine ACalls_pureW En_ok (fn := Tryd.f34) Tryd.func34 rfl (by simp [Tryd.ntmps34]) ?_
  refine AW_seq ?_
  refine AW_region ?_
  refine AWl_xrun 1 _ _ _ [(2, .int .i64 0), (0, .int .u64 a0)] [] (by kernel_rfl) ?_
  refine AWl_nilK [0] [(0, .int .u64 a0)] (by kernel_rfl) ?_
  refine athen_n ?_
  refine AW_seq ?_
  refine AW_region ?_
  refine AWl_xrun 1 _ _ _ [(4, .int .u64 a0), (0, .int .u64 a0)] [] (by kernel_rfl) ?_
  obtain ⟨x1, h1, h5⟩ := bind_some h
  refine AWl_o (x := .int .i64 x1) (wl := []) (AOp_callP En_ok Tryd.call38 (caps := []) (xs := [.int .u64 a0]) rfl rfl (bits_Len64_ok h1) rfl) (by kernel_rfl) (by kernel_rfl) (by kernel_rfl) ?_
  obtain ⟨_, h2, h6⟩ := bind_some h5
  refine AWl_o (x := .int .i64 (Int.fdiv (IntKind.i64.wrap (x1 * 78913)) (2 ^ 18))) (wl := []) (AOp_callP En_ok Tryd.call37 (caps := []) (xs := [.int .i64 x1]) rfl rfl (strconv_log10Pow2_ok h2) rfl) (by kernel_rfl) (by kernel_rfl) (by kernel_rfl) ?_
  refine AWl_xrun 1 _ _ _ [(3, .int .i64 (Int.fdiv (IntKind.i64.wrap (x1 * 78913)) (2 ^ 18))), (6, .int .i64 (Int.fdiv (IntKind.i64.wrap (x1 * 78913)) (2 ^ 18))), (5, .int .i64 x1), (4, .int .u64 a0), (0, .int .u64 a0)] [] (by kernel_rfl) ?_
  refine AWl_nilK [3, 0] [(3, .int .i64 (Int.fdiv (IntKind.i64.wrap (x1 * 78913)) (2 ^ 18))), (0, .int .u64 a0)] (by kernel_rfl) ?_
  refine athen_n ?_
  refine AW_seq ?_
  refine AW_region ?_
  refine AWl_xrun 3 _ _ _ [(9, .int .i64 (Int.fdiv (IntKind.i64.wrap (x1 * 78913)) (2 ^ 18))), (8, .int .u64 a0), (7, .int .i64 (Int.fdiv (IntKind.i64.wrap (x1 * 78913)) (2 ^ 18))), (3, .int .i64 (Int.fdiv (IntKind.i64.wrap (x1 * 78913)) (2 ^ 18))), (0, .int .u64 a0)] [] (by kernel_rfl) ?_
  obtain ⟨x2, h3, h7⟩ := bind_some h6
  refine AWl_o (x := .rop (fl (eI .u64) tab_pow10) ((Int.fdiv (IntKind.i64.wrap (x1 * 78913)) (2 ^ 18)).toNat * 1)) (wl := []) (AOp_idxArrG (e := (eI .u64)) (l := tab_pow10) 1 rfl rfl rfl rfl rfl rfl rfl h3) (by kernel_rfl) (by kernel_rfl) (by kernel_rfl) ?_
  refine AWl_o (x := .int .u64 x2) (wl := []) (AOp_loadEl (e := (eI .u64)) (l := tab_pow10) (i := (Int.fdiv (IntKind.i64.wrap (x1 * 78913)) (2 ^ 18))) 0 1 1 rfl rfl rfl rfl rfl h3 rfl (by kernel_rfl) (by kernel_rfl)) (by kernel_rfl) (by kernel_rfl) (by kernel_rfl) ?_
  refine AWl_xrun 1 _ _ _ [(12, .bool (decide (a0 ≥ x2))), (11, .int .u64 x2), (10, .rop (fl (eI .u64) tab_pow10) ((Int.fdiv (IntKind.i64.wrap (x1 * 78913)) (2 ^ 18)).toNat * 1)), (9, .int .i64 (Int.fdiv (IntKind.i64.wrap (x1 * 78913)) (2 ^ 18))), (8, .int .u64 a0), (7, .int .i64 (Int.fdiv (IntKind.i64.wrap (x1 * 78913)) (2 ^ 18))), (3, .int .i64 (Int.fdiv (IntKind.i64.wrap (x1 * 78913)) (2 ^ 18))), (0, .int .u64 a0)] [] (by kernel_rfl) ?_
  obtain ⟨x3, h4, h8⟩ := bind_some h7
  refine AWl_o (x := .int .i64 x3) (wl := []) (AOp_callP En_ok Tryd.call39 (caps := []) (xs := [.bool (decide (a0 ≥ x2))]) rfl rfl (strconv_bool2_int_ok h4) rfl) (by kernel_rfl) (by kernel_rfl) (by kernel_rfl) ?_
  refine AWl_xrun 2 _ _ _ [(2, .int .i64 (IntKind.i64.wrap ((Int.fdiv (IntKind.i64.wrap (x1 * 78913)) (2 ^ 18)) + x3))), (14, .int .i64 (IntKind.i64.wrap ((Int.fdiv (IntKind.i64.wrap (x1 * 78913)) (2 ^ 18)) + x3))), (13, .int .i64 x3), (12, .bool (decide (a0 ≥ x2))), (11, .int .u64 x2), (10, .rop (fl (eI .u64) tab_pow10) ((Int.fdiv (IntKind.i64.wrap (x1 * 78913)) (2 ^ 18)).toNat * 1)), (9, .int .i64 (Int.fdiv (IntKind.i64.wrap (x1 * 78913)) (2 ^ 18))), (8, .int .u64 a0), (7, .int .i64 (Int.fdiv (IntKind.i64.wrap (x1 * 78913)) (2 ^ 18))), (3, .int .i64 (Int.fdiv (IntKind.i64.wrap (x1 * 78913)) (2 ^ 18))), (0, .int .u64 a0)] [] (by kernel_rfl) ?_
  refine AWl_nilK [2] [(2, .int .i64 (IntKind.i64.wrap ((Int.fdiv (IntKind.i64.wrap (x1 * 78913)) (2 ^ 18)) + x3)))] (by kernel_rfl) ?_
  refine athen_n ?_
  refine AW_ret ?_
  obtain rfl := Option.some.inj h8
  refine RetsW.mk [(2, .int .i64 (IntKind.i64.wrap ((Int.fdiv (IntKind.i64.wrap (x1 * 78913)) (2 ^ 18)) + x3)))] [] (Weak.ren [] [] (.cons rfl (.pure rfl) .nil) .nil (by kernel_rfl) (fun _ h => h.elim) En_ok) (rets1 (x := .int .i64 (IntKind.i64.wrap ((Int.fdiv (IntKind.i64.wrap (x1 * 78913)) (2 ^ 18)) + x3))) (.inl rfl) (by kernel_rfl) (.pure rfl))
noncomputable def strconv_formatBase10_v2_loop1 (a2 : Nat) (x17 : Int) (x18 : Int) (x19 : List UInt8) : Option ((Int × Int × (List UInt8)) ⊕ (Int × Int × (List UInt8))) :=
    bif (decide (x17 ≥ 8)) then
      ((getI lit_1 (IntKind.u32.wrap ((IntKind.u32.wrap ((Int.tmod (Int.tmod (IntKind.u32.wrap (Int.tmod x18 100000000)) 10000) 100) * 2)) + 1))).bind fun x20 =>
      (getI lit_1 (IntKind.u32.wrap ((Int.tmod (Int.tmod (IntKind.u32.wrap (Int.tmod x18 100000000)) 10000) 100) * 2))).bind fun x21 =>
      (getI x19 (IntKind.i64.wrap (x17 - 1))).bind fun x22 =>
      req (IntKind.i64.wrap (x17 - 1) < (a2 : Int)) (
      (getI (x19.set (IntKind.i64.wrap (x17 - 1)).toNat x20) (IntKind.i64.wrap (x17 - 2))).bind fun x23 =>
      req (IntKind.i64.wrap (x17 - 2) < (a2 : Int)) (
      (getI lit_1 (IntKind.u32.wrap ((IntKind.u32.wrap ((IntKind.u32.wrap (Int.tdiv (Int.tmod (IntKind.u32.wrap (Int.tmod x18 100000000)) 10000) 100)) * 2)) + 1))).bind fun x24 =>
      (getI lit_1 (IntKind.u32.wrap ((IntKind.u32.wrap (Int.tdiv (Int.tmod (IntKind.u32.wrap (Int.tmod x18 100000000)) 10000) 100)) * 2))).bind fun x25 =>
      (getI ((x19.set (IntKind.i64.wrap (x17 - 1)).toNat x20).set (IntKind.i64.wrap (x17 - 2)).toNat x21) (IntKind.i64.wrap (x17 - 3))).bind fun x26 =>
      req (IntKind.i64.wrap (x17 - 3) < (a2 : Int)) (
      (getI (((x19.set (IntKind.i64.wrap (x17 - 1)).toNat x20).set (IntKind.i64.wrap (x17 - 2)).toNat x21).set (IntKind.i64.wrap (x17 - 3)).toNat x24) (IntKind.i64.wrap (x17 - 4))).bind fun x27 =>
      req (IntKind.i64.wrap (x17 - 4) < (a2 : Int)) (
      (getI lit_1 (IntKind.u32.wrap ((IntKind.u32.wrap ((Int.tmod (IntKind.u32.wrap (Int.tdiv (IntKind.u32.wrap (Int.tmod x18 100000000)) 10000)) 100) * 2)) + 1))).bind fun x28 =>
      (getI lit_1 (IntKind.u32.wrap ((Int.tmod (IntKind.u32.wrap (Int.tdiv (IntKind.u32.wrap (Int.tmod x18 100000000)) 10000)) 100) * 2))).bind fun x29 =>
      (getI ((((x19.set (IntKind.i64.wrap (x17 - 1)).toNat x20).set (IntKind.i64.wrap (x17 - 2)).toNat x21).set (IntKind.i64.wrap (x17 - 3)).toNat x24).set (IntKind.i64.wrap (x17 - 4)).toNat x25) (IntKind.i64.wrap (x17 - 5))).bind fun x30 =>
      req (IntKind.i64.wrap (x17 - 5) < (a2 : Int)) (
      (getI (((((x19.set (IntKind.i64.wrap (x17 - 1)).toNat x20).set (IntKind.i64.wrap (x17 - 2)).toNat x21).set (IntKind.i64.wrap (x17 - 3)).toNat x24).set (IntKind.i64.wrap (x17 - 4)).toNat x25).set (IntKind.i64.wrap (x17 - 5)).toNat x28) (IntKind.i64.wrap (x17 - 6))).bind fun x31 =>
      req (IntKind.i64.wrap (x17 - 6) < (a2 : Int)) (
      (getI lit_1 (IntKind.u32.wrap ((IntKind.u32.wrap ((IntKind.u32.wrap (Int.tdiv (IntKind.u32.wrap (Int.tdiv (IntKind.u32.wrap (Int.tmod x18 100000000)) 10000)) 100)) * 2)) + 1))).bind fun x32 =>
      (getI lit_1 (IntKind.u32.wrap ((IntKind.u32.wrap (Int.tdiv (IntKind.u32.wrap (Int.tdiv (IntKind.u32.wrap (Int.tmod x18 100000000)) 10000)) 100)) * 2))).bind fun x33 =>
      (getI ((((((x19.set (IntKind.i64.wrap (x17 - 1)).toNat x20).set (IntKind.i64.wrap (x17 - 2)).toNat x21).set (IntKind.i64.wrap (x17 - 3)).toNat x24).set (IntKind.i64.wrap (x17 - 4)).toNat x25).set (IntKind.i64.wrap (x17 - 5)).toNat x28).set (IntKind.i64.wrap (x17 - 6)).toNat x29) (IntKind.i64.wrap (x17 - 7))).bind fun x34 =>
      req (IntKind.i64.wrap (x17 - 7) < (a2 : Int)) (
      (getI (((((((x19.set (IntKind.i64.wrap (x17 - 1)).toNat x20).set (IntKind.i64.wrap (x17 - 2)).toNat x21).set (IntKind.i64.wrap (x17 - 3)).toNat x24).set (IntKind.i64.wrap (x17 - 4)).toNat x25).set (IntKind.i64.wrap (x17 - 5)).toNat x28).set (IntKind.i64.wrap (x17 - 6)).toNat x29).set (IntKind.i64.wrap (x17 - 7)).toNat x32) (IntKind.i64.wrap (x17 - 8))).bind fun x35 =>
      req (IntKind.i64.wrap (x17 - 8) < (a2 : Int)) (
      some (.inr (IntKind.i64.wrap (x17 - 8), IntKind.u64.wrap (Int.tdiv x18 100000000), (((((((x19.set (IntKind.i64.wrap (x17 - 1)).toNat x20).set (IntKind.i64.wrap (x17 - 2)).toNat x21).set (IntKind.i64.wrap (x17 - 3)).toNat x24).set (IntKind.i64.wrap (x17 - 4)).toNat x25).set (IntKind.i64.wrap (x17 - 5)).toNat x28).set (IntKind.i64.wrap (x17 - 6)).toNat x29).set (IntKind.i64.wrap (x17 - 7)).toNat x32).set (IntKind.i64.wrap (x17 - 8)).toNat x33)))))))))))
    else
      (some (.inl (x17, x18, x19)))
noncomputable def strconv_formatBase10_v2 (a0 : Int) (a1 : List UInt8) (a2 : Nat) : Option ((List UInt8)) :=
  (loopO (fun z => match z with | (x17, x18, x19) => strconv_formatBase10_v2_loop1 a2 x17 x18 x19) ((a2 : Int), a0, a1)).bind fun (x39, x40, x41) =>
  (bif (decide (x39 ≥ 4)) then
      ((getI lit_1 (IntKind.u32.wrap ((IntKind.u32.wrap ((Int.tmod (Int.tmod (IntKind.u32.wrap x40) 10000) 100) * 2)) + 1))).bind fun x43 =>
      (getI lit_1 (IntKind.u32.wrap ((Int.tmod (Int.tmod (IntKind.u32.wrap x40) 10000) 100) * 2))).bind fun x44 =>
      (getI x41 (IntKind.i64.wrap (x39 - 1))).bind fun x45 =>
      req (IntKind.i64.wrap (x39 - 1) < (a2 : Int)) (
      (getI (x41.set (IntKind.i64.wrap (x39 - 1)).toNat x43) (IntKind.i64.wrap (x39 - 2))).bind fun x46 =>
      req (IntKind.i64.wrap (x39 - 2) < (a2 : Int)) (
      (getI lit_1 (IntKind.u32.wrap ((IntKind.u32.wrap ((IntKind.u32.wrap (Int.tdiv (Int.tmod (IntKind.u32.wrap x40) 10000) 100)) * 2)) + 1))).bind fun x47 =>
      (getI lit_1 (IntKind.u32.wrap ((IntKind.u32.wrap (Int.tdiv (Int.tmod (IntKind.u32.wrap x40) 10000) 100)) * 2))).bind fun x48 =>
      (getI ((x41.set (IntKind.i64.wrap (x39 - 1)).toNat x43).set (IntKind.i64.wrap (x39 - 2)).toNat x44) (IntKind.i64.wrap (x39 - 3))).bind fun x49 =>
      req (IntKind.i64.wrap (x39 - 3) < (a2 : Int)) (
      (getI (((x41.set (IntKind.i64.wrap (x39 - 1)).toNat x43).set (IntKind.i64.wrap (x39 - 2)).toNat x44).set (IntKind.i64.wrap (x39 - 3)).toNat x47) (IntKind.i64.wrap (x39 - 4))).bind fun x50 =>
      req (IntKind.i64.wrap (x39 - 4) < (a2 : Int)) (
      some (IntKind.u32.wrap (Int.tdiv (IntKind.u32.wrap x40) 10000), IntKind.i64.wrap (x39 - 4), (((x41.set (IntKind.i64.wrap (x39 - 1)).toNat x43).set (IntKind.i64.wrap (x39 - 2)).toNat x44).set (IntKind.i64.wrap (x39 - 3)).toNat x47).set (IntKind.i64.wrap (x39 - 4)).toNat x48))))))
    else
      (some (IntKind.u32.wrap x40, x39, x41)) : Option (Int × Int × (List UInt8))).bind fun (x51, x52, x53) =>
  (bif (decide (x52 ≥ 2)) then
      ((getI lit_1 (IntKind.u32.wrap ((IntKind.u32.wrap ((Int.tmod x51 100) * 2)) + 1))).bind fun x54 =>
      (getI lit_1 (IntKind.u32.wrap ((Int.tmod x51 100) * 2))).bind fun x55 =>
      (getI x53 (IntKind.i64.wrap (x52 - 1))).bind fun x56 =>
      req (IntKind.i64.wrap (x52 - 1) < (a2 : Int)) (
      (getI (x53.set (IntKind.i64.wrap (x52 - 1)).toNat x54) (IntKind.i64.wrap (x52 - 2))).bind fun x57 =>
      req (IntKind.i64.wrap (x52 - 2) < (a2 : Int)) (
      some (IntKind.u32.wrap (Int.tdiv x51 100), IntKind.i64.wrap (x52 - 2), (x53.set (IntKind.i64.wrap (x52 - 1)).toNat x54).set (IntKind.i64.wrap (x52 - 2)).toNat x55))))
    else
      (some (x51, x52, x53)) : Option (Int × Int × (List UInt8))).bind fun (x58, x59, x60) =>
  bif (decide (x59 > 0)) then
    ((getI x60 0).bind fun x61 =>
    req (0 < (a2 : Int)) (
    some (x60.set (0 : Int).toNat (UInt8.ofInt (IntKind.u32.wrap (48 + x58))))))
  else
    (some x60)
theorem strconv_formatBase10_v2_ok {a0 : Int} {a1 : List UInt8} {a2 : Nat} {x64 : List UInt8} (h : strconv_formatBase10_v2 a0 a1 a2 = some x64) : ACalls En 35 [.rw 1 0 a2 1 none, .int .u64 a0] [(1, some (fl eU8 a1))] (fun v L => v = (.tup []) ∧ L = [(1, some (fl eU8 x64))]) := by
  unfold strconv_formatBase10_v2 at h
  refine ACalls_of (fn := Tryd.f35) Tryd.func35 rfl (by simp [Tryd.ntmps35]) ?_
  refine AW_seq ?_
  refine AW_region ?_
  refine AWl_xrun 3 _ _ _ [(4, .int .i64 (a2 : Int)), (18, .int .i64 (a2 : Int)), (17, .rw 1 0 a2 1 none), (0, .rw 1 0 a2 1 none), (1, .int .u64 a0)] [(1, some (fl eU8 a1))] (by kernel_rfl) ?_
  refine AWl_nilK [4, 0, 1] [(4, .int .i64 (a2 : Int)), (0, .rw 1 0 a2 1 none), (1, .int .u64 a0)] (by kernel_rfl) ?_
  refine athen_n ?_
  refine AW_seq ?_
  refine AW_block ?_
  obtain ⟨x42, h51, h77⟩ := bind_some h
  refine AW_loopM _ (fun z => match z with | (x17, x18, x19) => [(4, .int .i64 x17), (0, .rw 1 0 a2 1 none), (1, .int .u64 x18)]) (fun z => match z with | (x17, x18, x19) => [(1, some (fl eU8 x19))]) (fun z e al L => match z with | (x39, x40, x41) => Tgt En (fun l => lget ([(1, some (fl eU8 a1))] : Lb) l ≠ none) (.exit 0) [(4, .int .i64 x39), (0, .rw 1 0 a2 1 none), (1, .int .u64 x40)] [(1, some (fl eU8 x41))] e al L) h51 (Weak.ren [] [1] (.cons rfl (.pure rfl) (.cons rfl (.rw (l := 1) (l' := 1) rfl rfl) (.cons rfl (.pure rfl) .nil))) (.cons rfl (.pure (fl_pure _)) .nil) (by kernel_rfl) (keysK rfl) En_ok) ?_ ?_
  · rintro ⟨x17, x18, x19⟩ x65 h78
    have h79 : strconv_formatBase10_v2_loop1 a2 x17 x18 x19 = some _ := h78
    unfold strconv_formatBase10_v2_loop1 at h79
    refine AW_seq ?_
    refine AW_seq ?_
    refine AW_region ?_
    refine AWl_xrun 2 _ _ _ [(20, .bool (decide (x17 ≥ 8))), (19, .int .i64 x17), (4, .int .i64 x17), (0, .rw 1 0 a2 1 none), (1, .int .u64 x18)] [(1, some (fl eU8 x19))] (by kernel_rfl) ?_
    refine AWl_nilK [20, 4, 0, 1] [(20, .bool (decide (x17 ≥ 8))), (4, .int .i64 x17), (0, .rw 1 0 a2 1 none), (1, .int .u64 x18)] (by kernel_rfl) ?_
    refine athen_n ?_
    cases h26 : (decide (x17 ≥ 8))
    · have h80 := bif_f h26 h79
      refine AW_condF rfl ?_
      refine AW_exit ?_
      refine athen_exit ?_
      obtain rfl := Option.some.inj h80
      refine Round.off (by simp) (Tgt.mk (Weak.ren [] [1] (.cons rfl (.pure rfl) (.cons rfl (.rw (l := 1) (l' := 1) rfl rfl) (.cons rfl (.pure rfl) .nil))) (.cons rfl (.pure (fl_pure _)) .nil) (by kernel_rfl) (keysK rfl) En_ok))
    · have h81 := bif_t h26 h79
      refine AW_condT rfl ?_
      refine AW_skip ?_
      refine athen_n ?_
      refine AW_block ?_
      refine AW_seq ?_
      refine AW_region ?_
      refine AWl_xrun 4 _ _ _ [(5, .int .u32 (IntKind.u32.wrap (Int.tmod x18 100000000))), (23, .int .u32 (IntKind.u32.wrap (Int.tmod x18 100000000))), (22, .int .u64 (Int.tmod x18 100000000)), (21, .int .u64 x18), (20, .bool true), (4, .int .i64 x17), (0, .rw 1 0 a2 1 none), (1, .int .u64 x18)] [(1, some (fl eU8 x19))] (by kernel_rfl) ?_
      refine AWl_nilK [5, 4, 0, 1] [(5, .int .u32 (IntKind.u32.wrap (Int.tmod x18 100000000))), (4, .int .i64 x17), (0, .rw 1 0 a2 1 none), (1, .int .u64 x18)] (by kernel_rfl) ?_
      refine athen_n ?_
      refine AW_seq ?_
      refine AW_region ?_
      refine AWl_xrun 3 _ _ _ [(1, .int .u64 (IntKind.u64.wrap (Int.tdiv x18 100000000))), (25, .int .u64 (IntKind.u64.wrap (Int.tdiv x18 100000000))), (24, .int .u64 x18), (5, .int .u32 (IntKind.u32.wrap (Int.tmod x18 100000000))), (4, .int .i64 x17), (0, .rw 1 0 a2 1 none), (1, .int .u64 x18)] [(1, some (fl eU8 x19))] (by kernel_rfl) ?_
      refine AWl_nilK [1, 5, 4, 0] [(1, .int .u64 (IntKind.u64.wrap (Int.tdiv x18 100000000))), (5, .int .u32 (IntKind.u32.wrap (Int.tmod x18 100000000))), (4, .int .i64 x17), (0, .rw 1 0 a2 1 none)] (by kernel_rfl) ?_
      refine athen_n ?_
      refine AW_seq ?_
      refine AW_region ?_
      refine AWl_xrun 6 _ _ _ [(7, .int .u32 (Int.tmod (IntKind.u32.wrap (Int.tmod x18 100000000)) 10000)), (6, .int .u32 (IntKind.u32.wrap (Int.tdiv (IntKind.u32.wrap (Int.tmod x18 100000000)) 10000))), (29, .int .u32 (Int.tmod (IntKind.u32.wrap (Int.tmod x18 100000000)) 10000)), (28, .int .u32 (IntKind.u32.wrap (Int.tmod x18 100000000))), (27, .int .u32 (IntKind.u32.wrap (Int.tdiv (IntKind.u32.wrap (Int.tmod x18 100000000)) 10000))), (26, .int .u32 (IntKind.u32.wrap (Int.tmod x18 100000000))), (1, .int .u64 (IntKind.u64.wrap (Int.tdiv x18 100000000))), (5, .int .u32 (IntKind.u32.wrap (Int.tmod x18 100000000))), (4, .int .i64 x17), (0, .rw 1 0 a2 1 none)] [(1, some (fl eU8 x19))] (by kernel_rfl) ?_
      refine AWl_nilK [7, 6, 1, 4, 0] [(7, .int .u32 (Int.tmod (IntKind.u32.wrap (Int.tmod x18 100000000)) 10000)), (6, .int .u32 (IntKind.u32.wrap (Int.tdiv (IntKind.u32.wrap (Int.tmod x18 100000000)) 10000))), (1, .int .u64 (IntKind.u64.wrap (Int.tdiv x18 100000000))), (4, .int .i64 x17), (0, .rw 1 0 a2 1 none)] (by kernel_rfl) ?_
      refine athen_n ?_
      refine AW_seq ?_
      refine AW_region ?_
      refine AWl_xrun 8 _ _ _ [(9, .int .u32 (IntKind.u32.wrap ((Int.tmod (Int.tmod (IntKind.u32.wrap (Int.tmod x18 100000000)) 10000) 100) * 2))), (8, .int .u32 (IntKind.u32.wrap ((IntKind.u32.wrap (Int.tdiv (Int.tmod (IntKind.u32.wrap (Int.tmod x18 100000000)) 10000) 100)) * 2))), (35, .int .u32 (IntKind.u32.wrap ((Int.tmod (Int.tmod (IntKind.u32.wrap (Int.tmod x18 100000000)) 10000) 100) * 2))), (34, .int .u32 (Int.tmod (Int.tmod (IntKind.u32.wrap (Int.tmod x18 100000000)) 10000) 100)), (33, .int .u32 (Int.tmod (IntKind.u32.wrap (Int.tmod x18 100000000)) 10000)), (32, .int .u32 (IntKind.u32.wrap ((IntKind.u32.wrap (Int.tdiv (Int.tmod (IntKind.u32.wrap (Int.tmod x18 100000000)) 10000) 100)) * 2))), (31, .int .u32 (IntKind.u32.wrap (Int.tdiv (Int.tmod (IntKind.u32.wrap (Int.tmod x18 100000000)) 10000) 100))), (30, .int .u32 (Int.tmod (IntKind.u32.wrap (Int.tmod x18 100000000)) 10000)), (7, .int .u32 (Int.tmod (IntKind.u32.wrap (Int.tmod x18 100000000)) 10000)), (6, .int .u32 (IntKind.u32.wrap (Int.tdiv (IntKind.u32.wrap (Int.tmod x18 100000000)) 10000))), (1, .int .u64 (IntKind.u64.wrap (Int.tdiv x18 100000000))), (4, .int .i64 x17), (0, .rw 1 0 a2 1 none)] [(1, some (fl eU8 x19))] (by kernel_rfl) ?_
      refine AWl_nilK [9, 8, 6, 1, 4, 0] [(9, .int .u32 (IntKind.u32.wrap ((Int.tmod (Int.tmod (IntKind.u32.wrap (Int.tmod x18 100000000)) 10000) 100) * 2))), (8, .int .u32 (IntKind.u32.wrap ((IntKind.u32.wrap (Int.tdiv (Int.tmod (IntKind.u32.wrap (Int.tmod x18 100000000)) 10000) 100)) * 2))), (6, .int .u32 (IntKind.u32.wrap (Int.tdiv (IntKind.u32.wrap (Int.tmod x18 100000000)) 10000))), (1, .int .u64 (IntKind.u64.wrap (Int.tdiv x18 100000000))), (4, .int .i64 x17), (0, .rw 1 0 a2 1 none)] (by kernel_rfl) ?_
      refine athen_n ?_
      refine AW_seq ?_
      refine AW_region ?_
      refine AWl_xrun 8 _ _ _ [(11, .int .u32 (IntKind.u32.wrap ((Int.tmod (IntKind.u32.wrap (Int.tdiv (IntKind.u32.wrap (Int.tmod x18 100000000)) 10000)) 100) * 2))), (10, .int .u32 (IntKind.u32.wrap ((IntKind.u32.wrap (Int.tdiv (IntKind.u32.wrap (Int.tdiv (IntKind.u32.wrap (Int.tmod x18 100000000)) 10000)) 100)) * 2))), (41, .int .u32 (IntKind.u32.wrap ((Int.tmod (IntKind.u32.wrap (Int.tdiv (IntKind.u32.wrap (Int.tmod x18 100000000)) 10000)) 100) * 2))), (40, .int .u32 (Int.tmod (IntKind.u32.wrap (Int.tdiv (IntKind.u32.wrap (Int.tmod x18 100000000)) 10000)) 100)), (39, .int .u32 (IntKind.u32.wrap (Int.tdiv (IntKind.u32.wrap (Int.tmod x18 100000000)) 10000))), (38, .int .u32 (IntKind.u32.wrap ((IntKind.u32.wrap (Int.tdiv (IntKind.u32.wrap (Int.tdiv (IntKind.u32.wrap (Int.tmod x18 100000000)) 10000)) 100)) * 2))), (37, .int .u32 (IntKind.u32.wrap (Int.tdiv (IntKind.u32.wrap (Int.tdiv (IntKind.u32.wrap (Int.tmod x18 100000000)) 10000)) 100))), (36, .int .u32 (IntKind.u32.wrap (Int.tdiv (IntKind.u32.wrap (Int.tmod x18 100000000)) 10000))), (9, .int .u32 (IntKind.u32.wrap ((Int.tmod (Int.tmod (IntKind.u32.wrap (Int.tmod x18 100000000)) 10000) 100) * 2))), (8, .int .u32 (IntKind.u32.wrap ((IntKind.u32.wrap (Int.tdiv (Int.tmod (IntKind.u32.wrap (Int.tmod x18 100000000)) 10000) 100)) * 2))), (6, .int .u32 (IntKind.u32.wrap (Int.tdiv (IntKind.u32.wrap (Int.tmod x18 100000000)) 10000))), (1, .int .u64 (IntKind.u64.wrap (Int.tdiv x18 100000000))), (4, .int .i64 x17), (0, .rw 1 0 a2 1 none)] [(1, some (fl eU8 x19))] (by kernel_rfl) ?_
      refine AWl_nilK [11, 10, 9, 8, 1, 4, 0] [(11, .int .u32 (IntKind.u32.wrap ((Int.tmod (IntKind.u32.wrap (Int.tdiv (IntKind.u32.wrap (Int.tmod x18 100000000)) 10000)) 100) * 2))), (10, .int .u32 (IntKind.u32.wrap ((IntKind.u32.wrap (Int.tdiv (IntKind.u32.wrap (Int.tdiv (IntKind.u32.wrap (Int.tmod x18 100000000)) 10000)) 100)) * 2))), (9, .int .u32 (IntKind.u32.wrap ((Int.tmod (Int.tmod (IntKind.u32.wrap (Int.tmod x18 100000000)) 10000) 100) * 2))), (8, .int .u32 (IntKind.u32.wrap ((IntKind.u32.wrap (Int.tdiv (Int.tmod (IntKind.u32.wrap (Int.tmod x18 100000000)) 10000) 100)) * 2))), (1, .int .u64 (IntKind.u64.wrap (Int.tdiv x18 100000000))), (4, .int .i64 x17), (0, .rw 1 0 a2 1 none)] (by kernel_rfl) ?_
      refine athen_n ?_
      refine AW_seq ?_
      obtain ⟨x20, h27, h82⟩ := bind_some h81
      obtain ⟨x21, h28, h83⟩ := bind_some h82
      obtain ⟨x22, h29, h84⟩ := bind_some h83
      obtain ⟨h30, h85⟩ := req_some h84
      obtain ⟨x23, h31, h86⟩ := bind_some h85
      obtain ⟨h32, h87⟩ := req_some h86
      refine AW_drawK En_mixed [⟨[(0, .rw 1 0 a2 1 none)], [], .rw 1 0 a2 1 none, [], true, false⟩, ⟨[(4, .int .i64 x17)], [], .int .i64 x17, [], true, false⟩, ⟨[(43, .int .i64 x17)], [], .int .i64 (IntKind.i64.wrap (x17 - 1)), [], true, false⟩, ⟨[(0, .rw 1 0 a2 1 none)], [], .rw 1 0 a2 1 none, [], true, false⟩, ⟨[(4, .int .i64 x17)], [], .int .i64 x17, [], true, false⟩, ⟨[(46, .int .i64 x17)], [], .int .i64 (IntKind.i64.wrap (x17 - 2)), [], true, false⟩, ⟨[(9, .int .u32 (IntKind.u32.wrap ((Int.tmod (Int.tmod (IntKind.u32.wrap (Int.tmod x18 100000000)) 10000) 100) * 2)))], [], .int .u32 (IntKind.u32.wrap ((Int.tmod (Int.tmod (IntKind.u32.wrap (Int.tmod x18 100000000)) 10000) 100) * 2)), [], true, false⟩, ⟨[(48, .int .u32 (IntKind.u32.wrap ((Int.tmod (Int.tmod (IntKind.u32.wrap (Int.tmod x18 100000000)) 10000) 100) * 2)))], [], .int .u32 (IntKind.u32.wrap ((IntKind.u32.wrap ((Int.tmod (Int.tmod (IntKind.u32.wrap (Int.tmod x18 100000000)) 10000) 100) * 2)) + 1)), [], true, false⟩, ⟨[(49, .int .u32 (IntKind.u32.wrap ((IntKind.u32.wrap ((Int.tmod (Int.tmod (IntKind.u32.wrap (Int.tmod x18 100000000)) 10000) 100) * 2)) + 1)))], [], .int .u8 (x20.toNat : Int), [], true, false⟩, ⟨[(9, .int .u32 (IntKind.u32.wrap ((Int.tmod (Int.tmod (IntKind.u32.wrap (Int.tmod x18 100000000)) 10000) 100) * 2)))], [], .int .u32 (IntKind.u32.wrap ((Int.tmod (Int.tmod (IntKind.u32.wrap (Int.tmod x18 100000000)) 10000) 100) * 2)), [], true, false⟩, ⟨[(51, .int .u32 (IntKind.u32.wrap ((Int.tmod (Int.tmod (IntKind.u32.wrap (Int.tmod x18 100000000)) 10000) 100) * 2)))], [], .int .u8 (x21.toNat : Int), [], true, false⟩, ⟨[(42, .rw 1 0 a2 1 none), (44, .int .i64 (IntKind.i64.wrap (x17 - 1)))], [], .ptr 1 ((IntKind.i64.wrap (x17 - 1)).toNat * 1), [], true, false⟩, ⟨[(50, .int .u8 (x20.toNat : Int)), (53, .ptr 1 ((IntKind.i64.wrap (x17 - 1)).toNat * 1))], [(1, some (fl eU8 x19))], .dead, [(1, some (fl eU8 (x19.set (IntKind.i64.wrap (x17 - 1)).toNat x20)))], true, false⟩, ⟨[(45, .rw 1 0 a2 1 none), (47, .int .i64 (IntKind.i64.wrap (x17 - 2)))], [], .ptr 1 ((IntKind.i64.wrap (x17 - 2)).toNat * 1), [], true, false⟩, ⟨[(52, .int .u8 (x21.toNat : Int)), (54, .ptr 1 ((IntKind.i64.wrap (x17 - 2)).toNat * 1))], [(1, some (fl eU8 (x19.set (IntKind.i64.wrap (x17 - 1)).toNat x20)))], .dead, [(1, some (fl eU8 ((x19.set (IntKind.i64.wrap (x17 - 1)).toNat x20).set (IntKind.i64.wrap (x17 - 2)).toNat x21)))], true, false⟩] [11, 10, 8, 1, 4, 0] [(11, .int .u32 (IntKind.u32.wrap ((Int.tmod (IntKind.u32.wrap (Int.tdiv (IntKind.u32.wrap (Int.tmod x18 100000000)) 10000)) 100) * 2))), (10, .int .u32 (IntKind.u32.wrap ((IntKind.u32.wrap (Int.tdiv (IntKind.u32.wrap (Int.tdiv (IntKind.u32.wrap (Int.tmod x18 100000000)) 10000)) 100)) * 2))), (8, .int .u32 (IntKind.u32.wrap ((IntKind.u32.wrap (Int.tdiv (Int.tmod (IntKind.u32.wrap (Int.tmod x18 100000000)) 10000) 100)) * 2))), (1, .int .u64 (IntKind.u64.wrap (Int.tdiv x18 100000000))), (4, .int .i64 x17), (0, .rw 1 0 a2 1 none)] [(1, some (fl eU8 ((x19.set (IntKind.i64.wrap (x17 - 1)).toNat x20).set (IntKind.i64.wrap (x17 - 2)).toNat x21)))] (.x 2 rfl (by kernel_rfl) (.x 2 rfl (by kernel_rfl) (.x 2 rfl (by kernel_rfl) (.x 2 rfl (by kernel_rfl) (.x 2 rfl (by kernel_rfl) (.x 2 rfl (by kernel_rfl) (.x 2 rfl (by kernel_rfl) (.x 2 rfl (by kernel_rfl) (.o (AOp_idxStr (s := lit_1) (by exact rfl) (by exact rfl) (by exact rfl) h27) (.x 2 rfl (by kernel_rfl) (.o (AOp_idxStr (s := lit_1) (by exact rfl) (by exact rfl) (by exact rfl) h28) (.o (AOp_idxRwN (l := x19) 1 (by exact rfl) h30 (by exact rfl) (by exact rfl) (by exact rfl) (by exact rfl) h29) (.o (AOp_storeEl (e := eU8) (l := x19) (i := (IntKind.i64.wrap (x17 - 1))) (y := x22) (y' := x20) 0 1 (by exact rfl) (by exact rfl) (by exact rfl) (by exact rfl) (by exact rfl) (by exact rfl) (by exact rfl) (by exact rfl) (by exact rfl) (by kernel_rfl) h29 (by kernel_rfl)) (.o (AOp_idxRwN (l := (x19.set (IntKind.i64.wrap (x17 - 1)).toNat x20)) 1 (by exact rfl) h32 (by exact rfl) (by exact rfl) (by exact rfl) (by exact rfl) h31) (.o (AOp_storeEl (e := eU8) (l := (x19.set (IntKind.i64.wrap (x17 - 1)).toNat x20)) (i := (IntKind.i64.wrap (x17 - 2))) (y := x23) (y' := x21) 0 1 (by exact rfl) (by exact rfl) (by exact rfl) (by exact rfl) (by exact rfl) (by exact rfl) (by exact rfl) (by exact rfl) (by exact rfl) (by kernel_rfl) h31 (by kernel_rfl)) .nil))))))))))))))) (by kernel_rfl) (by kernel_rfl) (by kernel_rfl) (by kernel_rfl) (by kernel_rfl) (by kernel_rfl) ?_
      refine athen_n ?_
      refine AW_seq ?_
      obtain ⟨x24, h33, h88⟩ := bind_some h87
      obtain ⟨x25, h34, h89⟩ := bind_some h88
      obtain ⟨x26, h35, h90⟩ := bind_some h89
      obtain ⟨h36, h91⟩ := req_some h90
      obtain ⟨x27, h37, h92⟩ := bind_some h91
      obtain ⟨h38, h93⟩ := req_some h92
      refine AW_drawK En_mixed [⟨[(0, .rw 1 0 a2 1 none)], [], .rw 1 0 a2 1 none, [], true, false⟩, ⟨[(4, .int .i64 x17)], [], .int .i64 x17, [], true, false⟩, ⟨[(56, .int .i64 x17)], [], .int .i64 (IntKind.i64.wrap (x17 - 3)), [], true, false⟩, ⟨[(0, .rw 1 0 a2 1 none)], [], .rw 1 0 a2 1 none, [], true, false⟩, ⟨[(4, .int .i64 x17)], [], .int .i64 x17, [], true, false⟩, ⟨[(59, .int .i64 x17)], [], .int .i64 (IntKind.i64.wrap (x17 - 4)), [], true, false⟩, ⟨[(8, .int .u32 (IntKind.u32.wrap ((IntKind.u32.wrap (Int.tdiv (Int.tmod (IntKind.u32.wrap (Int.tmod x18 100000000)) 10000) 100)) * 2)))], [], .int .u32 (IntKind.u32.wrap ((IntKind.u32.wrap (Int.tdiv (Int.tmod (IntKind.u32.wrap (Int.tmod x18 100000000)) 10000) 100)) * 2)), [], true, false⟩, ⟨[(61, .int .u32 (IntKind.u32.wrap ((IntKind.u32.wrap (Int.tdiv (Int.tmod (IntKind.u32.wrap (Int.tmod x18 100000000)) 10000) 100)) * 2)))], [], .int .u32 (IntKind.u32.wrap ((IntKind.u32.wrap ((IntKind.u32.wrap (Int.tdiv (Int.tmod (IntKind.u32.wrap (Int.tmod x18 100000000)) 10000) 100)) * 2)) + 1)), [], true, false⟩, ⟨[(62, .int .u32 (IntKind.u32.wrap ((IntKind.u32.wrap ((IntKind.u32.wrap (Int.tdiv (Int.tmod (IntKind.u32.wrap (Int.tmod x18 100000000)) 10000) 100)) * 2)) + 1)))], [], .int .u8 (x24.toNat : Int), [], true, false⟩, ⟨[(8, .int .u32 (IntKind.u32.wrap ((IntKind.u32.wrap (Int.tdiv (Int.tmod (IntKind.u32.wrap (Int.tmod x18 100000000)) 10000) 100)) * 2)))], [], .int .u32 (IntKind.u32.wrap ((IntKind.u32.wrap (Int.tdiv (Int.tmod (IntKind.u32.wrap (Int.tmod x18 100000000)) 10000) 100)) * 2)), [], true, false⟩, ⟨[(64, .int .u32 (IntKind.u32.wrap ((IntKind.u32.wrap (Int.tdiv (Int.tmod (IntKind.u32.wrap (Int.tmod x18 100000000)) 10000) 100)) * 2)))], [], .int .u8 (x25.toNat : Int), [], true, false⟩, ⟨[(55, .rw 1 0 a2 1 none), (57, .int .i64 (IntKind.i64.wrap (x17 - 3)))], [], .ptr 1 ((IntKind.i64.wrap (x17 - 3)).toNat * 1), [], true, false⟩, ⟨[(63, .int .u8 (x24.toNat : Int)), (66, .ptr 1 ((IntKind.i64.wrap (x17 - 3)).toNat * 1))], [(1, some (fl eU8 ((x19.set (IntKind.i64.wrap (x17 - 1)).toNat x20).set (IntKind.i64.wrap (x17 - 2)).toNat x21)))], .dead, [(1, some (fl eU8 (((x19.set (IntKind.i64.wrap (x17 - 1)).toNat x20).set (IntKind.i64.wrap (x17 - 2)).toNat x21).set (IntKind.i64.wrap (x17 - 3)).toNat x24)))], true, false⟩, ⟨[(58, .rw 1 0 a2 1 none), (60, .int .i64 (IntKind.i64.wrap (x17 - 4)))], [], .ptr 1 ((IntKind.i64.wrap (x17 - 4)).toNat * 1), [], true, false⟩, ⟨[(65, .int .u8 (x25.toNat : Int)), (67, .ptr 1 ((IntKind.i64.wrap (x17 - 4)).toNat * 1))], [(1, some (fl eU8 (((x19.set (IntKind.i64.wrap (x17 - 1)).toNat x20).set (IntKind.i64.wrap (x17 - 2)).toNat x21).set (IntKind.i64.wrap (x17 - 3)).toNat x24)))], .dead, [(1, some (fl eU8 ((((x19.set (IntKind.i64.wrap (x17 - 1)).toNat x20).set (IntKind.i64.wrap (x17 - 2)).toNat x21).set (IntKind.i64.wrap (x17 - 3)).toNat x24).set (IntKind.i64.wrap (x17 - 4)).toNat x25)))], true, false⟩] [11, 10, 1, 4, 0] [(11, .int .u32 (IntKind.u32.wrap ((Int.tmod (IntKind.u32.wrap (Int.tdiv (IntKind.u32.wrap (Int.tmod x18 100000000)) 10000)) 100) * 2))), (10, .int .u32 (IntKind.u32.wrap ((IntKind.u32.wrap (Int.tdiv (IntKind.u32.wrap (Int.tdiv (IntKind.u32.wrap (Int.tmod x18 100000000)) 10000)) 100)) * 2))), (1, .int .u64 (IntKind.u64.wrap (Int.tdiv x18 100000000))), (4, .int .i64 x17), (0, .rw 1 0 a2 1 none)] [(1, some (fl eU8 ((((x19.set (IntKind.i64.wrap (x17 - 1)).toNat x20).set (IntKind.i64.wrap (x17 - 2)).toNat x21).set (IntKind.i64.wrap (x17 - 3)).toNat x24).set (IntKind.i64.wrap (x17 - 4)).toNat x25)))] (.x 2 rfl (by kernel_rfl) (.x 2 rfl (by kernel_rfl) (.x 2 rfl (by kernel_rfl) (.x 2 rfl (by kernel_rfl) (.x 2 rfl (by kernel_rfl) (.x 2 rfl (by kernel_rfl) (.x 2 rfl (by kernel_rfl) (.x 2 rfl (by kernel_rfl) (.o (AOp_idxStr (s := lit_1) (by exact rfl) (by exact rfl) (by exact rfl) h33) (.x 2 rfl (by kernel_rfl) (.o (AOp_idxStr (s := lit_1) (by exact rfl) (by exact rfl) (by exact rfl) h34) (.o (AOp_idxRwN (l := ((x19.set (IntKind.i64.wrap (x17 - 1)).toNat x20).set (IntKind.i64.wrap (x17 - 2)).toNat x21)) 1 (by exact rfl) h36 (by exact rfl) (by exact rfl) (by exact rfl) (by exact rfl) h35) (.o (AOp_storeEl (e := eU8) (l := ((x19.set (IntKind.i64.wrap (x17 - 1)).toNat x20).set (IntKind.i64.wrap (x17 - 2)).toNat x21)) (i := (IntKind.i64.wrap (x17 - 3))) (y := x26) (y' := x24) 0 1 (by exact rfl) (by exact rfl) (by exact rfl) (by exact rfl) (by exact rfl) (by exact rfl) (by exact rfl) (by exact rfl) (by exact rfl) (by kernel_rfl) h35 (by kernel_rfl)) (.o (AOp_idxRwN (l := (((x19.set (IntKind.i64.wrap (x17 - 1)).toNat x20).set (IntKind.i64.wrap (x17 - 2)).toNat x21).set (IntKind.i64.wrap (x17 - 3)).toNat x24)) 1 (by exact rfl) h38 (by exact rfl) (by exact rfl) (by exact rfl) (by exact rfl) h37) (.o (AOp_storeEl (e := eU8) (l := (((x19.set (IntKind.i64.wrap (x17 - 1)).toNat x20).set (IntKind.i64.wrap (x17 - 2)).toNat x21).set (IntKind.i64.wrap (x17 - 3)).toNat x24)) (i := (IntKind.i64.wrap (x17 - 4))) (y := x27) (y' := x25) 0 1 (by exact rfl) (by exact rfl) (by exact rfl) (by exact rfl) (by exact rfl) (by exact rfl) (by exact rfl) (by exact rfl) (by exact rfl) (by kernel_rfl) h37 (by kernel_rfl)) .nil))))))))))))))) (by kernel_rfl) (by kernel_rfl) (by kernel_rfl) (by kernel_rfl) (by kernel_rfl) (by kernel_rfl) ?_
      refine athen_n ?_
      refine AW_seq ?_
      obtain ⟨x28, h39, h94⟩ := bind_some h93
      obtain ⟨x29, h40, h95⟩ := bind_some h94
      obtain ⟨x30, h41, h96⟩ := bind_some h95
      obtain ⟨h42, h97⟩ := req_some h96
      obtain ⟨x31, h43, h98⟩ := bind_some h97
      obtain ⟨h44, h99⟩ := req_some h98
      refine AW_drawK En_mixed [⟨[(0, .rw 1 0 a2 1 none)], [], .rw 1 0 a2 1 none, [], true, false⟩, ⟨[(4, .int .i64 x17)], [], .int .i64 x17, [], true, false⟩, ⟨[(69, .int .i64 x17)], [], .int .i64 (IntKind.i64.wrap (x17 - 5)), [], true, false⟩, ⟨[(0, .rw 1 0 a2 1 none)], [], .rw 1 0 a2 1 none, [], true, false⟩, ⟨[(4, .int .i64 x17)], [], .int .i64 x17, [], true, false⟩, ⟨[(72, .int .i64 x17)], [], .int .i64 (IntKind.i64.wrap (x17 - 6)), [], true, false⟩, ⟨[(11, .int .u32 (IntKind.u32.wrap ((Int.tmod (IntKind.u32.wrap (Int.tdiv (IntKind.u32.wrap (Int.tmod x18 100000000)) 10000)) 100) * 2)))], [], .int .u32 (IntKind.u32.wrap ((Int.tmod (IntKind.u32.wrap (Int.tdiv (IntKind.u32.wrap (Int.tmod x18 100000000)) 10000)) 100) * 2)), [], true, false⟩, ⟨[(74, .int .u32 (IntKind.u32.wrap ((Int.tmod (IntKind.u32.wrap (Int.tdiv (IntKind.u32.wrap (Int.tmod x18 100000000)) 10000)) 100) * 2)))], [], .int .u32 (IntKind.u32.wrap ((IntKind.u32.wrap ((Int.tmod (IntKind.u32.wrap (Int.tdiv (IntKind.u32.wrap (Int.tmod x18 100000000)) 10000)) 100) * 2)) + 1)), [], true, false⟩, ⟨[(75, .int .u32 (IntKind.u32.wrap ((IntKind.u32.wrap ((Int.tmod (IntKind.u32.wrap (Int.tdiv (IntKind.u32.wrap (Int.tmod x18 100000000)) 10000)) 100) * 2)) + 1)))], [], .int .u8 (x28.toNat : Int), [], true, false⟩, ⟨[(11, .int .u32 (IntKind.u32.wrap ((Int.tmod (IntKind.u32.wrap (Int.tdiv (IntKind.u32.wrap (Int.tmod x18 100000000)) 10000)) 100) * 2)))], [], .int .u32 (IntKind.u32.wrap ((Int.tmod (IntKind.u32.wrap (Int.tdiv (IntKind.u32.wrap (Int.tmod x18 100000000)) 10000)) 100) * 2)), [], true, false⟩, ⟨[(77, .int .u32 (IntKind.u32.wrap ((Int.tmod (IntKind.u32.wrap (Int.tdiv (IntKind.u32.wrap (Int.tmod x18 100000000)) 10000)) 100) * 2)))], [], .int .u8 (x29.toNat : Int), [], true, false⟩, ⟨[(68, .rw 1 0 a2 1 none), (70, .int .i64 (IntKind.i64.wrap (x17 - 5)))], [], .ptr 1 ((IntKind.i64.wrap (x17 - 5)).toNat * 1), [], true, false⟩, ⟨[(76, .int .u8 (x28.toNat : Int)), (79, .ptr 1 ((IntKind.i64.wrap (x17 - 5)).toNat * 1))], [(1, some (fl eU8 ((((x19.set (IntKind.i64.wrap (x17 - 1)).toNat x20).set (IntKind.i64.wrap (x17 - 2)).toNat x21).set (IntKind.i64.wrap (x17 - 3)).toNat x24).set (IntKind.i64.wrap (x17 - 4)).toNat x25)))], .dead, [(1, some (fl eU8 (((((x19.set (IntKind.i64.wrap (x17 - 1)).toNat x20).set (IntKind.i64.wrap (x17 - 2)).toNat x21).set (IntKind.i64.wrap (x17 - 3)).toNat x24).set (IntKind.i64.wrap (x17 - 4)).toNat x25).set (IntKind.i64.wrap (x17 - 5)).toNat x28)))], true, false⟩, ⟨[(71, .rw 1 0 a2 1 none), (73, .int .i64 (IntKind.i64.wrap (x17 - 6)))], [], .ptr 1 ((IntKind.i64.wrap (x17 - 6)).toNat * 1), [], true, false⟩, ⟨[(78, .int .u8 (x29.toNat : Int)), (80, .ptr 1 ((IntKind.i64.wrap (x17 - 6)).toNat * 1))], [(1, some (fl eU8 (((((x19.set (IntKind.i64.wrap (x17 - 1)).toNat x20).set (IntKind.i64.wrap (x17 - 2)).toNat x21).set (IntKind.i64.wrap (x17 - 3)).toNat x24).set (IntKind.i64.wrap (x17 - 4)).toNat x25).set (IntKind.i64.wrap (x17 - 5)).toNat x28)))], .dead, [(1, some (fl eU8 ((((((x19.set (IntKind.i64.wrap (x17 - 1)).toNat x20).set (IntKind.i64.wrap (x17 - 2)).toNat x21).set (IntKind.i64.wrap (x17 - 3)).toNat x24).set (IntKind.i64.wrap (x17 - 4)).toNat x25).set (IntKind.i64.wrap (x17 - 5)).toNat x28).set (IntKind.i64.wrap (x17 - 6)).toNat x29)))], true, false⟩] [10, 1, 4, 0] [(10, .int .u32 (IntKind.u32.wrap ((IntKind.u32.wrap (Int.tdiv (IntKind.u32.wrap (Int.tdiv (IntKind.u32.wrap (Int.tmod x18 100000000)) 10000)) 100)) * 2))), (1, .int .u64 (IntKind.u64.wrap (Int.tdiv x18 100000000))), (4, .int .i64 x17), (0, .rw 1 0 a2 1 none)] [(1, some (fl eU8 ((((((x19.set (IntKind.i64.wrap (x17 - 1)).toNat x20).set (IntKind.i64.wrap (x17 - 2)).toNat x21).set (IntKind.i64.wrap (x17 - 3)).toNat x24).set (IntKind.i64.wrap (x17 - 4)).toNat x25).set (IntKind.i64.wrap (x17 - 5)).toNat x28).set (IntKind.i64.wrap (x17 - 6)).toNat x29)))] (.x 2 rfl (by kernel_rfl) (.x 2 rfl (by kernel_rfl) (.x 2 rfl (by kernel_rfl) (.x 2 rfl (by kernel_rfl) (.x 2 rfl (by kernel_rfl) (.x 2 rfl (by kernel_rfl) (.x 2 rfl (by kernel_rfl) (.x 2 rfl (by kernel_rfl) (.o (AOp_idxStr (s := lit_1) (by exact rfl) (by exact rfl) (by exact rfl) h39) (.x 2 rfl (by kernel_rfl) (.o (AOp_idxStr (s := lit_1) (by exact rfl) (by exact rfl) (by exact rfl) h40) (.o (AOp_idxRwN (l := ((((x19.set (IntKind.i64.wrap (x17 - 1)).toNat x20).set (IntKind.i64.wrap (x17 - 2)).toNat x21).set (IntKind.i64.wrap (x17 - 3)).toNat x24).set (IntKind.i64.wrap (x17 - 4)).toNat x25)) 1 (by exact rfl) h42 (by exact rfl) (by exact rfl) (by exact rfl) (by exact rfl) h41) (.o (AOp_storeEl (e := eU8) (l := ((((x19.set (IntKind.i64.wrap (x17 - 1)).toNat x20).set (IntKind.i64.wrap (x17 - 2)).toNat x21).set (IntKind.i64.wrap (x17 - 3)).toNat x24).set (IntKind.i64.wrap (x17 - 4)).toNat x25)) (i := (IntKind.i64.wrap (x17 - 5))) (y := x30) (y' := x28) 0 1 (by exact rfl) (by exact rfl) (by exact rfl) (by exact rfl) (by exact rfl) (by exact rfl) (by exact rfl) (by exact rfl) (by exact rfl) (by kernel_rfl) h41 (by kernel_rfl)) (.o (AOp_idxRwN (l := (((((x19.set (IntKind.i64.wrap (x17 - 1)).toNat x20).set (IntKind.i64.wrap (x17 - 2)).toNat x21).set (IntKind.i64.wrap (x17 - 3)).toNat x24).set (IntKind.i64.wrap (x17 - 4)).toNat x25).set (IntKind.i64.wrap (x17 - 5)).toNat x28)) 1 (by exact rfl) h44 (by exact rfl) (by exact rfl) (by exact rfl) (by exact rfl) h43) (.o (AOp_storeEl (e := eU8) (l := (((((x19.set (IntKind.i64.wrap (x17 - 1)).toNat x20).set (IntKind.i64.wrap (x17 - 2)).toNat x21).set (IntKind.i64.wrap (x17 - 3)).toNat x24).set (IntKind.i64.wrap (x17 - 4)).toNat x25).set (IntKind.i64.wrap (x17 - 5)).toNat x28)) (i := (IntKind.i64.wrap (x17 - 6))) (y := x31) (y' := x29) 0 1 (by exact rfl) (by exact rfl) (by exact rfl) (by exact rfl) (by exact rfl) (by exact rfl) (by exact rfl) (by exact rfl) (by exact rfl) (by kernel_rfl) h43 (by kernel_rfl)) .nil))))))))))))))) (by kernel_rfl) (by kernel_rfl) (by kernel_rfl) (by kernel_rfl) (by kernel_rfl) (by kernel_rfl) ?_
      refine athen_n ?_
      refine AW_seq ?_
      obtain ⟨x32, h45, h100⟩ := bind_some h99
      obtain ⟨x33, h46, h101⟩ := bind_some h100
      obtain ⟨x34, h47, h102⟩ := bind_some h101
      obtain ⟨h48, h103⟩ := req_some h102
      obtain ⟨x35, h49, h104⟩ := bind_some h103
      obtain ⟨h50, h105⟩ := req_some h104
      refine AW_drawK En_mixed [⟨[(0, .rw 1 0 a2 1 none)], [], .rw 1 0 a2 1 none, [], true, false⟩, ⟨[(4, .int .i64 x17)], [], .int .i64 x17, [], true, false⟩, ⟨[(82, .int .i64 x17)], [], .int .i64 (IntKind.i64.wrap (x17 - 7)), [], true, false⟩, ⟨[(0, .rw 1 0 a2 1 none)], [], .rw 1 0 a2 1 none, [], true, false⟩, ⟨[(4, .int .i64 x17)], [], .int .i64 x17, [], true, false⟩, ⟨[(85, .int .i64 x17)], [], .int .i64 (IntKind.i64.wrap (x17 - 8)), [], true, false⟩, ⟨[(10, .int .u32 (IntKind.u32.wrap ((IntKind.u32.wrap (Int.tdiv (IntKind.u32.wrap (Int.tdiv (IntKind.u32.wrap (Int.tmod x18 100000000)) 10000)) 100)) * 2)))], [], .int .u32 (IntKind.u32.wrap ((IntKind.u32.wrap (Int.tdiv (IntKind.u32.wrap (Int.tdiv (IntKind.u32.wrap (Int.tmod x18 100000000)) 10000)) 100)) * 2)), [], true, false⟩, ⟨[(87, .int .u32 (IntKind.u32.wrap ((IntKind.u32.wrap (Int.tdiv (IntKind.u32.wrap (Int.tdiv (IntKind.u32.wrap (Int.tmod x18 100000000)) 10000)) 100)) * 2)))], [], .int .u32 (IntKind.u32.wrap ((IntKind.u32.wrap ((IntKind.u32.wrap (Int.tdiv (IntKind.u32.wrap (Int.tdiv (IntKind.u32.wrap (Int.tmod x18 100000000)) 10000)) 100)) * 2)) + 1)), [], true, false⟩, ⟨[(88, .int .u32 (IntKind.u32.wrap ((IntKind.u32.wrap ((IntKind.u32.wrap (Int.tdiv (IntKind.u32.wrap (Int.tdiv (IntKind.u32.wrap (Int.tmod x18 100000000)) 10000)) 100)) * 2)) + 1)))], [], .int .u8 (x32.toNat : Int), [], true, false⟩, ⟨[(10, .int .u32 (IntKind.u32.wrap ((IntKind.u32.wrap (Int.tdiv (IntKind.u32.wrap (Int.tdiv (IntKind.u32.wrap (Int.tmod x18 100000000)) 10000)) 100)) * 2)))], [], .int .u32 (IntKind.u32.wrap ((IntKind.u32.wrap (Int.tdiv (IntKind.u32.wrap (Int.tdiv (IntKind.u32.wrap (Int.tmod x18 100000000)) 10000)) 100)) * 2)), [], true, false⟩, ⟨[(90, .int .u32 (IntKind.u32.wrap ((IntKind.u32.wrap (Int.tdiv (IntKind.u32.wrap (Int.tdiv (IntKind.u32.wrap (Int.tmod x18 100000000)) 10000)) 100)) * 2)))], [], .int .u8 (x33.toNat : Int), [], true, false⟩, ⟨[(81, .rw 1 0 a2 1 none), (83, .int .i64 (IntKind.i64.wrap (x17 - 7)))], [], .ptr 1 ((IntKind.i64.wrap (x17 - 7)).toNat * 1), [], true, false⟩, ⟨[(89, .int .u8 (x32.toNat : Int)), (92, .ptr 1 ((IntKind.i64.wrap (x17 - 7)).toNat * 1))], [(1, some (fl eU8 ((((((x19.set (IntKind.i64.wrap (x17 - 1)).toNat x20).set (IntKind.i64.wrap (x17 - 2)).toNat x21).set (IntKind.i64.wrap (x17 - 3)).toNat x24).set (IntKind.i64.wrap (x17 - 4)).toNat x25).set (IntKind.i64.wrap (x17 - 5)).toNat x28).set (IntKind.i64.wrap (x17 - 6)).toNat x29)))], .dead, [(1, some (fl eU8 (((((((x19.set (IntKind.i64.wrap (x17 - 1)).toNat x20).set (IntKind.i64.wrap (x17 - 2)).toNat x21).set (IntKind.i64.wrap (x17 - 3)).toNat x24).set (IntKind.i64.wrap (x17 - 4)).toNat x25).set (IntKind.i64.wrap (x17 - 5)).toNat x28).set (IntKind.i64.wrap (x17 - 6)).toNat x29).set (IntKind.i64.wrap (x17 - 7)).toNat x32)))], true, false⟩, ⟨[(84, .rw 1 0 a2 1 none), (86, .int .i64 (IntKind.i64.wrap (x17 - 8)))], [], .ptr 1 ((IntKind.i64.wrap (x17 - 8)).toNat * 1), [], true, false⟩, ⟨[(91, .int .u8 (x33.toNat : Int)), (93, .ptr 1 ((IntKind.i64.wrap (x17 - 8)).toNat * 1))], [(1, some (fl eU8 (((((((x19.set (IntKind.i64.wrap (x17 - 1)).toNat x20).set (IntKind.i64.wrap (x17 - 2)).toNat x21).set (IntKind.i64.wrap (x17 - 3)).toNat x24).set (IntKind.i64.wrap (x17 - 4)).toNat x25).set (IntKind.i64.wrap (x17 - 5)).toNat x28).set (IntKind.i64.wrap (x17 - 6)).toNat x29).set (IntKind.i64.wrap (x17 - 7)).toNat x32)))], .dead, [(1, some (fl eU8 ((((((((x19.set (IntKind.i64.wrap (x17 - 1)).toNat x20).set (IntKind.i64.wrap (x17 - 2)).toNat x21).set (IntKind.i64.wrap (x17 - 3)).toNat x24).set (IntKind.i64.wrap (x17 - 4)).toNat x25).set (IntKind.i64.wrap (x17 - 5)).toNat x28).set (IntKind.i64.wrap (x17 - 6)).toNat x29).set (IntKind.i64.wrap (x17 - 7)).toNat x32).set (IntKind.i64.wrap (x17 - 8)).toNat x33)))], true, false⟩] [1, 4, 0] [(1, .int .u64 (IntKind.u64.wrap (Int.tdiv x18 100000000))), (4, .int .i64 x17), (0, .rw 1 0 a2 1 none)] [(1, some (fl eU8 ((((((((x19.set (IntKind.i64.wrap (x17 - 1)).toNat x20).set (IntKind.i64.wrap (x17 - 2)).toNat x21).set (IntKind.i64.wrap (x17 - 3)).toNat x24).set (IntKind.i64.wrap (x17 - 4)).toNat x25).set (IntKind.i64.wrap (x17 - 5)).toNat x28).set (IntKind.i64.wrap (x17 - 6)).toNat x29).set (IntKind.i64.wrap (x17 - 7)).toNat x32).set (IntKind.i64.wrap (x17 - 8)).toNat x33)))] (.x 2 rfl (by kernel_rfl) (.x 2 rfl (by kernel_rfl) (.x 2 rfl (by kernel_rfl) (.x 2 rfl (by kernel_rfl) (.x 2 rfl (by kernel_rfl) (.x 2 rfl (by kernel_rfl) (.x 2 rfl (by kernel_rfl) (.x 2 rfl (by kernel_rfl) (.o (AOp_idxStr (s := lit_1) (by exact rfl) (by exact rfl) (by exact rfl) h45) (.x 2 rfl (by kernel_rfl) (.o (AOp_idxStr (s := lit_1) (by exact rfl) (by exact rfl) (by exact rfl) h46) (.o (AOp_idxRwN (l := ((((((x19.set (IntKind.i64.wrap (x17 - 1)).toNat x20).set (IntKind.i64.wrap (x17 - 2)).toNat x21).set (IntKind.i64.wrap (x17 - 3)).toNat x24).set (IntKind.i64.wrap (x17 - 4)).toNat x25).set (IntKind.i64.wrap (x17 - 5)).toNat x28).set (IntKind.i64.wrap (x17 - 6)).toNat x29)) 1 (by exact rfl) h48 (by exact rfl) (by exact rfl) (by exact rfl) (by exact rfl) h47) (.o (AOp_storeEl (e := eU8) (l := ((((((x19.set (IntKind.i64.wrap (x17 - 1)).toNat x20).set (IntKind.i64.wrap (x17 - 2)).toNat x21).set (IntKind.i64.wrap (x17 - 3)).toNat x24).set (IntKind.i64.wrap (x17 - 4)).toNat x25).set (IntKind.i64.wrap (x17 - 5)).toNat x28).set (IntKind.i64.wrap (x17 - 6)).toNat x29)) (i := (IntKind.i64.wrap (x17 - 7))) (y := x34) (y' := x32) 0 1 (by exact rfl) (by exact rfl) (by exact rfl) (by exact rfl) (by exact rfl) (by exact rfl) (by exact rfl) (by exact rfl) (by exact rfl) (by kernel_rfl) h47 (by kernel_rfl)) (.o (AOp_idxRwN (l := (((((((x19.set (IntKind.i64.wrap (x17 - 1)).toNat x20).set (IntKind.i64.wrap (x17 - 2)).toNat x21).set (IntKind.i64.wrap (x17 - 3)).toNat x24).set (IntKind.i64.wrap (x17 - 4)).toNat x25).set (IntKind.i64.wrap (x17 - 5)).toNat x28).set (IntKind.i64.wrap (x17 - 6)).toNat x29).set (IntKind.i64.wrap (x17 - 7)).toNat x32)) 1 (by exact rfl) h50 (by exact rfl) (by exact rfl) (by exact rfl) (by exact rfl) h49) (.o (AOp_storeEl (e := eU8) (l := (((((((x19.set (IntKind.i64.wrap (x17 - 1)).toNat x20).set (IntKind.i64.wrap (x17 - 2)).toNat x21).set (IntKind.i64.wrap (x17 - 3)).toNat x24).set (IntKind.i64.wrap (x17 - 4)).toNat x25).set (IntKind.i64.wrap (x17 - 5)).toNat x28).set (IntKind.i64.wrap (x17 - 6)).toNat x29).set (IntKind.i64.wrap (x17 - 7)).toNat x32)) (i := (IntKind.i64.wrap (x17 - 8))) (y := x35) (y' := x33) 0 1 (by exact rfl) (by exact rfl) (by exact rfl) (by exact rfl) (by exact rfl) (by exact rfl) (by exact rfl) (by exact rfl) (by exact rfl) (by kernel_rfl) h49 (by kernel_rfl)) .nil))))))))))))))) (by kernel_rfl) (by kernel_rfl) (by kernel_rfl) (by kernel_rfl) (by kernel_rfl) (by kernel_rfl) ?_
      refine athen_n ?_
      refine AW_region ?_
      refine AWl_xrun 3 _ _ _ [(4, .int .i64 (IntKind.i64.wrap (x17 - 8))), (95, .int .i64 (IntKind.i64.wrap (x17 - 8))), (94, .int .i64 x17), (1, .int .u64 (IntKind.u64.wrap (Int.tdiv x18 100000000))), (4, .int .i64 x17), (0, .rw 1 0 a2 1 none)] [(1, some (fl eU8 ((((((((x19.set (IntKind.i64.wrap (x17 - 1)).toNat x20).set (IntKind.i64.wrap (x17 - 2)).toNat x21).set (IntKind.i64.wrap (x17 - 3)).toNat x24).set (IntKind.i64.wrap (x17 - 4)).toNat x25).set (IntKind.i64.wrap (x17 - 5)).toNat x28).set (IntKind.i64.wrap (x17 - 6)).toNat x29).set (IntKind.i64.wrap (x17 - 7)).toNat x32).set (IntKind.i64.wrap (x17 - 8)).toNat x33)))] (by kernel_rfl) ?_
      refine AWl_nilK [4, 1, 0] [(4, .int .i64 (IntKind.i64.wrap (x17 - 8))), (1, .int .u64 (IntKind.u64.wrap (Int.tdiv x18 100000000))), (0, .rw 1 0 a2 1 none)] (by kernel_rfl) ?_
      refine ablock_n ?_
      obtain rfl := Option.some.inj h105
      refine Round.on (Weak.ren [] [1] (.cons rfl (.pure rfl) (.cons rfl (.rw (l := 1) (l' := 1) rfl rfl) (.cons rfl (.pure rfl) .nil))) (.cons rfl (.pure (fl_pure _)) .nil) (by kernel_rfl) (keysK rfl) En_ok)
  · obtain ⟨x39, x40, x41⟩ := x42
    rintro e al L ⟨rfl, h106⟩ -
    refine ⟨_, _, h106, ?_⟩
    refine ablock_eq ?_
    refine athen_n ?_
    refine AW_seq ?_
    refine AW_region ?_
    refine AWl_xrun 3 _ _ _ [(12, .int .u32 (IntKind.u32.wrap x40)), (97, .int .u32 (IntKind.u32.wrap x40)), (96, .int .u64 x40), (4, .int .i64 x39), (0, .rw 1 0 a2 1 none), (1, .int .u64 x40)] [(1, some (fl eU8 x41))] (by kernel_rfl) ?_
    refine AWl_nilK [12, 4, 0] [(12, .int .u32 (IntKind.u32.wrap x40)), (4, .int .i64 x39), (0, .rw 1 0 a2 1 none)] (by kernel_rfl) ?_
    refine athen_n ?_
    obtain ⟨⟨x51, x52, x53⟩, h76, h107⟩ := bind_some h77
    refine AW_meetN (fun z => match z with | (x51, x52, x53) => [(12, .int .u32 x51), (4, .int .i64 x52), (0, .rw 1 0 a2 1 none)]) (fun z => match z with | (x51, x52, x53) => [(1, some (fl eU8 x53))]) (x51, x52, x53) ?_ ?_
    · skip
      refine AW_seq ?_
      refine AW_region ?_
      refine AWl_xrun 2 _ _ _ [(99, .bool (decide (x39 ≥ 4))), (98, .int .i64 x39), (12, .int .u32 (IntKind.u32.wrap x40)), (4, .int .i64 x39), (0, .rw 1 0 a2 1 none)] [(1, some (fl eU8 x41))] (by kernel_rfl) ?_
      refine AWl_nilK [99, 12, 4, 0] [(99, .bool (decide (x39 ≥ 4))), (12, .int .u32 (IntKind.u32.wrap x40)), (4, .int .i64 x39), (0, .rw 1 0 a2 1 none)] (by kernel_rfl) ?_
      refine athen_n ?_
      cases h52 : (decide (x39 ≥ 4))
      · have h108 := bif_f h52 h76
        refine AW_condF rfl ?_
        refine AW_skip ?_
        obtain ⟨rfl, h109⟩ := Prod.mk.inj (Option.some.inj h108)
        obtain ⟨rfl, rfl⟩ := Prod.mk.inj (h109)
        refine Tgt.mk (Weak.ren [] [1] (.cons rfl (.pure rfl) (.cons rfl (.pure rfl) (.cons rfl (.rw (l := 1) (l' := 1) rfl rfl) .nil))) (.cons rfl (.pure (fl_pure _)) .nil) (by kernel_rfl) (keysK rfl) En_ok)
      · have h110 := bif_t h52 h76
        refine AW_condT rfl ?_
        refine AW_seq ?_
        refine AW_region ?_
        refine AWl_xrun 3 _ _ _ [(13, .int .u32 (Int.tmod (IntKind.u32.wrap x40) 10000)), (101, .int .u32 (Int.tmod (IntKind.u32.wrap x40) 10000)), (100, .int .u32 (IntKind.u32.wrap x40)), (99, .bool true), (12, .int .u32 (IntKind.u32.wrap x40)), (4, .int .i64 x39), (0, .rw 1 0 a2 1 none)] [(1, some (fl eU8 x41))] (by kernel_rfl) ?_
        refine AWl_nilK [13, 12, 4, 0] [(13, .int .u32 (Int.tmod (IntKind.u32.wrap x40) 10000)), (12, .int .u32 (IntKind.u32.wrap x40)), (4, .int .i64 x39), (0, .rw 1 0 a2 1 none)] (by kernel_rfl) ?_
        refine athen_n ?_
        refine AW_seq ?_
        refine AW_region ?_
        refine AWl_xrun 3 _ _ _ [(12, .int .u32 (IntKind.u32.wrap (Int.tdiv (IntKind.u32.wrap x40) 10000))), (103, .int .u32 (IntKind.u32.wrap (Int.tdiv (IntKind.u32.wrap x40) 10000))), (102, .int .u32 (IntKind.u32.wrap x40)), (13, .int .u32 (Int.tmod (IntKind.u32.wrap x40) 10000)), (12, .int .u32 (IntKind.u32.wrap x40)), (4, .int .i64 x39), (0, .rw 1 0 a2 1 none)] [(1, some (fl eU8 x41))] (by kernel_rfl) ?_
        refine AWl_nilK [12, 13, 4, 0] [(12, .int .u32 (IntKind.u32.wrap (Int.tdiv (IntKind.u32.wrap x40) 10000))), (13, .int .u32 (Int.tmod (IntKind.u32.wrap x40) 10000)), (4, .int .i64 x39), (0, .rw 1 0 a2 1 none)] (by kernel_rfl) ?_
        refine athen_n ?_
        refine AW_seq ?_
        refine AW_region ?_
        refine AWl_xrun 8 _ _ _ [(15, .int .u32 (IntKind.u32.wrap ((Int.tmod (Int.tmod (IntKind.u32.wrap x40) 10000) 100) * 2))), (14, .int .u32 (IntKind.u32.wrap ((IntKind.u32.wrap (Int.tdiv (Int.tmod (IntKind.u32.wrap x40) 10000) 100)) * 2))), (109, .int .u32 (IntKind.u32.wrap ((Int.tmod (Int.tmod (IntKind.u32.wrap x40) 10000) 100) * 2))), (108, .int .u32 (Int.tmod (Int.tmod (IntKind.u32.wrap x40) 10000) 100)), (107, .int .u32 (Int.tmod (IntKind.u32.wrap x40) 10000)), (106, .int .u32 (IntKind.u32.wrap ((IntKind.u32.wrap (Int.tdiv (Int.tmod (IntKind.u32.wrap x40) 10000) 100)) * 2))), (105, .int .u32 (IntKind.u32.wrap (Int.tdiv (Int.tmod (IntKind.u32.wrap x40) 10000) 100))), (104, .int .u32 (Int.tmod (IntKind.u32.wrap x40) 10000)), (12, .int .u32 (IntKind.u32.wrap (Int.tdiv (IntKind.u32.wrap x40) 10000))), (13, .int .u32 (Int.tmod (IntKind.u32.wrap x40) 10000)), (4, .int .i64 x39), (0, .rw 1 0 a2 1 none)] [(1, some (fl eU8 x41))] (by kernel_rfl) ?_
        refine AWl_nilK [15, 14, 12, 4, 0] [(15, .int .u32 (IntKind.u32.wrap ((Int.tmod (Int.tmod (IntKind.u32.wrap x40) 10000) 100) * 2))), (14, .int .u32 (IntKind.u32.wrap ((IntKind.u32.wrap (Int.tdiv (Int.tmod (IntKind.u32.wrap x40) 10000) 100)) * 2))), (12, .int .u32 (IntKind.u32.wrap (Int.tdiv (IntKind.u32.wrap x40) 10000))), (4, .int .i64 x39), (0, .rw 1 0 a2 1 none)] (by kernel_rfl) ?_
        refine athen_n ?_
        refine AW_seq ?_
        obtain ⟨x43, h53, h111⟩ := bind_some h110
        obtain ⟨x44, h54, h112⟩ := bind_some h111
        obtain ⟨x45, h55, h113⟩ := bind_some h112
        obtain ⟨h56, h114⟩ := req_some h113
        obtain ⟨x46, h57, h115⟩ := bind_some h114
        obtain ⟨h58, h116⟩ := req_some h115
        refine AW_drawK En_mixed [⟨[(0, .rw 1 0 a2 1 none)], [], .rw 1 0 a2 1 none, [], true, false⟩, ⟨[(4, .int .i64 x39)], [], .int .i64 x39, [], true, false⟩, ⟨[(111, .int .i64 x39)], [], .int .i64 (IntKind.i64.wrap (x39 - 1)), [], true, false⟩, ⟨[(0, .rw 1 0 a2 1 none)], [], .rw 1 0 a2 1 none, [], true, false⟩, ⟨[(4, .int .i64 x39)], [], .int .i64 x39, [], true, false⟩, ⟨[(114, .int .i64 x39)], [], .int .i64 (IntKind.i64.wrap (x39 - 2)), [], true, false⟩, ⟨[(15, .int .u32 (IntKind.u32.wrap ((Int.tmod (Int.tmod (IntKind.u32.wrap x40) 10000) 100) * 2)))], [], .int .u32 (IntKind.u32.wrap ((Int.tmod (Int.tmod (IntKind.u32.wrap x40) 10000) 100) * 2)), [], true, false⟩, ⟨[(116, .int .u32 (IntKind.u32.wrap ((Int.tmod (Int.tmod (IntKind.u32.wrap x40) 10000) 100) * 2)))], [], .int .u32 (IntKind.u32.wrap ((IntKind.u32.wrap ((Int.tmod (Int.tmod (IntKind.u32.wrap x40) 10000) 100) * 2)) + 1)), [], true, false⟩, ⟨[(117, .int .u32 (IntKind.u32.wrap ((IntKind.u32.wrap ((Int.tmod (Int.tmod (IntKind.u32.wrap x40) 10000) 100) * 2)) + 1)))], [], .int .u8 (x43.toNat : Int), [], true, false⟩, ⟨[(15, .int .u32 (IntKind.u32.wrap ((Int.tmod (Int.tmod (IntKind.u32.wrap x40) 10000) 100) * 2)))], [], .int .u32 (IntKind.u32.wrap ((Int.tmod (Int.tmod (IntKind.u32.wrap x40) 10000) 100) * 2)), [], true, false⟩, ⟨[(119, .int .u32 (IntKind.u32.wrap ((Int.tmod (Int.tmod (IntKind.u32.wrap x40) 10000) 100) * 2)))], [], .int .u8 (x44.toNat : Int), [], true, false⟩, ⟨[(110, .rw 1 0 a2 1 none), (112, .int .i64 (IntKind.i64.wrap (x39 - 1)))], [], .ptr 1 ((IntKind.i64.wrap (x39 - 1)).toNat * 1), [], true, false⟩, ⟨[(118, .int .u8 (x43.toNat : Int)), (121, .ptr 1 ((IntKind.i64.wrap (x39 - 1)).toNat * 1))], [(1, some (fl eU8 x41))], .dead, [(1, some (fl eU8 (x41.set (IntKind.i64.wrap (x39 - 1)).toNat x43)))], true, false⟩, ⟨[(113, .rw 1 0 a2 1 none), (115, .int .i64 (IntKind.i64.wrap (x39 - 2)))], [], .ptr 1 ((IntKind.i64.wrap (x39 - 2)).toNat * 1), [], true, false⟩, ⟨[(120, .int .u8 (x44.toNat : Int)), (122, .ptr 1 ((IntKind.i64.wrap (x39 - 2)).toNat * 1))], [(1, some (fl eU8 (x41.set (IntKind.i64.wrap (x39 - 1)).toNat x43)))], .dead, [(1, some (fl eU8 ((x41.set (IntKind.i64.wrap (x39 - 1)).toNat x43).set (IntKind.i64.wrap (x39 - 2)).toNat x44)))], true, false⟩] [14, 12, 4, 0] [(14, .int .u32 (IntKind.u32.wrap ((IntKind.u32.wrap (Int.tdiv (Int.tmod (IntKind.u32.wrap x40) 10000) 100)) * 2))), (12, .int .u32 (IntKind.u32.wrap (Int.tdiv (IntKind.u32.wrap x40) 10000))), (4, .int .i64 x39), (0, .rw 1 0 a2 1 none)] [(1, some (fl eU8 ((x41.set (IntKind.i64.wrap (x39 - 1)).toNat x43).set (IntKind.i64.wrap (x39 - 2)).toNat x44)))] (.x 2 rfl (by kernel_rfl) (.x 2 rfl (by kernel_rfl) (.x 2 rfl (by kernel_rfl) (.x 2 rfl (by kernel_rfl) (.x 2 rfl (by kernel_rfl) (.x 2 rfl (by kernel_rfl) (.x 2 rfl (by kernel_rfl) (.x 2 rfl (by kernel_rfl) (.o (AOp_idxStr (s := lit_1) (by exact rfl) (by exact rfl) (by exact rfl) h53) (.x 2 rfl (by kernel_rfl) (.o (AOp_idxStr (s := lit_1) (by exact rfl) (by exact rfl) (by exact rfl) h54) (.o (AOp_idxRwN (l := x41) 1 (by exact rfl) h56 (by exact rfl) (by exact rfl) (by exact rfl) (by exact rfl) h55) (.o (AOp_storeEl (e := eU8) (l := x41) (i := (IntKind.i64.wrap (x39 - 1))) (y := x45) (y' := x43) 0 1 (by exact rfl) (by exact rfl) (by exact rfl) (by exact rfl) (by exact rfl) (by exact rfl) (by exact rfl) (by exact rfl) (by exact rfl) (by kernel_rfl) h55 (by kernel_rfl)) (.o (AOp_idxRwN (l := (x41.set (IntKind.i64.wrap (x39 - 1)).toNat x43)) 1 (by exact rfl) h58 (by exact rfl) (by exact rfl) (by exact rfl) (by exact rfl) h57) (.o (AOp_storeEl (e := eU8) (l := (x41.set (IntKind.i64.wrap (x39 - 1)).toNat x43)) (i := (IntKind.i64.wrap (x39 - 2))) (y := x46) (y' := x44) 0 1 (by exact rfl) (by exact rfl) (by exact rfl) (by exact rfl) (by exact rfl) (by exact rfl) (by exact rfl) (by exact rfl) (by exact rfl) (by kernel_rfl) h57 (by kernel_rfl)) .nil))))))))))))))) (by kernel_rfl) (by kernel_rfl) (by kernel_rfl) (by kernel_rfl) (by kernel_rfl) (by kernel_rfl) ?_
        refine athen_n ?_
        refine AW_seq ?_
        obtain ⟨x47, h59, h117⟩ := bind_some h116
        obtain ⟨x48, h60, h118⟩ := bind_some h117
        obtain ⟨x49, h61, h119⟩ := bind_some h118
        obtain ⟨h62, h120⟩ := req_some h119
        obtain ⟨x50, h63, h121⟩ := bind_some h120
        obtain ⟨h64, h122⟩ := req_some h121
        refine AW_drawK En_mixed [⟨[(0, .rw 1 0 a2 1 none)], [], .rw 1 0 a2 1 none, [], true, false⟩, ⟨[(4, .int .i64 x39)], [], .int .i64 x39, [], true, false⟩, ⟨[(124, .int .i64 x39)], [], .int .i64 (IntKind.i64.wrap (x39 - 3)), [], true, false⟩, ⟨[(0, .rw 1 0 a2 1 none)], [], .rw 1 0 a2 1 none, [], true, false⟩, ⟨[(4, .int .i64 x39)], [], .int .i64 x39, [], true, false⟩, ⟨[(127, .int .i64 x39)], [], .int .i64 (IntKind.i64.wrap (x39 - 4)), [], true, false⟩, ⟨[(14, .int .u32 (IntKind.u32.wrap ((IntKind.u32.wrap (Int.tdiv (Int.tmod (IntKind.u32.wrap x40) 10000) 100)) * 2)))], [], .int .u32 (IntKind.u32.wrap ((IntKind.u32.wrap (Int.tdiv (Int.tmod (IntKind.u32.wrap x40) 10000) 100)) * 2)), [], true, false⟩, ⟨[(129, .int .u32 (IntKind.u32.wrap ((IntKind.u32.wrap (Int.tdiv (Int.tmod (IntKind.u32.wrap x40) 10000) 100)) * 2)))], [], .int .u32 (IntKind.u32.wrap ((IntKind.u32.wrap ((IntKind.u32.wrap (Int.tdiv (Int.tmod (IntKind.u32.wrap x40) 10000) 100)) * 2)) + 1)), [], true, false⟩, ⟨[(130, .int .u32 (IntKind.u32.wrap ((IntKind.u32.wrap ((IntKind.u32.wrap (Int.tdiv (Int.tmod (IntKind.u32.wrap x40) 10000) 100)) * 2)) + 1)))], [], .int .u8 (x47.toNat : Int), [], true, false⟩, ⟨[(14, .int .u32 (IntKind.u32.wrap ((IntKind.u32.wrap (Int.tdiv (Int.tmod (IntKind.u32.wrap x40) 10000) 100)) * 2)))], [], .int .u32 (IntKind.u32.wrap ((IntKind.u32.wrap (Int.tdiv (Int.tmod (IntKind.u32.wrap x40) 10000) 100)) * 2)), [], true, false⟩, ⟨[(132, .int .u32 (IntKind.u32.wrap ((IntKind.u32.wrap (Int.tdiv (Int.tmod (IntKind.u32.wrap x40) 10000) 100)) * 2)))], [], .int .u8 (x48.toNat : Int), [], true, false⟩, ⟨[(123, .rw 1 0 a2 1 none), (125, .int .i64 (IntKind.i64.wrap (x39 - 3)))], [], .ptr 1 ((IntKind.i64.wrap (x39 - 3)).toNat * 1), [], true, false⟩, ⟨[(131, .int .u8 (x47.toNat : Int)), (134, .ptr 1 ((IntKind.i64.wrap (x39 - 3)).toNat * 1))], [(1, some (fl eU8 ((x41.set (IntKind.i64.wrap (x39 - 1)).toNat x43).set (IntKind.i64.wrap (x39 - 2)).toNat x44)))], .dead, [(1, some (fl eU8 (((x41.set (IntKind.i64.wrap (x39 - 1)).toNat x43).set (IntKind.i64.wrap (x39 - 2)).toNat x44).set (IntKind.i64.wrap (x39 - 3)).toNat x47)))], true, false⟩, ⟨[(126, .rw 1 0 a2 1 none), (128, .int .i64 (IntKind.i64.wrap (x39 - 4)))], [], .ptr 1 ((IntKind.i64.wrap (x39 - 4)).toNat * 1), [], true, false⟩, ⟨[(133, .int .u8 (x48.toNat : Int)), (135, .ptr 1 ((IntKind.i64.wrap (x39 - 4)).toNat * 1))], [(1, some (fl eU8 (((x41.set (IntKind.i64.wrap (x39 - 1)).toNat x43).set (IntKind.i64.wrap (x39 - 2)).toNat x44).set (IntKind.i64.wrap (x39 - 3)).toNat x47)))], .dead, [(1, some (fl eU8 ((((x41.set (IntKind.i64.wrap (x39 - 1)).toNat x43).set (IntKind.i64.wrap (x39 - 2)).toNat x44).set (IntKind.i64.wrap (x39 - 3)).toNat x47).set (IntKind.i64.wrap (x39 - 4)).toNat x48)))], true, false⟩] [12, 4, 0] [(12, .int .u32 (IntKind.u32.wrap (Int.tdiv (IntKind.u32.wrap x40) 10000))), (4, .int .i64 x39), (0, .rw 1 0 a2 1 none)] [(1, some (fl eU8 ((((x41.set (IntKind.i64.wrap (x39 - 1)).toNat x43).set (IntKind.i64.wrap (x39 - 2)).toNat x44).set (IntKind.i64.wrap (x39 - 3)).toNat x47).set (IntKind.i64.wrap (x39 - 4)).toNat x48)))] (.x 2 rfl (by kernel_rfl) (.x 2 rfl (by kernel_rfl) (.x 2 rfl (by kernel_rfl) (.x 2 rfl (by kernel_rfl) (.x 2 rfl (by kernel_rfl) (.x 2 rfl (by kernel_rfl) (.x 2 rfl (by kernel_rfl) (.x 2 rfl (by kernel_rfl) (.o (AOp_idxStr (s := lit_1) (by exact rfl) (by exact rfl) (by exact rfl) h59) (.x 2 rfl (by kernel_rfl) (.o (AOp_idxStr (s := lit_1) (by exact rfl) (by exact rfl) (by exact rfl) h60) (.o (AOp_idxRwN (l := ((x41.set (IntKind.i64.wrap (x39 - 1)).toNat x43).set (IntKind.i64.wrap (x39 - 2)).toNat x44)) 1 (by exact rfl) h62 (by exact rfl) (by exact rfl) (by exact rfl) (by exact rfl) h61) (.o (AOp_storeEl (e := eU8) (l := ((x41.set (IntKind.i64.wrap (x39 - 1)).toNat x43).set (IntKind.i64.wrap (x39 - 2)).toNat x44)) (i := (IntKind.i64.wrap (x39 - 3))) (y := x49) (y' := x47) 0 1 (by exact rfl) (by exact rfl) (by exact rfl) (by exact rfl) (by exact rfl) (by exact rfl) (by exact rfl) (by exact rfl) (by exact rfl) (by kernel_rfl) h61 (by kernel_rfl)) (.o (AOp_idxRwN (l := (((x41.set (IntKind.i64.wrap (x39 - 1)).toNat x43).set (IntKind.i64.wrap (x39 - 2)).toNat x44).set (IntKind.i64.wrap (x39 - 3)).toNat x47)) 1 (by exact rfl) h64 (by exact rfl) (by exact rfl) (by exact rfl) (by exact rfl) h63) (.o (AOp_storeEl (e := eU8) (l := (((x41.set (IntKind.i64.wrap (x39 - 1)).toNat x43).set (IntKind.i64.wrap (x39 - 2)).toNat x44).set (IntKind.i64.wrap (x39 - 3)).toNat x47)) (i := (IntKind.i64.wrap (x39 - 4))) (y := x50) (y' := x48) 0 1 (by exact rfl) (by exact rfl) (by exact rfl) (by exact rfl) (by exact rfl) (by exact rfl) (by exact rfl) (by exact rfl) (by exact rfl) (by kernel_rfl) h63 (by kernel_rfl)) .nil))))))))))))))) (by kernel_rfl) (by kernel_rfl) (by kernel_rfl) (by kernel_rfl) (by kernel_rfl) (by kernel_rfl) ?_
        refine athen_n ?_
        refine AW_region ?_
        refine AWl_xrun 3 _ _ _ [(4, .int .i64 (IntKind.i64.wrap (x39 - 4))), (137, .int .i64 (IntKind.i64.wrap (x39 - 4))), (136, .int .i64 x39), (12, .int .u32 (IntKind.u32.wrap (Int.tdiv (IntKind.u32.wrap x40) 10000))), (4, .int .i64 x39), (0, .rw 1 0 a2 1 none)] [(1, some (fl eU8 ((((x41.set (IntKind.i64.wrap (x39 - 1)).toNat x43).set (IntKind.i64.wrap (x39 - 2)).toNat x44).set (IntKind.i64.wrap (x39 - 3)).toNat x47).set (IntKind.i64.wrap (x39 - 4)).toNat x48)))] (by kernel_rfl) ?_
        refine AWl_nilK [4, 12, 0] [(4, .int .i64 (IntKind.i64.wrap (x39 - 4))), (12, .int .u32 (IntKind.u32.wrap (Int.tdiv (IntKind.u32.wrap x40) 10000))), (0, .rw 1 0 a2 1 none)] (by kernel_rfl) ?_
        obtain ⟨rfl, h123⟩ := Prod.mk.inj (Option.some.inj h122)
        obtain ⟨rfl, rfl⟩ := Prod.mk.inj (h123)
        refine Tgt.mk (Weak.ren [] [1] (.cons rfl (.pure rfl) (.cons rfl (.pure rfl) (.cons rfl (.rw (l := 1) (l' := 1) rfl rfl) .nil))) (.cons rfl (.pure (fl_pure _)) .nil) (by kernel_rfl) (keysK rfl) En_ok)
    · skip
      obtain ⟨⟨x58, x59, x60⟩, h75, h124⟩ := bind_some h107
      refine AW_meetN (fun z => match z with | (x58, x59, x60) => [(12, .int .u32 x58), (4, .int .i64 x59), (0, .rw 1 0 a2 1 none)]) (fun z => match z with | (x58, x59, x60) => [(1, some (fl eU8 x60))]) (x58, x59, x60) ?_ ?_
      · skip
        refine AW_seq ?_
        refine AW_region ?_
        refine AWl_xrun 2 _ _ _ [(139, .bool (decide (x52 ≥ 2))), (138, .int .i64 x52), (12, .int .u32 x51), (4, .int .i64 x52), (0, .rw 1 0 a2 1 none)] [(1, some (fl eU8 x53))] (by kernel_rfl) ?_
        refine AWl_nilK [139, 12, 4, 0] [(139, .bool (decide (x52 ≥ 2))), (12, .int .u32 x51), (4, .int .i64 x52), (0, .rw 1 0 a2 1 none)] (by kernel_rfl) ?_
        refine athen_n ?_
        cases h65 : (decide (x52 ≥ 2))
        · have h125 := bif_f h65 h75
          refine AW_condF rfl ?_
          refine AW_skip ?_
          obtain ⟨rfl, h126⟩ := Prod.mk.inj (Option.some.inj h125)
          obtain ⟨rfl, rfl⟩ := Prod.mk.inj (h126)
          refine Tgt.mk (Weak.ren [] [1] (.cons rfl (.pure rfl) (.cons rfl (.pure rfl) (.cons rfl (.rw (l := 1) (l' := 1) rfl rfl) .nil))) (.cons rfl (.pure (fl_pure _)) .nil) (by kernel_rfl) (keysK rfl) En_ok)
        · have h127 := bif_t h65 h75
          refine AW_condT rfl ?_
          refine AW_seq ?_
          refine AW_region ?_
          refine AWl_xrun 4 _ _ _ [(16, .int .u32 (IntKind.u32.wrap ((Int.tmod x51 100) * 2))), (142, .int .u32 (IntKind.u32.wrap ((Int.tmod x51 100) * 2))), (141, .int .u32 (Int.tmod x51 100)), (140, .int .u32 x51), (139, .bool true), (12, .int .u32 x51), (4, .int .i64 x52), (0, .rw 1 0 a2 1 none)] [(1, some (fl eU8 x53))] (by kernel_rfl) ?_
          refine AWl_nilK [16, 12, 4, 0] [(16, .int .u32 (IntKind.u32.wrap ((Int.tmod x51 100) * 2))), (12, .int .u32 x51), (4, .int .i64 x52), (0, .rw 1 0 a2 1 none)] (by kernel_rfl) ?_
          refine athen_n ?_
          refine AW_seq ?_
          refine AW_region ?_
          refine AWl_xrun 3 _ _ _ [(12, .int .u32 (IntKind.u32.wrap (Int.tdiv x51 100))), (144, .int .u32 (IntKind.u32.wrap (Int.tdiv x51 100))), (143, .int .u32 x51), (16, .int .u32 (IntKind.u32.wrap ((Int.tmod x51 100) * 2))), (12, .int .u32 x51), (4, .int .i64 x52), (0, .rw 1 0 a2 1 none)] [(1, some (fl eU8 x53))] (by kernel_rfl) ?_
          refine AWl_nilK [12, 16, 4, 0] [(12, .int .u32 (IntKind.u32.wrap (Int.tdiv x51 100))), (16, .int .u32 (IntKind.u32.wrap ((Int.tmod x51 100) * 2))), (4, .int .i64 x52), (0, .rw 1 0 a2 1 none)] (by kernel_rfl) ?_
          refine athen_n ?_
          refine AW_seq ?_
          obtain ⟨x54, h66, h128⟩ := bind_some h127
          obtain ⟨x55, h67, h129⟩ := bind_some h128
          obtain ⟨x56, h68, h130⟩ := bind_some h129
          obtain ⟨h69, h131⟩ := req_some h130
          obtain ⟨x57, h70, h132⟩ := bind_some h131
          obtain ⟨h71, h133⟩ := req_some h132
          refine AW_drawK En_mixed [⟨[(0, .rw 1 0 a2 1 none)], [], .rw 1 0 a2 1 none, [], true, false⟩, ⟨[(4, .int .i64 x52)], [], .int .i64 x52, [], true, false⟩, ⟨[(146, .int .i64 x52)], [], .int .i64 (IntKind.i64.wrap (x52 - 1)), [], true, false⟩, ⟨[(0, .rw 1 0 a2 1 none)], [], .rw 1 0 a2 1 none, [], true, false⟩, ⟨[(4, .int .i64 x52)], [], .int .i64 x52, [], true, false⟩, ⟨[(149, .int .i64 x52)], [], .int .i64 (IntKind.i64.wrap (x52 - 2)), [], true, false⟩, ⟨[(16, .int .u32 (IntKind.u32.wrap ((Int.tmod x51 100) * 2)))], [], .int .u32 (IntKind.u32.wrap ((Int.tmod x51 100) * 2)), [], true, false⟩, ⟨[(151, .int .u32 (IntKind.u32.wrap ((Int.tmod x51 100) * 2)))], [], .int .u32 (IntKind.u32.wrap ((IntKind.u32.wrap ((Int.tmod x51 100) * 2)) + 1)), [], true, false⟩, ⟨[(152, .int .u32 (IntKind.u32.wrap ((IntKind.u32.wrap ((Int.tmod x51 100) * 2)) + 1)))], [], .int .u8 (x54.toNat : Int), [], true, false⟩, ⟨[(16, .int .u32 (IntKind.u32.wrap ((Int.tmod x51 100) * 2)))], [], .int .u32 (IntKind.u32.wrap ((Int.tmod x51 100) * 2)), [], true, false⟩, ⟨[(154, .int .u32 (IntKind.u32.wrap ((Int.tmod x51 100) * 2)))], [], .int .u8 (x55.toNat : Int), [], true, false⟩, ⟨[(145, .rw 1 0 a2 1 none), (147, .int .i64 (IntKind.i64.wrap (x52 - 1)))], [], .ptr 1 ((IntKind.i64.wrap (x52 - 1)).toNat * 1), [], true, false⟩, ⟨[(153, .int .u8 (x54.toNat : Int)), (156, .ptr 1 ((IntKind.i64.wrap (x52 - 1)).toNat * 1))], [(1, some (fl eU8 x53))], .dead, [(1, some (fl eU8 (x53.set (IntKind.i64.wrap (x52 - 1)).toNat x54)))], true, false⟩, ⟨[(148, .rw 1 0 a2 1 none), (150, .int .i64 (IntKind.i64.wrap (x52 - 2)))], [], .ptr 1 ((IntKind.i64.wrap (x52 - 2)).toNat * 1), [], true, false⟩, ⟨[(155, .int .u8 (x55.toNat : Int)), (157, .ptr 1 ((IntKind.i64.wrap (x52 - 2)).toNat * 1))], [(1, some (fl eU8 (x53.set (IntKind.i64.wrap (x52 - 1)).toNat x54)))], .dead, [(1, some (fl eU8 ((x53.set (IntKind.i64.wrap (x52 - 1)).toNat x54).set (IntKind.i64.wrap (x52 - 2)).toNat x55)))], true, false⟩] [12, 4, 0] [(12, .int .u32 (IntKind.u32.wrap (Int.tdiv x51 100))), (4, .int .i64 x52), (0, .rw 1 0 a2 1 none)] [(1, some (fl eU8 ((x53.set (IntKind.i64.wrap (x52 - 1)).toNat x54).set (IntKind.i64.wrap (x52 - 2)).toNat x55)))] (.x 2 rfl (by kernel_rfl) (.x 2 rfl (by kernel_rfl) (.x 2 rfl (by kernel_rfl) (.x 2 rfl (by kernel_rfl) (.x 2 rfl (by kernel_rfl) (.x 2 rfl (by kernel_rfl) (.x 2 rfl (by kernel_rfl) (.x 2 rfl (by kernel_rfl) (.o (AOp_idxStr (s := lit_1) (by exact rfl) (by exact rfl) (by exact rfl) h66) (.x 2 rfl (by kernel_rfl) (.o (AOp_idxStr (s := lit_1) (by exact rfl) (by exact rfl) (by exact rfl) h67) (.o (AOp_idxRwN (l := x53) 1 (by exact rfl) h69 (by exact rfl) (by exact rfl) (by exact rfl) (by exact rfl) h68) (.o (AOp_storeEl (e := eU8) (l := x53) (i := (IntKind.i64.wrap (x52 - 1))) (y := x56) (y' := x54) 0 1 (by exact rfl) (by exact rfl) (by exact rfl) (by exact rfl) (by exact rfl) (by exact rfl) (by exact rfl) (by exact rfl) (by exact rfl) (by kernel_rfl) h68 (by kernel_rfl)) (.o (AOp_idxRwN (l := (x53.set (IntKind.i64.wrap (x52 - 1)).toNat x54)) 1 (by exact rfl) h71 (by exact rfl) (by exact rfl) (by exact rfl) (by exact rfl) h70) (.o (AOp_storeEl (e := eU8) (l := (x53.set (IntKind.i64.wrap (x52 - 1)).toNat x54)) (i := (IntKind.i64.wrap (x52 - 2))) (y := x57) (y' := x55) 0 1 (by exact rfl) (by exact rfl) (by exact rfl) (by exact rfl) (by exact rfl) (by exact rfl) (by exact rfl) (by exact rfl) (by exact rfl) (by kernel_rfl) h70 (by kernel_rfl)) .nil))))))))))))))) (by kernel_rfl) (by kernel_rfl) (by kernel_rfl) (by kernel_rfl) (by kernel_rfl) (by kernel_rfl) ?_
          refine athen_n ?_
          refine AW_region ?_
          refine AWl_xrun 3 _ _ _ [(4, .int .i64 (IntKind.i64.wrap (x52 - 2))), (159, .int .i64 (IntKind.i64.wrap (x52 - 2))), (158, .int .i64 x52), (12, .int .u32 (IntKind.u32.wrap (Int.tdiv x51 100))), (4, .int .i64 x52), (0, .rw 1 0 a2 1 none)] [(1, some (fl eU8 ((x53.set (IntKind.i64.wrap (x52 - 1)).toNat x54).set (IntKind.i64.wrap (x52 - 2)).toNat x55)))] (by kernel_rfl) ?_
          refine AWl_nilK [4, 12, 0] [(4, .int .i64 (IntKind.i64.wrap (x52 - 2))), (12, .int .u32 (IntKind.u32.wrap (Int.tdiv x51 100))), (0, .rw 1 0 a2 1 none)] (by kernel_rfl) ?_
          obtain ⟨rfl, h134⟩ := Prod.mk.inj (Option.some.inj h133)
          obtain ⟨rfl, rfl⟩ := Prod.mk.inj (h134)
          refine Tgt.mk (Weak.ren [] [1] (.cons rfl (.pure rfl) (.cons rfl (.pure rfl) (.cons rfl (.rw (l := 1) (l' := 1) rfl rfl) .nil))) (.cons rfl (.pure (fl_pure _)) .nil) (by kernel_rfl) (keysK rfl) En_ok)
      · skip
        refine AW_seq ?_
        refine AW_region ?_
        refine AWl_xrun 2 _ _ _ [(161, .bool (decide (x59 > 0))), (160, .int .i64 x59), (12, .int .u32 x58), (4, .int .i64 x59), (0, .rw 1 0 a2 1 none)] [(1, some (fl eU8 x60))] (by kernel_rfl) ?_
        refine AWl_nilK [161, 12, 0] [(161, .bool (decide (x59 > 0))), (12, .int .u32 x58), (0, .rw 1 0 a2 1 none)] (by kernel_rfl) ?_
        refine athen_n ?_
        cases h72 : (decide (x59 > 0))
        · have h135 := bif_f h72 h124
          refine AW_condF rfl ?_
          refine AW_skip ?_
          obtain rfl := Option.some.inj h135
          refine EndsW.mk [] [(1, some (fl eU8 x60))] [] (.inr rfl) (Weak.ren [] [1] .nil (.cons rfl (.pure (fl_pure _)) .nil) (by kernel_rfl) (keysK rfl) En_ok) (by kernel_rfl) rfl rfl
        · have h136 := bif_t h72 h124
          refine AW_condT rfl ?_
          refine AW_region ?_
          refine AWl_xrun 3 _ _ _ [(164, .int .u32 (IntKind.u32.wrap (48 + x58))), (163, .int .u32 x58), (162, .rw 1 0 a2 1 none), (161, .bool true), (12, .int .u32 x58), (0, .rw 1 0 a2 1 none)] [(1, some (fl eU8 x60))] (by kernel_rfl) ?_
          refine AWl_o (x := .int .u8 ((UInt8.ofInt (IntKind.u32.wrap (48 + x58))).toNat : Int)) (wl := []) (AOp_x (x' := .int .u8 (IntKind.u8.wrap (IntKind.u32.wrap (48 + x58)))) 2 rfl (by kernel_rfl) (by rw [wrap_u8])) (by kernel_rfl) (by kernel_rfl) (by kernel_rfl) ?_
          obtain ⟨x61, h73, h137⟩ := bind_some h136
          obtain ⟨h74, h138⟩ := req_some h137
          refine AWl_o (x := .ptr 1 ((0 : Int).toNat * 1)) (wl := []) (AOp_idxRwN (l := x60) 1 rfl h74 rfl rfl rfl rfl h73) (by kernel_rfl) (by kernel_rfl) (by kernel_rfl) ?_
          refine AWl_o (x := .dead) (wl := [(1, some (fl eU8 (x60.set (0 : Int).toNat (UInt8.ofInt (IntKind.u32.wrap (48 + x58))))))]) (AOp_storeEl (e := eU8) (l := x60) (i := 0) (y := x61) (y' := (UInt8.ofInt (IntKind.u32.wrap (48 + x58)))) 0 1 rfl rfl rfl rfl rfl rfl rfl rfl rfl (by kernel_rfl) h73 (by kernel_rfl)) (by kernel_rfl) (by kernel_rfl) (by kernel_rfl) ?_
          refine AWl_nilK [] [] (by kernel_rfl) ?_
          obtain rfl := Option.some.inj h138
          refine EndsW.mk [] [(1, some (fl eU8 (x60.set (0 : Int).toNat (UInt8.ofInt (IntKind.u32.wrap (48 + x58))))))] [] (.inr rfl) (Weak.ren [] [1] .nil (.cons rfl (.pure (fl_pure _)) .nil) (by kernel_rfl) (keysK rfl) En_ok) (by kernel_rfl) rfl rfl
noncomputable def strconv_AppendUint_v2 (a0 : Int) (a1 : List UInt8) : Option ((List UInt8)) :=
  bif (decide (a0 < 100)) then
    ((strconv_small (IntKind.i64.wrap a0)).bind fun x1 =>
    req (((a1 ++ x1).length : Int) * 1 ≤ 140737488355328) (
    some (a1 ++ x1)))
  else
    ((strconv_numDigits a0).bind fun x2 =>
    req (0 ≤ x2 ∧ 0 ≤ x2.toNat ∧ x2.toNat ≤ 24) (
    (strconv_formatBase10_v2 a0 ([0, 0, 0, 0, 0, 0, 0, 0, 0, 0, 0, 0, 0, 0, 0, 0, 0, 0, 0, 0, 0, 0, 0, 0] : List UInt8) (x2.toNat - 0)).bind fun x3 =>
    req (0 ≤ x2 ∧ 0 ≤ x2.toNat ∧ x2.toNat ≤ 24) (
    req (x3.length = 24) (
    req ((x2.toNat - 0) ≤ x3.length) (
    req (((a1 ++ (x3.take (x2.toNat - 0))).length : Int) * 1 ≤ 140737488355328) (
    some (a1 ++ (x3.take (x2.toNat - 0)))))))))
theorem strconv_AppendUint_v2_ok {a0 : Int} {a1 : List UInt8} {x4 : List UInt8} (h : strconv_AppendUint_v2 a0 a1 = some x4) : ACalls En 32 [.rw 0 0 a1.length 1 none, .int .u64 a0, .int .i64 10] [(0, some (fl eU8 a1))] (fun v L => v = (.rw 100 0 x4.length 1 none) ∧ L = [(100, some (fl eU8 x4)), (0, none)]) := by
  unfold strconv_AppendUint_v2 at h
  refine ACalls_of (fn := Tryd.f32) Tryd.func32 rfl (by simp [Tryd.ntmps32]) ?_
  refine AW_seq ?_
  refine AW_region ?_
  refine AWl_xrun 1 _ _ _ [(6, .nils), (0, .rw 0 0 a1.length 1 none), (1, .int .u64 a0), (2, .int .i64 10)] [(0, some (fl eU8 a1))] (by kernel_rfl) ?_
  refine AWl_nilK [0, 1, 2] [(0, .rw 0 0 a1.length 1 none), (1, .int .u64 a0), (2, .int .i64 10)] (by kernel_rfl) ?_
  refine athen_n ?_
  refine AW_seq ?_
  refine AW_seq ?_
  refine AW_region ?_
  refine AWl_xrun 2 _ _ _ [(10, .bool true), (9, .int .i64 10), (0, .rw 0 0 a1.length 1 none), (1, .int .u64 a0), (2, .int .i64 10)] [(0, some (fl eU8 a1))] (by kernel_rfl) ?_
  refine AWl_nilK [10, 0, 1, 2] [(10, .bool true), (0, .rw 0 0 a1.length 1 none), (1, .int .u64 a0), (2, .int .i64 10)] (by kernel_rfl) ?_
  refine athen_n ?_
  refine AW_condT rfl ?_
  refine AW_seq ?_
  refine AW_seq ?_
  refine AW_region ?_
  refine AWl_xrun 2 _ _ _ [(12, .bool (decide (a0 < 100))), (11, .int .u64 a0), (10, .bool true), (0, .rw 0 0 a1.length 1 none), (1, .int .u64 a0), (2, .int .i64 10)] [(0, some (fl eU8 a1))] (by kernel_rfl) ?_
  refine AWl_nilK [12, 0, 1] [(12, .bool (decide (a0 < 100))), (0, .rw 0 0 a1.length 1 none), (1, .int .u64 a0)] (by kernel_rfl) ?_
  refine athen_n ?_
  cases h1 : (decide (a0 < 100))
  · have h11 := bif_f h1 h
    refine AW_condF rfl ?_
    refine AW_skip ?_
    refine athen_n ?_
    refine AW_seq ?_
    refine AW_region ?_
    refine AWl_xrun 1 _ _ _ [(7, .ptr 1 0), (12, .bool false), (0, .rw 0 0 a1.length 1 none), (1, .int .u64 a0)] [(0, some (fl eU8 a1)), (1, some [.int .u8 0, .int .u8 0, .int .u8 0, .int .u8 0, .int .u8 0, .int .u8 0, .int .u8 0, .int .u8 0, .int .u8 0, .int .u8 0, .int .u8 0, .int .u8 0, .int .u8 0, .int .u8 0, .int .u8 0, .int .u8 0, .int .u8 0, .int .u8 0, .int .u8 0, .int .u8 0, .int .u8 0, .int .u8 0, .int .u8 0, .int .u8 0])] (by kernel_rfl) ?_
    refine AWl_nilK [7, 0, 1] [(7, .ptr 1 0), (0, .rw 0 0 a1.length 1 none), (1, .int .u64 a0)] (by kernel_rfl) ?_
    refine athen_n ?_
    refine AW_seq ?_
    refine AW_region ?_
    refine AWl_xrun 1 _ _ _ [(18, .int .u64 a0), (7, .ptr 1 0), (0, .rw 0 0 a1.length 1 none), (1, .int .u64 a0)] [(0, some (fl eU8 a1)), (1, some [.int .u8 0, .int .u8 0, .int .u8 0, .int .u8 0, .int .u8 0, .int .u8 0, .int .u8 0, .int .u8 0, .int .u8 0, .int .u8 0, .int .u8 0, .int .u8 0, .int .u8 0, .int .u8 0, .int .u8 0, .int .u8 0, .int .u8 0, .int .u8 0, .int .u8 0, .int .u8 0, .int .u8 0, .int .u8 0, .int .u8 0, .int .u8 0])] (by kernel_rfl) ?_
    obtain ⟨x2, h4, h12⟩ := bind_some h11
    refine AWl_o (x := .int .i64 x2) (wl := []) (AOp_callP En_ok Tryd.call34 (caps := []) (xs := [.int .u64 a0]) rfl rfl (strconv_numDigits_ok h4) rfl) (by kernel_rfl) (by kernel_rfl) (by kernel_rfl) ?_
    refine AWl_xrun 1 _ _ _ [(8, .int .i64 x2), (19, .int .i64 x2), (18, .int .u64 a0), (7, .ptr 1 0), (0, .rw 0 0 a1.length 1 none), (1, .int .u64 a0)] [(0, some (fl eU8 a1)), (1, some [.int .u8 0, .int .u8 0, .int .u8 0, .int .u8 0, .int .u8 0, .int .u8 0, .int .u8 0, .int .u8 0, .int .u8 0, .int .u8 0, .int .u8 0, .int .u8 0, .int .u8 0, .int .u8 0, .int .u8 0, .int .u8 0, .int .u8 0, .int .u8 0, .int .u8 0, .int .u8 0, .int .u8 0, .int .u8 0, .int .u8 0, .int .u8 0])] (by kernel_rfl) ?_
    refine AWl_nilK [8, 7, 0, 1] [(8, .int .i64 x2), (7, .ptr 1 0), (0, .rw 0 0 a1.length 1 none), (1, .int .u64 a0)] (by kernel_rfl) ?_
    refine athen_n ?_
    refine AW_seq ?_
    refine AW_region ?_
    refine AWl_xrun 1 _ _ _ [(20, .int .i64 x2), (8, .int .i64 x2), (7, .ptr 1 0), (0, .rw 0 0 a1.length 1 none), (1, .int .u64 a0)] [(0, some (fl eU8 a1)), (1, some [.int .u8 0, .int .u8 0, .int .u8 0, .int .u8 0, .int .u8 0, .int .u8 0, .int .u8 0, .int .u8 0, .int .u8 0, .int .u8 0, .int .u8 0, .int .u8 0, .int .u8 0, .int .u8 0, .int .u8 0, .int .u8 0, .int .u8 0, .int .u8 0, .int .u8 0, .int .u8 0, .int .u8 0, .int .u8 0, .int .u8 0, .int .u8 0])] (by kernel_rfl) ?_
    obtain ⟨h5, h13⟩ := req_some h12
    refine AWl_o (x := .rw 1 0 (x2.toNat - 0) 1 none) (wl := []) (AOp_sliceArr (l := 0) (h := x2.toNat) 1 rfl rfl rfl rfl rfl rfl (by decide) rfl (bnd_int rfl h5.1) h5.2.1 h5.2.2) (by kernel_rfl) (by kernel_rfl) (by kernel_rfl) ?_
    refine AWl_xrun 1 _ _ _ [(22, .int .u64 a0), (21, .rw 1 0 (x2.toNat - 0) 1 none), (20, .int .i64 x2), (8, .int .i64 x2), (7, .ptr 1 0), (0, .rw 0 0 a1.length 1 none), (1, .int .u64 a0)] [(0, some (fl eU8 a1)), (1, some [.int .u8 0, .int .u8 0, .int .u8 0, .int .u8 0, .int .u8 0, .int .u8 0, .int .u8 0, .int .u8 0, .int .u8 0, .int .u8 0, .int .u8 0, .int .u8 0, .int .u8 0, .int .u8 0, .int .u8 0, .int .u8 0, .int .u8 0, .int .u8 0, .int .u8 0, .int .u8 0, .int .u8 0, .int .u8 0, .int .u8 0, .int .u8 0])] (by kernel_rfl) ?_
    obtain ⟨x3, h6, h14⟩ := bind_some h13
    refine AWl_callE (caps := []) (xs := [.rw 1 0 (x2.toNat - 0) 1 none, .int .u64 a0]) [(1, some [.int .u8 0, .int .u8 0, .int .u8 0, .int .u8 0, .int .u8 0, .int .u8 0, .int .u8 0, .int .u8 0, .int .u8 0, .int .u8 0, .int .u8 0, .int .u8 0, .int .u8 0, .int .u8 0, .int .u8 0, .int .u8 0, .int .u8 0, .int .u8 0, .int .u8 0, .int .u8 0, .int .u8 0, .int .u8 0, .int .u8 0, .int .u8 0])] [(1, some (fl eU8 x3))] rfl rfl Tryd.call35 En_ok (strconv_formatBase10_v2_ok h6) (.cons rfl .nil) rfl (.cons rfl .nil) (by kernel_rfl) rfl (by kernel_rfl) ?_
    refine AWl_weak (al' := [(23, .tup []), (22, .int .u64 a0), (21, .rw 1 0 (x2.toNat - 0) 1 none), (20, .int .i64 x2), (8, .int .i64 x2), (7, .ptr 1 0), (0, .rw 0 0 a1.length 1 none), (1, .int .u64 a0)]) (L' := [(0, some (fl eU8 a1)), (1, some (fl eU8 x3))]) (Weak.ren [] [0] (.cons rfl (.pure rfl) (.cons rfl (.pure rfl) (.cons rfl (.rw (l := 1) (l' := 1) rfl rfl) (.cons rfl (.pure rfl) (.cons rfl (.pure rfl) (.cons rfl (.ptr (l := 1) (l' := 1) rfl rfl) (.cons rfl (.rw (l := 0) (l' := 0) rfl rfl) (.cons rfl (.pure rfl) .nil)))))))) (.cons rfl (.pure (fl_pure _)) (.cons rfl (.pure (fl_pure _)) .nil)) (by kernel_rfl) (keysK rfl) En_ok) ?_
    refine AWl_nilK [8, 7, 0] [(8, .int .i64 x2), (7, .ptr 1 0), (0, .rw 0 0 a1.length 1 none)] (by kernel_rfl) ?_
    refine athen_n ?_
    refine AW_seq ?_
    refine AW_region ?_
    refine AWl_xrun 2 _ _ _ [(25, .int .i64 x2), (24, .rw 0 0 a1.length 1 none), (8, .int .i64 x2), (7, .ptr 1 0), (0, .rw 0 0 a1.length 1 none)] [(0, some (fl eU8 a1)), (1, some (fl eU8 x3))] (by kernel_rfl) ?_
    obtain ⟨h7, h15⟩ := req_some h14
    obtain ⟨h8, h16⟩ := req_some h15
    refine AWl_o (x := .rw 1 0 (x2.toNat - 0) 1 none) (wl := []) (AOp_sliceArr (l := 0) (h := x2.toNat) 1 rfl rfl rfl rfl rfl (fl_len_eq h8 rfl) (by decide) rfl (bnd_int rfl h7.1) h7.2.1 h7.2.2) (by kernel_rfl) (by kernel_rfl) (by kernel_rfl) ?_
    obtain ⟨h9, h17⟩ := req_some h16
    obtain ⟨h10, h18⟩ := req_some h17
    refine AWl_o (x := .rw 2 0 ((a1 ++ (x3.take (x2.toNat - 0))).length) 1 none) (wl := [(0, none), (2, some (fl eU8 (a1 ++ (x3.take (x2.toNat - 0)))))]) (AOp_appendL (e := eU8) (l := a1) (m := (x3.take (x2.toNat - 0))) 2 1 rfl rfl (.own rfl rfl rfl rfl) (Src.ok (.rwT rfl rfl rfl rfl h9)) rfl rfl rfl rfl rfl rfl h10 (by decide) rfl) (by kernel_rfl) (by kernel_rfl) (by kernel_rfl) ?_
    refine AWl_xrun 1 _ _ _ [(6, .rw 2 0 ((a1 ++ (x3.take (x2.toNat - 0))).length) 1 none), (27, .rw 2 0 ((a1 ++ (x3.take (x2.toNat - 0))).length) 1 none), (26, .rw 1 0 (x2.toNat - 0) 1 none), (25, .int .i64 x2), (24, .rw 0 0 a1.length 1 none), (8, .int .i64 x2), (7, .ptr 1 0), (0, .rw 0 0 a1.length 1 none)] [(0, none), (1, some (fl eU8 x3)), (2, some (fl eU8 (a1 ++ (x3.take (x2.toNat - 0)))))] (by kernel_rfl) ?_
    refine AWl_nilK [6] [(6, .rw 2 0 ((a1 ++ (x3.take (x2.toNat - 0))).length) 1 none)] (by kernel_rfl) ?_
    refine athen_n ?_
    refine AW_ret ?_
    refine athen_ret ?_
    obtain rfl := Option.some.inj h18
    refine EndsW.mk [(6, .rw 100 0 ((a1 ++ (x3.take (x2.toNat - 0))).length) 1 none)] [(100, some (fl eU8 (a1 ++ (x3.take (x2.toNat - 0))))), (0, none)] [.rw 100 0 ((a1 ++ (x3.take (x2.toNat - 0))).length) 1 none] (.inl rfl) (Weak.ren [(100, 2)] [0] (.cons rfl (.rw (l := 2) (l' := 100) rfl rfl) .nil) (.cons rfl (.pure (fl_pure _)) (.gone .nil)) (by kernel_rfl) (keysK rfl) En_ok) (by kernel_rfl) rfl rfl
  · have h19 := bif_t h1 h
    refine AW_condT rfl ?_
    refine AW_seq ?_
    refine AW_region ?_
    refine AWl_xrun 3 _ _ _ [(15, .int .i64 (IntKind.i64.wrap a0)), (14, .int .u64 a0), (13, .rw 0 0 a1.length 1 none), (12, .bool true), (0, .rw 0 0 a1.length 1 none), (1, .int .u64 a0)] [(0, some (fl eU8 a1))] (by kernel_rfl) ?_
    obtain ⟨x1, h2, h20⟩ := bind_some h19
    refine AWl_o (x := .str x1) (wl := []) (AOp_callP En_ok Tryd.call33 (caps := []) (xs := [.int .i64 (IntKind.i64.wrap a0)]) rfl rfl (strconv_small_ok h2) rfl) (by kernel_rfl) (by kernel_rfl) (by kernel_rfl) ?_
    obtain ⟨h3, h21⟩ := req_some h20
    refine AWl_o (x := .rw 1 0 ((a1 ++ x1).length) 1 none) (wl := [(0, none), (1, some (fl eU8 (a1 ++ x1)))]) (AOp_appendL (e := eU8) (l := a1) (m := x1) 1 1 rfl rfl (.own rfl rfl rfl rfl) (appStr rfl) rfl rfl rfl rfl rfl rfl h3 (by decide) rfl) (by kernel_rfl) (by kernel_rfl) (by kernel_rfl) ?_
    refine AWl_xrun 1 _ _ _ [(6, .rw 1 0 ((a1 ++ x1).length) 1 none), (17, .rw 1 0 ((a1 ++ x1).length) 1 none), (16, .str x1), (15, .int .i64 (IntKind.i64.wrap a0)), (14, .int .u64 a0), (13, .rw 0 0 a1.length 1 none), (12, .bool true), (0, .rw 0 0 a1.length 1 none), (1, .int .u64 a0)] [(0, none), (1, some (fl eU8 (a1 ++ x1)))] (by kernel_rfl) ?_
    refine AWl_nilK [6] [(6, .rw 1 0 ((a1 ++ x1).length) 1 none)] (by kernel_rfl) ?_
    refine athen_n ?_
    refine AW_ret ?_
    refine athen_ret ?_
    refine athen_ret ?_
    obtain rfl := Option.some.inj h21
    refine EndsW.mk [(6, .rw 100 0 ((a1 ++ x1).length) 1 none)] [(100, some (fl eU8 (a1 ++ x1))), (0, none)] [.rw 100 0 ((a1 ++ x1).length) 1 none] (.inl rfl) (Weak.ren [(100, 1)] [0] (.cons rfl (.rw (l := 1) (l' := 100) rfl rfl) .nil) (.cons rfl (.pure (fl_pure _)) (.gone .nil)) (by kernel_rfl) (keysK rfl) En_ok) (by kernel_rfl) rfl rfl
noncomputable def strconv_AppendInt_v5 (a0 : Int) (a1 : List UInt8) : Option ((List UInt8)) :=
  (bif (decide (a0 < 0)) then
      (req (((a1 ++ ([45] : List UInt8)).length : Int) * 1 ≤ 140737488355328) (
      some (IntKind.u64.wrap (0 - (IntKind.u64.wrap a0)), a1 ++ ([45] : List UInt8))))
    else
      (some (IntKind.u64.wrap a0, a1)) : Option (Int × (List UInt8))).bind fun (x1, x2) =>
  (strconv_AppendUint_v2 x1 x2).bind fun x3 =>
  some x3
theorem strconv_AppendInt_v5_ok {a0 : Int} {a1 : List UInt8} {x5 : List UInt8} (h : strconv_AppendInt_v5 a0 a1 = some x5) : ACalls En 31 [.rw 2 0 a1.length 1 (some 2), .int .i64 a0, .int .i64 10] [(2, some (fl eU8 a1))] (fun v L => v = (.rw 100 0 x5.length 1 none) ∧ L = [(100, some (fl eU8 x5)), (2, none)]) := by
  unfold strconv_AppendInt_v5 at h
  refine ACalls_of (fn := Tryd.f31) Tryd.func31 rfl (by simp [Tryd.ntmps31]) ?_
  refine AW_seq ?_
  refine AW_region ?_
  refine AWl_xrun 1 _ _ _ [(6, .nils), (0, .rw 2 0 a1.length 1 (some 2)), (1, .int .i64 a0), (2, .int .i64 10)] [(2, some (fl eU8 a1))] (by kernel_rfl) ?_
  refine AWl_nilK [0, 1, 2] [(0, .rw 2 0 a1.length 1 (some 2)), (1, .int .i64 a0), (2, .int .i64 10)] (by kernel_rfl) ?_
  refine athen_n ?_
  refine AW_seq ?_
  refine AW_region ?_
  refine AWl_xrun 3 _ _ _ [(7, .int .u64 (IntKind.u64.wrap a0)), (9, .int .u64 (IntKind.u64.wrap a0)), (8, .int .i64 a0), (0, .rw 2 0 a1.length 1 (some 2)), (1, .int .i64 a0), (2, .int .i64 10)] [(2, some (fl eU8 a1))] (by kernel_rfl) ?_
  refine AWl_nilK [7, 0, 1, 2] [(7, .int .u64 (IntKind.u64.wrap a0)), (0, .rw 2 0 a1.length 1 (some 2)), (1, .int .i64 a0), (2, .int .i64 10)] (by kernel_rfl) ?_
  refine athen_n ?_
  obtain ⟨⟨x1, x2⟩, h4, h5⟩ := bind_some h
  refine AW_meetN (fun z => match z with | (x1, x2) => [(7, .int .u64 x1), (0, .rw 0 0 x2.length 1 none), (2, .int .i64 10)]) (fun z => match z with | (x1, x2) => [(0, some (fl eU8 x2)), (2, none)]) (x1, x2) ?_ ?_
  · skip
    refine AW_seq ?_
    refine AW_region ?_
    refine AWl_xrun 2 _ _ _ [(11, .bool (decide (a0 < 0))), (10, .int .i64 a0), (7, .int .u64 (IntKind.u64.wrap a0)), (0, .rw 2 0 a1.length 1 (some 2)), (1, .int .i64 a0), (2, .int .i64 10)] [(2, some (fl eU8 a1))] (by kernel_rfl) ?_
    refine AWl_nilK [11, 7, 0, 2] [(11, .bool (decide (a0 < 0))), (7, .int .u64 (IntKind.u64.wrap a0)), (0, .rw 2 0 a1.length 1 (some 2)), (2, .int .i64 10)] (by kernel_rfl) ?_
    refine athen_n ?_
    cases h1 : (decide (a0 < 0))
    · have h6 := bif_f h1 h4
      refine AW_condF rfl ?_
      refine AW_skip ?_
      obtain ⟨rfl, rfl⟩ := Prod.mk.inj (Option.some.inj h6)
      refine Tgt.mk (Weak.ren [(0, 2)] [2] (.cons rfl (.pure rfl) (.cons rfl (.rwCo (l := 2) (l' := 0) rfl rfl) (.cons rfl (.pure rfl) .nil))) (.cons rfl (.pure (fl_pure _)) (.gone .nil)) (by kernel_rfl) (keysK rfl) En_ok)
    · have h7 := bif_t h1 h4
      refine AW_condT rfl ?_
      refine AW_seq ?_
      refine AW_region ?_
      refine AWl_xrun 2 _ _ _ [(13, .rw 3 0 1 1 (some 1)), (12, .rw 2 0 a1.length 1 (some 2)), (11, .bool true), (7, .int .u64 (IntKind.u64.wrap a0)), (0, .rw 2 0 a1.length 1 (some 2)), (2, .int .i64 10)] [(2, some (fl eU8 a1)), (3, some [.int .u8 45])] (by kernel_rfl) ?_
      obtain ⟨h2, h8⟩ := req_some h7
      refine AWl_o (x := .rw 4 0 ((a1 ++ ([45] : List UInt8)).length) 1 none) (wl := [(2, none), (4, some (fl eU8 (a1 ++ ([45] : List UInt8))))]) (AOp_appendL (e := eU8) (l := a1) (m := ([45] : List UInt8)) 4 1 rfl rfl (.own rfl rfl rfl rfl) (Src.ok (.rwL rfl rfl rfl rfl rfl)) rfl rfl rfl rfl rfl rfl h2 (by decide) rfl) (by kernel_rfl) (by kernel_rfl) (by kernel_rfl) ?_
      refine AWl_xrun 1 _ _ _ [(0, .rw 4 0 ((a1 ++ ([45] : List UInt8)).length) 1 none), (14, .rw 4 0 ((a1 ++ ([45] : List UInt8)).length) 1 none), (13, .rw 3 0 1 1 (some 1)), (12, .rw 2 0 a1.length 1 (some 2)), (11, .bool true), (7, .int .u64 (IntKind.u64.wrap a0)), (0, .rw 2 0 a1.length 1 (some 2)), (2, .int .i64 10)] [(2, none), (3, some [.int .u8 45]), (4, some (fl eU8 (a1 ++ ([45] : List UInt8))))] (by kernel_rfl) ?_
      refine AWl_nilK [0, 7, 2] [(0, .rw 4 0 ((a1 ++ ([45] : List UInt8)).length) 1 none), (7, .int .u64 (IntKind.u64.wrap a0)), (2, .int .i64 10)] (by kernel_rfl) ?_
      refine athen_n ?_
      refine AW_region ?_
      refine AWl_xrun 3 _ _ _ [(7, .int .u64 (IntKind.u64.wrap (0 - (IntKind.u64.wrap a0)))), (16, .int .u64 (IntKind.u64.wrap (0 - (IntKind.u64.wrap a0)))), (15, .int .u64 (IntKind.u64.wrap a0)), (0, .rw 4 0 ((a1 ++ ([45] : List UInt8)).length) 1 none), (7, .int .u64 (IntKind.u64.wrap a0)), (2, .int .i64 10)] [(2, none), (3, some [.int .u8 45]), (4, some (fl eU8 (a1 ++ ([45] : List UInt8))))] (by kernel_rfl) ?_
      refine AWl_nilK [7, 0, 2] [(7, .int .u64 (IntKind.u64.wrap (0 - (IntKind.u64.wrap a0)))), (0, .rw 4 0 ((a1 ++ ([45] : List UInt8)).length) 1 none), (2, .int .i64 10)] (by kernel_rfl) ?_
      obtain ⟨rfl, rfl⟩ := Prod.mk.inj (Option.some.inj h8)
      refine Tgt.mk (Weak.ren [(0, 4)] [2] (.cons rfl (.pure rfl) (.cons rfl (.rw (l := 4) (l' := 0) rfl rfl) (.cons rfl (.pure rfl) .nil))) (.cons rfl (.pure (fl_pure _)) (.gone .nil)) (by kernel_rfl) (keysK rfl) En_ok)
  · skip
    refine AW_seq ?_
    refine AW_region ?_
    refine AWl_xrun 3 _ _ _ [(19, .int .i64 10), (18, .int .u64 x1), (17, .rw 0 0 x2.length 1 none), (7, .int .u64 x1), (0, .rw 0 0 x2.length 1 none), (2, .int .i64 10)] [(0, some (fl eU8 x2)), (2, none)] (by kernel_rfl) ?_
    obtain ⟨x3, h3, h9⟩ := bind_some h5
    refine AWl_callE (caps := []) (xs := [.rw 0 0 x2.length 1 none, .int .u64 x1, .int .i64 10]) [(0, some (fl eU8 x2))] [(100, some (fl eU8 x3)), (0, none)] rfl rfl Tryd.call32 En_ok (strconv_AppendUint_v2_ok h3) (.cons rfl .nil) rfl (.cons (fl_within _ _) .nil) (by kernel_rfl) rfl (by kernel_rfl) ?_
    refine AWl_weak (al' := [(20, .rw 1 0 x3.length 1 none), (19, .int .i64 10), (18, .int .u64 x1), (17, .rw 0 0 x2.length 1 none), (7, .int .u64 x1), (0, .rw 0 0 x2.length 1 none), (2, .int .i64 10)]) (L' := [(0, none), (2, none), (1, some (fl eU8 x3))]) (Weak.ren [(1, 100)] [2] (.cons rfl (.rw (l := 100) (l' := 1) rfl rfl) (.cons rfl (.pure rfl) (.cons rfl (.pure rfl) (.cons rfl (.rw (l := 0) (l' := 0) rfl rfl) (.cons rfl (.pure rfl) (.cons rfl (.rw (l := 0) (l' := 0) rfl rfl) (.cons rfl (.pure rfl) .nil))))))) (.gone (.gone (.cons rfl (.pure (fl_pure _)) .nil))) (by kernel_rfl) (keysK rfl) En_ok) ?_
    refine AWl_xrun 1 _ _ _ [(6, .rw 1 0 x3.length 1 none), (20, .rw 1 0 x3.length 1 none), (19, .int .i64 10), (18, .int .u64 x1), (17, .rw 0 0 x2.length 1 none), (7, .int .u64 x1), (0, .rw 0 0 x2.length 1 none), (2, .int .i64 10)] [(0, none), (2, none), (1, some (fl eU8 x3))] (by kernel_rfl) ?_
    refine AWl_nilK [6] [(6, .rw 1 0 x3.length 1 none)] (by kernel_rfl) ?_
    refine athen_n ?_
    refine AW_ret ?_
    obtain rfl := Option.some.inj h9
    refine EndsW.mk [(6, .rw 100 0 x3.length 1 none)] [(100, some (fl eU8 x3)), (2, none)] [.rw 100 0 x3.length 1 none] (.inl rfl) (Weak.ren [(100, 1)] [2] (.cons rfl (.rw (l := 1) (l' := 100) rfl rfl) .nil) (.cons rfl (.pure (fl_pure _)) (.gone .nil)) (by kernel_rfl) (keysK rfl) En_ok) (by kernel_rfl) rfl rfl
noncomputable def strconv_AppendInt_v3 (a0 : Int) (a1 : List UInt8) : Option ((List UInt8)) :=
  (strconv_AppendInt_v5 a0 a1).bind fun x1 =>
  some x1
theorem strconv_AppendInt_v3_ok {a0 : Int} {a1 : List UInt8} {x2 : List UInt8} (h : strconv_AppendInt_v3 a0 a1 = some x2) : ACalls En 28 [.rw 2 0 a1.length 1 (some 2), .int .i64 a0, .int .i64 10] [(2, some (fl eU8 a1))] (fun v L => v = (.rw 100 0 x2.length 1 none) ∧ L = [(100, some (fl eU8 x2)), (2, none)]) := by
  unfold strconv_AppendInt_v3 at h
  refine ACalls_of (fn := Tryd.f28) Tryd.func28 rfl (by simp [Tryd.ntmps28]) ?_
  refine AW_seq ?_
  refine AW_region ?_
  refine AWl_xrun 1 _ _ _ [(6, .nils), (0, .rw 2 0 a1.length 1 (some 2)), (1, .int .i64 a0), (2, .int .i64 10)] [(2, some (fl eU8 a1))] (by kernel_rfl) ?_
  refine AWl_nilK [0, 1, 2] [(0, .rw 2 0 a1.length 1 (some 2)), (1, .int .i64 a0), (2, .int .i64 10)] (by kernel_rfl) ?_
  refine athen_n ?_
  refine AW_seq ?_
  refine AW_region ?_
  refine AWl_xrun 3 _ _ _ [(9, .int .i64 10), (8, .int .i64 a0), (7, .rw 2 0 a1.length 1 (some 2)), (0, .rw 2 0 a1.length 1 (some 2)), (1, .int .i64 a0), (2, .int .i64 10)] [(2, some (fl eU8 a1))] (by kernel_rfl) ?_
  obtain ⟨x1, h1, h2⟩ := bind_some h
  refine AWl_callE (caps := []) (xs := [.rw 2 0 a1.length 1 (some 2), .int .i64 a0, .int .i64 10]) [(2, some (fl eU8 a1))] [(100, some (fl eU8 x1)), (2, none)] rfl rfl Tryd.call31 En_ok (strconv_AppendInt_v5_ok h1) (.cons rfl .nil) rfl (.cons (fl_within _ _) .nil) (by kernel_rfl) rfl (by kernel_rfl) ?_
  refine AWl_weak (al' := [(10, .rw 0 0 x1.length 1 none), (9, .int .i64 10), (8, .int .i64 a0), (7, .rw 2 0 a1.length 1 (some 2)), (0, .rw 2 0 a1.length 1 (some 2)), (1, .int .i64 a0), (2, .int .i64 10)]) (L' := [(2, none), (0, some (fl eU8 x1))]) (Weak.ren [(0, 100)] [2] (.cons rfl (.rw (l := 100) (l' := 0) rfl rfl) (.cons rfl (.pure rfl) (.cons rfl (.pure rfl) (.cons rfl (.rw (l := 2) (l' := 2) rfl rfl) (.cons rfl (.rw (l := 2) (l' := 2) rfl rfl) (.cons rfl (.pure rfl) (.cons rfl (.pure rfl) .nil))))))) (.gone (.cons rfl (.pure (fl_pure _)) .nil)) (by kernel_rfl) (keysK rfl) En_ok) ?_
  refine AWl_xrun 1 _ _ _ [(6, .rw 0 0 x1.length 1 none), (10, .rw 0 0 x1.length 1 none), (9, .int .i64 10), (8, .int .i64 a0), (7, .rw 2 0 a1.length 1 (some 2)), (0, .rw 2 0 a1.length 1 (some 2)), (1, .int .i64 a0), (2, .int .i64 10)] [(2, none), (0, some (fl eU8 x1))] (by kernel_rfl) ?_
  refine AWl_nilK [6] [(6, .rw 0 0 x1.length 1 none)] (by kernel_rfl) ?_
  refine athen_n ?_
  refine AW_ret ?_
  obtain rfl := Option.some.inj h2
  refine EndsW.mk [(6, .rw 100 0 x1.length 1 none)] [(100, some (fl eU8 x1)), (2, none)] [.rw 100 0 x1.length 1 none] (.inl rfl) (Weak.ren [(100, 0)] [2] (.cons rfl (.rw (l := 0) (l' := 100) rfl rfl) .nil) (.cons rfl (.pure (fl_pure _)) (.gone .nil)) (by kernel_rfl) (keysK rfl) En_ok) (by kernel_rfl) rfl rfl
end Go.SH
