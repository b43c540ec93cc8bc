/- Twins of functions, and that the code does what they say: written by gen.py. -/
import Derived.Test.YtlickgoakjldoaaDoorPenTw0
set_option linter.unusedVariables false
set_option linter.unusedSimpArgs false
namespace Go.SH
open Go.Proofs
noncomputable def pen_May_1 (a0 : Int) (a1 : Int) : Option (Bool) :=
  bif (decide (a0 ≥ 0)) then
    (some (decide (a0 ≤ a1)))
  else
    (some false)
theorem pen_May_1_ok {a0 : Int} {a1 : Int} {x1 : Bool} (h : pen_May_1 a0 a1 = some x1) : Pure En 24 [.int .i64 a0, .int .i64 a1] (.bool x1) := by
  unfold pen_May_1 at h
  refine ACalls_pureW En_ok (fn := Tryd.f24) Tryd.func24 rfl (by simp [Tryd.ntmps24]) ?_
  refine AW_seq ?_
  refine AW_region ?_
  refine AWl_xrun 1 _ _ _ [(4, .bool false), (0, .int .i64 a0), (1, .int .i64 a1)] [] (by kernel_rfl) ?_
  refine AWl_nilK [0, 1] [(0, .int .i64 a0), (1, .int .i64 a1)] (by kernel_rfl) ?_
  refine athen_n ?_
  refine AW_seq ?_
  refine AW_region ?_
  refine AWl_xrun 3 _ _ _ [(7, .bool (decide (a0 ≥ 0))), (6, .bool (decide (a0 ≥ 0))), (5, .int .i64 a0), (0, .int .i64 a0), (1, .int .i64 a1)] [] (by kernel_rfl) ?_
  cases h1 : (decide (a0 ≥ 0))
  · have h2 := bif_f h1 h
    refine AWl_xrun 5 _ _ _ [(4, .bool false), (11, .bool false), (10, .dead), (9, .dead), (8, .dead), (7, .bool false), (6, .bool false), (5, .int .i64 a0), (0, .int .i64 a0), (1, .int .i64 a1)] [] (by kernel_rfl) ?_
    refine AWl_nilK [4] [(4, .bool false)] (by kernel_rfl) ?_
    refine athen_n ?_
    refine AW_ret ?_
    obtain rfl := Option.some.inj h2
    refine RetsW.mk [(4, .bool false)] [] (Weak.ren [] [] (.cons rfl (.pure rfl) .nil) .nil (by kernel_rfl) (fun _ h => h.elim) En_ok) (rets1 (x := .bool false) (.inl rfl) (by kernel_rfl) (.pure rfl))
  · have h3 := bif_t h1 h
    refine AWl_xrun 5 _ _ _ [(4, .bool (decide (a0 ≤ a1))), (11, .bool (decide (a0 ≤ a1))), (10, .bool (decide (a0 ≤ a1))), (9, .int .i64 a1), (8, .int .i64 a0), (7, .bool true), (6, .bool true), (5, .int .i64 a0), (0, .int .i64 a0), (1, .int .i64 a1)] [] (by kernel_rfl) ?_
    refine AWl_nilK [4] [(4, .bool (decide (a0 ≤ a1)))] (by kernel_rfl) ?_
    refine athen_n ?_
    refine AW_ret ?_
    obtain rfl := Option.some.inj h3
    refine RetsW.mk [(4, .bool (decide (a0 ≤ a1)))] [] (Weak.ren [] [] (.cons rfl (.pure rfl) .nil) .nil (by kernel_rfl) (fun _ h => h.elim) En_ok) (rets1 (x := .bool (decide (a0 ≤ a1))) (.inl rfl) (by kernel_rfl) (.pure rfl))
noncomputable def pen_May (a0 : Int) (a1 : Int) (a2 : Int) : Option (Bool) :=
  (pen_May_1 a0 255).bind fun x1 =>
  bif x1 then
    ((pen_May_1 a1 256).bind fun x2 =>
    bif x2 then
      ((pen_May_1 a2 256).bind fun x3 =>
      some x3)
    else
      (some false))
  else
    (some false)
theorem pen_May_ok {a0 : Int} {a1 : Int} {a2 : Int} {x4 : Bool} (h : pen_May a0 a1 a2 = some x4) : Pure En 11 [.agg [.int .i64 a0, .int .i64 a1, .int .i64 a2]] (.bool x4) := by
  unfold pen_May at h
  refine ACalls_pureW En_ok (fn := Tryd.f11) Tryd.func11 rfl (by simp [Tryd.ntmps11]) ?_
  refine AW_seq ?_
  refine AW_region ?_
  refine AWl_xrun 2 _ _ _ [(2, .bool false), (1, .ptr 0 0), (0, .agg [.int .i64 a0, .int .i64 a1, .int .i64 a2])] [(0, some [.int .i64 a0, .int .i64 a1, .int .i64 a2])] (by kernel_rfl) ?_
  refine AWl_nilK [1] [(1, .ptr 0 0)] (by kernel_rfl) ?_
  refine athen_n ?_
  refine AW_seq ?_
  refine AW_region ?_
  refine AWl_xrun 1 _ _ _ [(3, .fn 24 []), (1, .ptr 0 0)] [(0, some [.int .i64 a0, .int .i64 a1, .int .i64 a2])] (by kernel_rfl) ?_
  refine AWl_nilK [3, 1] [(3, .fn 24 []), (1, .ptr 0 0)] (by kernel_rfl) ?_
  refine athen_n ?_
  refine AW_seq ?_
  refine AW_region ?_
  refine AWl_xrun 3 _ _ _ [(6, .int .i64 a0), (5, .ptr 0 0), (4, .fn 24 []), (3, .fn 24 []), (1, .ptr 0 0)] [(0, some [.int .i64 a0, .int .i64 a1, .int .i64 a2])] (by kernel_rfl) ?_
  obtain ⟨x1, h1, h6⟩ := bind_some h
  refine AWl_o (x := .bool x1) (wl := []) (AOp_callP En_ok Tryd.call24 (caps := []) (xs := [.int .i64 a0, .int .i64 255]) rfl rfl (pen_May_1_ok h1) rfl) (by kernel_rfl) (by kernel_rfl) (by kernel_rfl) ?_
  refine AWl_xrun 1 _ _ _ [(8, .bool x1), (7, .bool x1), (6, .int .i64 a0), (5, .ptr 0 0), (4, .fn 24 []), (3, .fn 24 []), (1, .ptr 0 0)] [(0, some [.int .i64 a0, .int .i64 a1, .int .i64 a2])] (by kernel_rfl) ?_
  cases h2 : x1
  · have h7 := bif_f h2 h6
    refine AWl_xrun 12 _ _ _ [(2, .bool false), (19, .bool false), (18, .dead), (17, .dead), (16, .dead), (15, .dead), (14, .bool false), (13, .bool false), (12, .dead), (11, .dead), (10, .dead), (9, .dead), (8, .bool false), (7, .bool false), (6, .int .i64 a0), (5, .ptr 0 0), (4, .fn 24 []), (3, .fn 24 []), (1, .ptr 0 0)] [(0, some [.int .i64 a0, .int .i64 a1, .int .i64 a2])] (by kernel_rfl) ?_
    refine AWl_nilK [2] [(2, .bool false)] (by kernel_rfl) ?_
    refine athen_n ?_
    refine AW_ret ?_
    obtain rfl := Option.some.inj h7
    refine RetsW.mk [(2, .bool false)] [] (Weak.ren [] [] (.cons rfl (.pure rfl) .nil) .nil (by kernel_rfl) (fun _ h => h.elim) En_ok) (rets1 (x := .bool false) (.inl rfl) (by kernel_rfl) (.pure rfl))
  · have h8 := bif_t h2 h6
    refine AWl_xrun 3 _ _ _ [(11, .int .i64 a1), (10, .ptr 0 1), (9, .fn 24 []), (8, .bool true), (7, .bool true), (6, .int .i64 a0), (5, .ptr 0 0), (4, .fn 24 []), (3, .fn 24 []), (1, .ptr 0 0)] [(0, some [.int .i64 a0, .int .i64 a1, .int .i64 a2])] (by kernel_rfl) ?_
    obtain ⟨x2, h3, h9⟩ := bind_some h8
    refine AWl_o (x := .bool x2) (wl := []) (AOp_callP En_ok Tryd.call24 (caps := []) (xs := [.int .i64 a1, .int .i64 256]) rfl rfl (pen_May_1_ok h3) rfl) (by kernel_rfl) (by kernel_rfl) (by kernel_rfl) ?_
    refine AWl_xrun 2 _ _ _ [(14, .bool x2), (13, .bool x2), (12, .bool x2), (11, .int .i64 a1), (10, .ptr 0 1), (9, .fn 24 []), (8, .bool true), (7, .bool true), (6, .int .i64 a0), (5, .ptr 0 0), (4, .fn 24 []), (3, .fn 24 []), (1, .ptr 0 0)] [(0, some [.int .i64 a0, .int .i64 a1, .int .i64 a2])] (by kernel_rfl) ?_
    cases h4 : x2
    · have h10 := bif_f h4 h9
      refine AWl_xrun 6 _ _ _ [(2, .bool false), (19, .bool false), (18, .dead), (17, .dead), (16, .dead), (15, .dead), (14, .bool false), (13, .bool false), (12, .bool false), (11, .int .i64 a1), (10, .ptr 0 1), (9, .fn 24 []), (8, .bool true), (7, .bool true), (6, .int .i64 a0), (5, .ptr 0 0), (4, .fn 24 []), (3, .fn 24 []), (1, .ptr 0 0)] [(0, some [.int .i64 a0, .int .i64 a1, .int .i64 a2])] (by kernel_rfl) ?_
      refine AWl_nilK [2] [(2, .bool false)] (by kernel_rfl) ?_
      refine athen_n ?_
      refine AW_ret ?_
      obtain rfl := Option.some.inj h10
      refine RetsW.mk [(2, .bool false)] [] (Weak.ren [] [] (.cons rfl (.pure rfl) .nil) .nil (by kernel_rfl) (fun _ h => h.elim) En_ok) (rets1 (x := .bool false) (.inl rfl) (by kernel_rfl) (.pure rfl))
    · have h11 := bif_t h4 h9
      refine AWl_xrun 3 _ _ _ [(17, .int .i64 a2), (16, .ptr 0 2), (15, .fn 24 []), (14, .bool true), (13, .bool true), (12, .bool true), (11, .int .i64 a1), (10, .ptr 0 1), (9, .fn 24 []), (8, .bool true), (7, .bool true), (6, .int .i64 a0), (5, .ptr 0 0), (4, .fn 24 []), (3, .fn 24 []), (1, .ptr 0 0)] [(0, some [.int .i64 a0, .int .i64 a1, .int .i64 a2])] (by kernel_rfl) ?_
      obtain ⟨x3, h5, h12⟩ := bind_some h11
      refine AWl_o (x := .bool x3) (wl := []) (AOp_callP En_ok Tryd.call24 (caps := []) (xs := [.int .i64 a2, .int .i64 256]) rfl rfl (pen_May_1_ok h5) rfl) (by kernel_rfl) (by kernel_rfl) (by kernel_rfl) ?_
      refine AWl_xrun 2 _ _ _ [(2, .bool x3), (19, .bool x3), (18, .bool x3), (17, .int .i64 a2), (16, .ptr 0 2), (15, .fn 24 []), (14, .bool true), (13, .bool true), (12, .bool true), (11, .int .i64 a1), (10, .ptr 0 1), (9, .fn 24 []), (8, .bool true), (7, .bool true), (6, .int .i64 a0), (5, .ptr 0 0), (4, .fn 24 []), (3, .fn 24 []), (1, .ptr 0 0)] [(0, some [.int .i64 a0, .int .i64 a1, .int .i64 a2])] (by kernel_rfl) ?_
      refine AWl_nilK [2] [(2, .bool x3)] (by kernel_rfl) ?_
      refine athen_n ?_
      refine AW_ret ?_
      obtain rfl := Option.some.inj h12
      refine RetsW.mk [(2, .bool x3)] [] (Weak.ren [] [] (.cons rfl (.pure rfl) .nil) .nil (by kernel_rfl) (fun _ h => h.elim) En_ok) (rets1 (x := .bool x3) (.inl rfl) (by kernel_rfl) (.pure rfl))
noncomputable def pen_fine (a0 : Int) (a1 : Int) (a2 : Int) : Option (Int × Int × Int) :=
  (pen_May a0 a1 a2).bind fun x1 =>
  bif (!x1) then
    (some (0, 0, 0))
  else
    (some (a0, a1, a2))
theorem pen_fine_ok {a0 : Int} {a1 : Int} {a2 : Int} {x2 : Int} {x3 : Int} {x4 : Int} (h : pen_fine a0 a1 a2 = some (x2, x3, x4)) : Pure En 17 [.agg [.int .i64 a0, .int .i64 a1, .int .i64 a2]] (.agg [.int .i64 x2, .int .i64 x3, .int .i64 x4]) := by
  unfold pen_fine at h
  refine ACalls_pureW En_ok (fn := Tryd.f17) Tryd.func17 rfl (by simp [Tryd.ntmps17]) ?_
  refine AW_seq ?_
  refine AW_region ?_
  refine AWl_xrun 2 _ _ _ [(2, .ptr 1 0), (1, .ptr 0 0), (0, .agg [.int .i64 a0, .int .i64 a1, .int .i64 a2])] [(0, some [.int .i64 a0, .int .i64 a1, .int .i64 a2]), (1, some [.int .i64 0, .int .i64 0, .int .i64 0])] (by kernel_rfl) ?_
  refine AWl_nilK [2, 1] [(2, .ptr 1 0), (1, .ptr 0 0)] (by kernel_rfl) ?_
  refine athen_n ?_
  refine AW_seq ?_
  refine AW_seq ?_
  refine AW_region ?_
  refine AWl_xrun 1 _ _ _ [(3, .agg [.int .i64 a0, .int .i64 a1, .int .i64 a2]), (2, .ptr 1 0), (1, .ptr 0 0)] [(0, some [.int .i64 a0, .int .i64 a1, .int .i64 a2]), (1, some [.int .i64 0, .int .i64 0, .int .i64 0])] (by kernel_rfl) ?_
  obtain ⟨x1, h1, h3⟩ := bind_some h
  refine AWl_o (x := .bool x1) (wl := []) (AOp_callP En_ok Tryd.call11 (caps := []) (xs := [.agg [.int .i64 a0, .int .i64 a1, .int .i64 a2]]) rfl rfl (pen_May_ok h1) rfl) (by kernel_rfl) (by kernel_rfl) (by kernel_rfl) ?_
  refine AWl_xrun 1 _ _ _ [(5, .bool (!x1)), (4, .bool x1), (3, .agg [.int .i64 a0, .int .i64 a1, .int .i64 a2]), (2, .ptr 1 0), (1, .ptr 0 0)] [(0, some [.int .i64 a0, .int .i64 a1, .int .i64 a2]), (1, some [.int .i64 0, .int .i64 0, .int .i64 0])] (by kernel_rfl) ?_
  refine AWl_nilK [5, 2, 1] [(5, .bool (!x1)), (2, .ptr 1 0), (1, .ptr 0 0)] (by kernel_rfl) ?_
  refine athen_n ?_
  cases h2 : (!x1)
  · have h4 := bif_f h2 h3
    refine AW_condF rfl ?_
    refine AW_skip ?_
    refine athen_n ?_
    refine AW_seq ?_
    refine AW_region ?_
    refine AWl_xrun 2 _ _ _ [(7, .agg [.int .i64 a0, .int .i64 a1, .int .i64 a2]), (5, .bool false), (2, .ptr 1 0), (1, .ptr 0 0)] [(0, some [.int .i64 a0, .int .i64 a1, .int .i64 a2]), (1, some [.int .i64 a0, .int .i64 a1, .int .i64 a2])] (by kernel_rfl) ?_
    refine AWl_nilK [2] [(2, .ptr 1 0)] (by kernel_rfl) ?_
    refine athen_n ?_
    refine AW_ret ?_
    obtain ⟨rfl, h5⟩ := Prod.mk.inj (Option.some.inj h4)
    obtain ⟨rfl, rfl⟩ := Prod.mk.inj (h5)
    refine RetsW.mk [(2, .ptr 1 0)] [(1, some [.int .i64 a0, .int .i64 a1, .int .i64 a2])] (Weak.ren [] [] (.cons rfl (.ptr (l := 1) (l' := 1) rfl rfl) .nil) (.cons rfl (.pure rfl) .nil) (by kernel_rfl) (fun _ h => h.elim) En_ok) (rets1 (x := .agg [.int .i64 a0, .int .i64 a1, .int .i64 a2]) (.inl rfl) (by kernel_rfl) (.pure rfl))
  · have h6 := bif_t h2 h3
    refine AW_condT rfl ?_
    refine AW_seq ?_
    refine AW_region ?_
    refine AWl_xrun 2 _ _ _ [(6, .agg [.int .i64 0, .int .i64 0, .int .i64 0]), (5, .bool true), (2, .ptr 1 0), (1, .ptr 0 0)] [(0, some [.int .i64 a0, .int .i64 a1, .int .i64 a2]), (1, some [.int .i64 0, .int .i64 0, .int .i64 0])] (by kernel_rfl) ?_
    refine AWl_nilK [2] [(2, .ptr 1 0)] (by kernel_rfl) ?_
    refine athen_n ?_
    refine AW_ret ?_
    refine athen_ret ?_
    obtain ⟨rfl, h7⟩ := Prod.mk.inj (Option.some.inj h6)
    obtain ⟨rfl, rfl⟩ := Prod.mk.inj (h7)
    refine RetsW.mk [(2, .ptr 1 0)] [(1, some [.int .i64 0, .int .i64 0, .int .i64 0])] (Weak.ren [] [] (.cons rfl (.ptr (l := 1) (l' := 1) rfl rfl) .nil) (.cons rfl (.pure rfl) .nil) (by kernel_rfl) (fun _ h => h.elim) En_ok) (rets1 (x := .agg [.int .i64 0, .int .i64 0, .int .i64 0]) (.inl rfl) (by kernel_rfl) (.pure rfl))
noncomputable def pen_plane (a0 : Int) : Option (Bool × Int) :=
  (bif (decide (a0 ≥ 30)) then
      (some (decide (a0 < 50)))
    else
      (some false) : Option (Bool)).bind fun x1 =>
  bif x1 then
    (some (true, IntKind.i64.wrap ((IntKind.i64.wrap (Int.tdiv a0 10)) * 10)))
  else
    (((bif (decide (a0 ≥ 90)) then
          (some (decide (a0 < 98)))
        else
          (some false) : Option (Bool)).bind fun x2 =>
      bif x2 then
        (some true)
      else
        (bif (decide (a0 ≥ 100)) then
          (some (decide (a0 < 108)))
        else
          (some false)) : Option (Bool)).bind fun x4 =>
    bif x4 then
      (some (true, IntKind.i64.wrap ((IntKind.i64.wrap ((IntKind.i64.wrap (Int.tdiv a0 10)) * 10)) - 60)))
    else
      (some (false, 0)))
theorem pen_plane_ok {a0 : Int} {x7 : Bool} {x8 : Int} (h : pen_plane a0 = some (x7, x8)) : Pure En 19 [.int .i64 a0] (.tup [.int .i64 x8, .bool x7]) := by
  unfold pen_plane at h
  refine ACalls_pureW En_ok (fn := Tryd.f19) Tryd.func19 rfl (by simp [Tryd.ntmps19]) ?_
  refine AW_seq ?_
  refine AW_region ?_
  refine AWl_xrun 2 _ _ _ [(3, .bool false), (2, .int .i64 0), (0, .int .i64 a0)] [] (by kernel_rfl) ?_
  refine AWl_nilK [0] [(0, .int .i64 a0)] (by kernel_rfl) ?_
  refine athen_n ?_
  refine AW_seq ?_
  refine AW_block ?_
  obtain ⟨x1, h9, h10⟩ := bind_some h
  refine AW_meetN (fun x1 => [(4, .bool x1), (0, .int .i64 a0)]) (fun x1 => []) x1 ?_ ?_
  · skip
    refine AW_region ?_
    refine AWl_xrun 3 _ _ _ [(7, .bool (decide (a0 ≥ 30))), (6, .bool (decide (a0 ≥ 30))), (5, .int .i64 a0), (0, .int .i64 a0)] [] (by kernel_rfl) ?_
    cases h1 : (decide (a0 ≥ 30))
    · have h11 := bif_f h1 h9
      refine AWl_xrun 4 _ _ _ [(4, .bool false), (10, .bool false), (9, .dead), (8, .dead), (7, .bool false), (6, .bool false), (5, .int .i64 a0), (0, .int .i64 a0)] [] (by kernel_rfl) ?_
      refine AWl_nilK [4, 0] [(4, .bool false), (0, .int .i64 a0)] (by kernel_rfl) ?_
      obtain rfl := Option.some.inj h11
      refine Tgt.mk (Weak.ren [] [] (.cons rfl (.pure rfl) (.cons rfl (.pure rfl) .nil)) .nil (by kernel_rfl) (fun _ h => h.elim) En_ok)
    · have h12 := bif_t h1 h9
      refine AWl_xrun 4 _ _ _ [(4, .bool (decide (a0 < 50))), (10, .bool (decide (a0 < 50))), (9, .bool (decide (a0 < 50))), (8, .int .i64 a0), (7, .bool true), (6, .bool true), (5, .int .i64 a0), (0, .int .i64 a0)] [] (by kernel_rfl) ?_
      refine AWl_nilK [4, 0] [(4, .bool (decide (a0 < 50))), (0, .int .i64 a0)] (by kernel_rfl) ?_
      obtain rfl := Option.some.inj h12
      refine Tgt.mk (Weak.ren [] [] (.cons rfl (.pure rfl) (.cons rfl (.pure rfl) .nil)) .nil (by kernel_rfl) (fun _ h => h.elim) En_ok)
  · skip
    cases h2 : x1
    · have h13 := bif_f h2 h10
      refine AW_condF rfl ?_
      obtain ⟨x4, h8, h14⟩ := bind_some h13
      refine AW_meetN (fun x4 => [(14, .bool x4), (0, .int .i64 a0)]) (fun x4 => []) x4 ?_ ?_
      · skip
        obtain ⟨x2, h6, h15⟩ := bind_some h8
        refine AW_meetN (fun x2 => [(14, .bool x2), (0, .int .i64 a0)]) (fun x2 => []) x2 ?_ ?_
        · skip
          refine AW_region ?_
          refine AWl_xrun 3 _ _ _ [(17, .bool (decide (a0 ≥ 90))), (16, .bool (decide (a0 ≥ 90))), (15, .int .i64 a0), (4, .bool false), (0, .int .i64 a0)] [] (by kernel_rfl) ?_
          cases h3 : (decide (a0 ≥ 90))
          · have h16 := bif_f h3 h6
            refine AWl_xrun 4 _ _ _ [(14, .bool false), (20, .bool false), (19, .dead), (18, .dead), (17, .bool false), (16, .bool false), (15, .int .i64 a0), (4, .bool false), (0, .int .i64 a0)] [] (by kernel_rfl) ?_
            refine AWl_nilK [14, 0] [(14, .bool false), (0, .int .i64 a0)] (by kernel_rfl) ?_
            obtain rfl := Option.some.inj h16
            refine Tgt.mk (Weak.ren [] [] (.cons rfl (.pure rfl) (.cons rfl (.pure rfl) .nil)) .nil (by kernel_rfl) (fun _ h => h.elim) En_ok)
          · have h17 := bif_t h3 h6
            refine AWl_xrun 4 _ _ _ [(14, .bool (decide (a0 < 98))), (20, .bool (decide (a0 < 98))), (19, .bool (decide (a0 < 98))), (18, .int .i64 a0), (17, .bool true), (16, .bool true), (15, .int .i64 a0), (4, .bool false), (0, .int .i64 a0)] [] (by kernel_rfl) ?_
            refine AWl_nilK [14, 0] [(14, .bool (decide (a0 < 98))), (0, .int .i64 a0)] (by kernel_rfl) ?_
            obtain rfl := Option.some.inj h17
            refine Tgt.mk (Weak.ren [] [] (.cons rfl (.pure rfl) (.cons rfl (.pure rfl) .nil)) .nil (by kernel_rfl) (fun _ h => h.elim) En_ok)
        · skip
          cases h4 : x2
          · have h18 := bif_f h4 h15
            refine AW_condF rfl ?_
            refine AW_region ?_
            refine AWl_xrun 3 _ _ _ [(23, .bool (decide (a0 ≥ 100))), (22, .bool (decide (a0 ≥ 100))), (21, .int .i64 a0), (14, .bool false), (0, .int .i64 a0)] [] (by kernel_rfl) ?_
            cases h5 : (decide (a0 ≥ 100))
            · have h19 := bif_f h5 h18
              refine AWl_xrun 4 _ _ _ [(14, .bool false), (26, .bool false), (25, .dead), (24, .dead), (23, .bool false), (22, .bool false), (21, .int .i64 a0), (14, .bool false), (0, .int .i64 a0)] [] (by kernel_rfl) ?_
              refine AWl_nilK [14, 0] [(14, .bool false), (0, .int .i64 a0)] (by kernel_rfl) ?_
              obtain rfl := Option.some.inj h19
              refine Tgt.mk (Weak.ren [] [] (.cons rfl (.pure rfl) (.cons rfl (.pure rfl) .nil)) .nil (by kernel_rfl) (fun _ h => h.elim) En_ok)
            · have h20 := bif_t h5 h18
              refine AWl_xrun 4 _ _ _ [(14, .bool (decide (a0 < 108))), (26, .bool (decide (a0 < 108))), (25, .bool (decide (a0 < 108))), (24, .int .i64 a0), (23, .bool true), (22, .bool true), (21, .int .i64 a0), (14, .bool false), (0, .int .i64 a0)] [] (by kernel_rfl) ?_
              refine AWl_nilK [14, 0] [(14, .bool (decide (a0 < 108))), (0, .int .i64 a0)] (by kernel_rfl) ?_
              obtain rfl := Option.some.inj h20
              refine Tgt.mk (Weak.ren [] [] (.cons rfl (.pure rfl) (.cons rfl (.pure rfl) .nil)) .nil (by kernel_rfl) (fun _ h => h.elim) En_ok)
          · have h21 := bif_t h4 h15
            refine AW_condT rfl ?_
            refine AW_skip ?_
            obtain rfl := Option.some.inj h21
            refine Tgt.mk (Weak.ren [] [] (.cons rfl (.pure rfl) (.cons rfl (.pure rfl) .nil)) .nil (by kernel_rfl) (fun _ h => h.elim) En_ok)
      · skip
        cases h7 : x4
        · have h22 := bif_f h7 h14
          refine AW_condF rfl ?_
          refine AW_skip ?_
          refine ablock_n ?_
          refine athen_n ?_
          refine AW_seq ?_
          refine AW_region ?_
          refine AWl_xrun 2 _ _ _ [(3, .bool false), (2, .int .i64 0), (14, .bool false), (0, .int .i64 a0)] [] (by kernel_rfl) ?_
          refine AWl_nilK [3, 2] [(3, .bool false), (2, .int .i64 0)] (by kernel_rfl) ?_
          refine athen_n ?_
          refine AW_ret ?_
          obtain ⟨rfl, rfl⟩ := Prod.mk.inj (Option.some.inj h22)
          refine RetsW.mk [(3, .bool false), (2, .int .i64 0)] [] (Weak.ren [] [] (.cons rfl (.pure rfl) (.cons rfl (.pure rfl) .nil)) .nil (by kernel_rfl) (fun _ h => h.elim) En_ok) (rets2 (x := .int .i64 0) (y := .bool false) (.inl rfl) (by kernel_rfl) (.pure rfl) (.pure rfl))
        · have h23 := bif_t h7 h14
          refine AW_condT rfl ?_
          refine AW_seq ?_
          refine AW_region ?_
          refine AWl_xrun 6 _ _ _ [(3, .bool true), (2, .int .i64 (IntKind.i64.wrap ((IntKind.i64.wrap ((IntKind.i64.wrap (Int.tdiv a0 10)) * 10)) - 60))), (30, .int .i64 (IntKind.i64.wrap ((IntKind.i64.wrap ((IntKind.i64.wrap (Int.tdiv a0 10)) * 10)) - 60))), (29, .int .i64 (IntKind.i64.wrap ((IntKind.i64.wrap (Int.tdiv a0 10)) * 10))), (28, .int .i64 (IntKind.i64.wrap (Int.tdiv a0 10))), (27, .int .i64 a0), (14, .bool true), (0, .int .i64 a0)] [] (by kernel_rfl) ?_
          refine AWl_nilK [3, 2] [(3, .bool true), (2, .int .i64 (IntKind.i64.wrap ((IntKind.i64.wrap ((IntKind.i64.wrap (Int.tdiv a0 10)) * 10)) - 60)))] (by kernel_rfl) ?_
          refine athen_n ?_
          refine AW_ret ?_
          refine ablock_ret ?_
          refine athen_ret ?_
          obtain ⟨rfl, rfl⟩ := Prod.mk.inj (Option.some.inj h23)
          refine RetsW.mk [(3, .bool true), (2, .int .i64 (IntKind.i64.wrap ((IntKind.i64.wrap ((IntKind.i64.wrap (Int.tdiv a0 10)) * 10)) - 60)))] [] (Weak.ren [] [] (.cons rfl (.pure rfl) (.cons rfl (.pure rfl) .nil)) .nil (by kernel_rfl) (fun _ h => h.elim) En_ok) (rets2 (x := .int .i64 (IntKind.i64.wrap ((IntKind.i64.wrap ((IntKind.i64.wrap (Int.tdiv a0 10)) * 10)) - 60))) (y := .bool true) (.inl rfl) (by kernel_rfl) (.pure rfl) (.pure rfl))
    · have h24 := bif_t h2 h10
      refine AW_condT rfl ?_
      refine AW_seq ?_
      refine AW_region ?_
      refine AWl_xrun 5 _ _ _ [(3, .bool true), (2, .int .i64 (IntKind.i64.wrap ((IntKind.i64.wrap (Int.tdiv a0 10)) * 10))), (13, .int .i64 (IntKind.i64.wrap ((IntKind.i64.wrap (Int.tdiv a0 10)) * 10))), (12, .int .i64 (IntKind.i64.wrap (Int.tdiv a0 10))), (11, .int .i64 a0), (4, .bool true), (0, .int .i64 a0)] [] (by kernel_rfl) ?_
      refine AWl_nilK [3, 2] [(3, .bool true), (2, .int .i64 (IntKind.i64.wrap ((IntKind.i64.wrap (Int.tdiv a0 10)) * 10)))] (by kernel_rfl) ?_
      refine athen_n ?_
      refine AW_ret ?_
      refine ablock_ret ?_
      refine athen_ret ?_
      obtain ⟨rfl, rfl⟩ := Prod.mk.inj (Option.some.inj h24)
      refine RetsW.mk [(3, .bool true), (2, .int .i64 (IntKind.i64.wrap ((IntKind.i64.wrap (Int.tdiv a0 10)) * 10)))] [] (Weak.ren [] [] (.cons rfl (.pure rfl) (.cons rfl (.pure rfl) .nil)) .nil (by kernel_rfl) (fun _ h => h.elim) En_ok) (rets2 (x := .int .i64 (IntKind.i64.wrap ((IntKind.i64.wrap (Int.tdiv a0 10)) * 10))) (y := .bool true) (.inl rfl) (by kernel_rfl) (.pure rfl) (.pure rfl))
noncomputable def pen_Apply_1 (a0 : Int) (a1 : Int) (a2 : Int) (a3 : Int) (a4 : Int) : Option (Int × Int) :=
  bif ((a0 : Int) == 30) then
    (some (a1, a4))
  else
    (some (a3, a1))
theorem pen_Apply_1_ok {a0 : Int} {a1 : Int} {a2 : Int} {a3 : Int} {a4 : Int} {x1 : Int} {x2 : Int} (h : pen_Apply_1 a0 a1 a2 a3 a4 = some (x1, x2)) : ACalls En 18 [.int .i64 a0, .int .i64 a1, .ptr 0 0] [(0, some [.int .i64 a2, .int .i64 a3, .int .i64 a4])] (fun v L => v = (.tup []) ∧ L = [(0, some [.int .i64 a2, .int .i64 x1, .int .i64 x2])]) := by
  unfold pen_Apply_1 at h
  refine ACalls_of (fn := Tryd.f18) Tryd.func18 rfl (by simp [Tryd.ntmps18]) ?_
  refine AW_seq ?_
  refine AW_region ?_
  refine AWl_xrun 2 _ _ _ [(6, .bool ((a0 : Int) == 30)), (5, .int .i64 a0), (0, .int .i64 a0), (1, .int .i64 a1), (2, .ptr 0 0)] [(0, some [.int .i64 a2, .int .i64 a3, .int .i64 a4])] (by kernel_rfl) ?_
  refine AWl_nilK [6, 1, 2] [(6, .bool ((a0 : Int) == 30)), (1, .int .i64 a1), (2, .ptr 0 0)] (by kernel_rfl) ?_
  refine athen_n ?_
  cases h1 : ((a0 : Int) == 30)
  · have h2 := bif_f h1 h
    refine AW_condF rfl ?_
    refine AW_region ?_
    refine AWl_xrun 3 _ _ _ [(10, .ptr 0 2), (9, .int .i64 a1), (6, .bool false), (1, .int .i64 a1), (2, .ptr 0 0)] [(0, some [.int .i64 a2, .int .i64 a3, .int .i64 a1])] (by kernel_rfl) ?_
    refine AWl_nilK [] [] (by kernel_rfl) ?_
    obtain ⟨rfl, rfl⟩ := Prod.mk.inj (Option.some.inj h2)
    refine EndsW.mk [] [(0, some [.int .i64 a2, .int .i64 a3, .int .i64 a1])] [] (.inr rfl) (Weak.ren [] [0] .nil (.cons rfl (.pure rfl) .nil) (by kernel_rfl) (keysK rfl) En_ok) (by kernel_rfl) rfl rfl
  · have h3 := bif_t h1 h
    refine AW_condT rfl ?_
    refine AW_region ?_
    refine AWl_xrun 3 _ _ _ [(8, .ptr 0 1), (7, .int .i64 a1), (6, .bool true), (1, .int .i64 a1), (2, .ptr 0 0)] [(0, some [.int .i64 a2, .int .i64 a1, .int .i64 a4])] (by kernel_rfl) ?_
    refine AWl_nilK [] [] (by kernel_rfl) ?_
    obtain ⟨rfl, rfl⟩ := Prod.mk.inj (Option.some.inj h3)
    refine EndsW.mk [] [(0, some [.int .i64 a2, .int .i64 a1, .int .i64 a4])] [] (.inr rfl) (Weak.ren [] [0] .nil (.cons rfl (.pure rfl) .nil) (by kernel_rfl) (keysK rfl) En_ok) (by kernel_rfl) rfl rfl
noncomputable def pen_colour_1_loop1 (a0 : List Int) (x4 : Int) : Option ((Unit ⊕ Unit) ⊕ (Int)) :=
    bif (decide (x4 < (a0.length : Int))) then
      ((getI a0 x4).bind fun x5 =>
      (bif (decide (x5 < 0)) then
          (some true)
        else
          (some (decide (x5 > 255))) : Option (Bool)).bind fun x6 =>
      bif x6 then
        (some (.inl (.inr ())))
      else
        (some (.inr (IntKind.i64.wrap (x4 + 1)))))
    else
      (some (.inl (.inl ())))
noncomputable def pen_colour_1 (a0 : List Int) : Option (Bool) :=
  (loopO (fun x4 => pen_colour_1_loop1 a0 x4) 0).bind fun z => match z with
  | (.inl _) =>
    some true
  | (.inr _) =>
    some false
theorem pen_colour_1_ok {a0 : List Int} {x10 : Bool} (h : pen_colour_1 a0 = some x10) : Pure En 30 [.ro (fl (eI .i64) a0) a0.length none] (.bool x10) := by
  unfold pen_colour_1 at h
  refine ACalls_pureW En_ok (fn := Tryd.f30) Tryd.func30 rfl (by simp [Tryd.ntmps30]) ?_
  refine AW_seq ?_
  refine AW_region ?_
  refine AWl_xrun 1 _ _ _ [(2, .bool false), (0, .ro (fl (eI .i64) a0) a0.length none)] [] (by kernel_rfl) ?_
  refine AWl_nilK [0] [(0, .ro (fl (eI .i64) a0) a0.length none)] (by kernel_rfl) ?_
  refine athen_n ?_
  refine AW_seq ?_
  refine AW_seq ?_
  refine AW_region ?_
  refine AWl_xrun 3 _ _ _ [(7, .int .i64 0), (6, .int .i64 (a0.length : Int)), (5, .ro (fl (eI .i64) a0) a0.length none), (0, .ro (fl (eI .i64) a0) a0.length none)] [] (by kernel_rfl) ?_
  refine AWl_nilK [7, 6, 5] [(7, .int .i64 0), (6, .int .i64 (a0.length : Int)), (5, .ro (fl (eI .i64) a0) a0.length none)] (by kernel_rfl) ?_
  refine athen_n ?_
  refine AW_block ?_
  obtain ⟨x9, h11, h12⟩ := bind_some h
  refine AW_loopM _ (fun x4 => [(7, .int .i64 x4), (6, .int .i64 (a0.length : Int)), (5, .ro (fl (eI .i64) a0) a0.length none)]) (fun x4 => []) (fun z e al L => match z with | (.inl _) => Tgt En (fun _ => False) (.exit 0) [] [] e al L | (.inr _) => Tgt En (fun _ => False) .ret [(2, .bool false)] [] e al L) h11 (Weak.ren [] [] (.cons rfl (.pure rfl) (.cons rfl (.pure rfl) (.cons rfl (.pure (by simp [pureV, within, withinL, fl_pure])) .nil))) .nil (by kernel_rfl) (fun _ h => h.elim) En_ok) ?_ ?_
  · rintro x4 x11 h13
    have h14 : pen_colour_1_loop1 a0 x4 = some _ := h13
    unfold pen_colour_1_loop1 at h14
    refine AW_seq ?_
    refine AW_region ?_
    refine AWl_xrun 1 _ _ _ [(8, .bool (decide (x4 < (a0.length : Int)))), (7, .int .i64 x4), (6, .int .i64 (a0.length : Int)), (5, .ro (fl (eI .i64) a0) a0.length none)] [] (by kernel_rfl) ?_
    refine AWl_nilK [8, 7, 6, 5] [(8, .bool (decide (x4 < (a0.length : Int)))), (7, .int .i64 x4), (6, .int .i64 (a0.length : Int)), (5, .ro (fl (eI .i64) a0) a0.length none)] (by kernel_rfl) ?_
    refine athen_n ?_
    refine AW_seq ?_
    cases h6 : (decide (x4 < (a0.length : Int)))
    · have h15 := bif_f h6 h14
      refine AW_condF rfl ?_
      refine AW_exit ?_
      refine athen_exit ?_
      obtain rfl := Option.some.inj h15
      refine Round.off (by simp) (Tgt.mk (Weak.ren [] [] .nil .nil (by kernel_rfl) (fun _ h => h.elim) En_ok))
    · have h16 := bif_t h6 h14
      refine AW_condT rfl ?_
      refine AW_skip ?_
      refine athen_n ?_
      refine AW_seq ?_
      refine AW_block ?_
      refine AW_seq ?_
      refine AW_region ?_
      obtain ⟨x5, h7, h17⟩ := bind_some h16
      refine AWl_o (x := .rop (fl (eI .i64) a0) (x4.toNat * 1)) (wl := []) (AOp_idxRo (e := (eI .i64)) (l := a0) 1 rfl rfl rfl rfl rfl rfl h7) (by kernel_rfl) (by kernel_rfl) (by kernel_rfl) ?_
      refine AWl_o (x := .int .i64 x5) (wl := []) (AOp_loadEl (e := (eI .i64)) (l := a0) (i := x4) 0 1 1 rfl rfl rfl rfl rfl h7 rfl (by kernel_rfl) (by kernel_rfl)) (by kernel_rfl) (by kernel_rfl) (by kernel_rfl) ?_
      refine AWl_xrun 1 _ _ _ [(4, .int .i64 x5), (10, .int .i64 x5), (9, .rop (fl (eI .i64) a0) (x4.toNat * 1)), (8, .bool true), (7, .int .i64 x4), (6, .int .i64 (a0.length : Int)), (5, .ro (fl (eI .i64) a0) a0.length none)] [] (by kernel_rfl) ?_
      refine AWl_nilK [4, 7, 6, 5] [(4, .int .i64 x5), (7, .int .i64 x4), (6, .int .i64 (a0.length : Int)), (5, .ro (fl (eI .i64) a0) a0.length none)] (by kernel_rfl) ?_
      refine athen_n ?_
      obtain ⟨x6, h10, h18⟩ := bind_some h17
      refine AW_meetN (fun x6 => [(16, .bool x6), (7, .int .i64 x4), (6, .int .i64 (a0.length : Int)), (5, .ro (fl (eI .i64) a0) a0.length none)]) (fun x6 => []) x6 ?_ ?_
      · skip
        refine AW_region ?_
        refine AWl_xrun 3 _ _ _ [(13, .bool (decide (x5 < 0))), (12, .bool (decide (x5 < 0))), (11, .int .i64 x5), (4, .int .i64 x5), (7, .int .i64 x4), (6, .int .i64 (a0.length : Int)), (5, .ro (fl (eI .i64) a0) a0.length none)] [] (by kernel_rfl) ?_
        cases h8 : (decide (x5 < 0))
        · have h19 := bif_f h8 h10
          refine AWl_xrun 3 _ _ _ [(16, .bool (decide (x5 > 255))), (15, .bool (decide (x5 > 255))), (14, .int .i64 x5), (13, .bool false), (12, .bool false), (11, .int .i64 x5), (4, .int .i64 x5), (7, .int .i64 x4), (6, .int .i64 (a0.length : Int)), (5, .ro (fl (eI .i64) a0) a0.length none)] [] (by kernel_rfl) ?_
          refine AWl_nilK [16, 15, 14, 7, 6, 5] [(16, .bool (decide (x5 > 255))), (15, .bool (decide (x5 > 255))), (14, .int .i64 x5), (7, .int .i64 x4), (6, .int .i64 (a0.length : Int)), (5, .ro (fl (eI .i64) a0) a0.length none)] (by kernel_rfl) ?_
          obtain rfl := Option.some.inj h19
          refine Tgt.mk (Weak.ren [] [] (.cons rfl (.pure rfl) (.cons rfl (.pure rfl) (.cons rfl (.pure rfl) (.cons rfl (.pure (by simp [pureV, within, withinL, fl_pure])) .nil)))) .nil (by kernel_rfl) (fun _ h => h.elim) En_ok)
        · have h20 := bif_t h8 h10
          refine AWl_xrun 3 _ _ _ [(16, .bool true), (15, .dead), (14, .dead), (13, .bool true), (12, .bool true), (11, .int .i64 x5), (4, .int .i64 x5), (7, .int .i64 x4), (6, .int .i64 (a0.length : Int)), (5, .ro (fl (eI .i64) a0) a0.length none)] [] (by kernel_rfl) ?_
          refine AWl_nilK [16, 7, 6, 5] [(16, .bool true), (7, .int .i64 x4), (6, .int .i64 (a0.length : Int)), (5, .ro (fl (eI .i64) a0) a0.length none)] (by kernel_rfl) ?_
          obtain rfl := Option.some.inj h20
          refine Tgt.mk (Weak.ren [] [] (.cons rfl (.pure rfl) (.cons rfl (.pure rfl) (.cons rfl (.pure rfl) (.cons rfl (.pure (by simp [pureV, within, withinL, fl_pure])) .nil)))) .nil (by kernel_rfl) (fun _ h => h.elim) En_ok)
      · skip
        cases h9 : x6
        · have h21 := bif_f h9 h18
          refine AW_condF rfl ?_
          refine AW_skip ?_
          refine ablock_n ?_
          refine athen_n ?_
          refine AW_region ?_
          refine AWl_xrun 2 _ _ _ [(7, .int .i64 (IntKind.i64.wrap (x4 + 1))), (17, .int .i64 (IntKind.i64.wrap (x4 + 1))), (16, .bool false), (7, .int .i64 x4), (6, .int .i64 (a0.length : Int)), (5, .ro (fl (eI .i64) a0) a0.length none)] [] (by kernel_rfl) ?_
          refine AWl_nilK [7, 6, 5] [(7, .int .i64 (IntKind.i64.wrap (x4 + 1))), (6, .int .i64 (a0.length : Int)), (5, .ro (fl (eI .i64) a0) a0.length none)] (by kernel_rfl) ?_
          obtain rfl := Option.some.inj h21
          refine Round.on (Weak.ren [] [] (.cons rfl (.pure rfl) (.cons rfl (.pure rfl) (.cons rfl (.pure (by simp [pureV, within, withinL, fl_pure])) .nil))) .nil (by kernel_rfl) (fun _ h => h.elim) En_ok)
        · have h22 := bif_t h9 h18
          refine AW_condT rfl ?_
          refine AW_seq ?_
          refine AW_region ?_
          refine AWl_xrun 1 _ _ _ [(2, .bool false), (16, .bool true), (7, .int .i64 x4), (6, .int .i64 (a0.length : Int)), (5, .ro (fl (eI .i64) a0) a0.length none)] [] (by kernel_rfl) ?_
          refine AWl_nilK [2] [(2, .bool false)] (by kernel_rfl) ?_
          refine athen_n ?_
          refine AW_ret ?_
          refine ablock_ret ?_
          refine athen_ret ?_
          obtain rfl := Option.some.inj h22
          refine Round.off (by simp) (Tgt.mk (Weak.ren [] [] (.cons rfl (.pure rfl) .nil) .nil (by kernel_rfl) (fun _ h => h.elim) En_ok))
  · rcases x9 with ⟨⟩ | ⟨⟩
    · rintro e al L ⟨rfl, h23⟩ -
      refine ⟨_, _, h23, ?_⟩
      refine ablock_eq ?_
      refine athen_n ?_
      refine AW_seq ?_
      refine AW_region ?_
      refine AWl_xrun 1 _ _ _ [(2, .bool true)] [] (by kernel_rfl) ?_
      refine AWl_nilK [2] [(2, .bool true)] (by kernel_rfl) ?_
      refine athen_n ?_
      refine AW_ret ?_
      obtain rfl := Option.some.inj h12
      refine RetsW.mk [(2, .bool true)] [] (Weak.ren [] [] (.cons rfl (.pure rfl) .nil) .nil (by kernel_rfl) (fun _ h => h.elim) En_ok) (rets1 (x := .bool true) (.inl rfl) (by kernel_rfl) (.pure rfl))
    · rintro e al L ⟨rfl, h23⟩ -
      refine ⟨_, _, h23, ?_⟩
      refine ablock_ret ?_
      refine athen_ret ?_
      obtain rfl := Option.some.inj h12
      refine RetsW.mk [(2, .bool false)] [] (Weak.ren [] [] (.cons rfl (.pure rfl) .nil) .nil (by kernel_rfl) (fun _ h => h.elim) En_ok) (rets1 (x := .bool false) (.inl rfl) (by kernel_rfl) (.pure rfl))
noncomputable def pen_colour (a0 : List Int) : Option (Int × Int) :=
  (bif (decide ((a0.length : Int) ≥ 2)) then
      ((getI a0 0).bind fun x1 =>
      bif ((x1 : Int) == 5) then
        ((getI a0 1).bind fun x2 =>
        (pen_colour_1 ([x2] : List Int)).bind fun x3 =>
        some x3)
      else
        (some false))
    else
      (some false) : Option (Bool)).bind fun x4 =>
  bif x4 then
    ((getI a0 1).bind fun x12 =>
    some (2, IntKind.i64.wrap (1 + x12)))
  else
    ((bif (decide ((a0.length : Int) ≥ 4)) then
        ((getI a0 0).bind fun x5 =>
        bif ((x5 : Int) == 2) then
          (req (1 ≤ 4 ∧ 4 ≤ a0.length) (
          (pen_colour_1 (sub a0 1 4)).bind fun x6 =>
          some x6))
        else
          (some false))
      else
        (some false) : Option (Bool)).bind fun x7 =>
    bif x7 then
      ((getI a0 1).bind fun x8 =>
      (getI a0 2).bind fun x9 =>
      (getI a0 3).bind fun x10 =>
      some (4, IntKind.i64.wrap ((IntKind.i64.wrap ((IntKind.i64.wrap (17 + (IntKind.i64.wrap (36 * (IntKind.i64.wrap (Int.tdiv (IntKind.i64.wrap (6 * x8)) 256)))))) + (IntKind.i64.wrap (6 * (IntKind.i64.wrap (Int.tdiv (IntKind.i64.wrap (6 * x9)) 256)))))) + (IntKind.i64.wrap (Int.tdiv (IntKind.i64.wrap (6 * x10)) 256)))))
    else
      (some (0, 0)))
theorem pen_colour_ok {a0 : List Int} {x14 : Int} {x15 : Int} (h : pen_colour a0 = some (x14, x15)) : Pure En 21 [.ro (fl (eI .i64) a0) a0.length none] (.tup [.int .i64 x15, .int .i64 x14]) := by
  unfold pen_colour at h
  refine ACalls_pureW En_ok (fn := Tryd.f21) Tryd.func21 rfl (by simp [Tryd.ntmps21]) ?_
  refine AW_seq ?_
  refine AW_region ?_
  refine AWl_xrun 2 _ _ _ [(3, .int .i64 0), (2, .int .i64 0), (0, .ro (fl (eI .i64) a0) a0.length none)] [] (by kernel_rfl) ?_
  refine AWl_nilK [0] [(0, .ro (fl (eI .i64) a0) a0.length none)] (by kernel_rfl) ?_
  refine athen_n ?_
  refine AW_seq ?_
  refine AW_region ?_
  refine AWl_xrun 1 _ _ _ [(4, .fn 30 []), (0, .ro (fl (eI .i64) a0) a0.length none)] [] (by kernel_rfl) ?_
  refine AWl_nilK [4, 0] [(4, .fn 30 []), (0, .ro (fl (eI .i64) a0) a0.length none)] (by kernel_rfl) ?_
  refine athen_n ?_
  refine AW_seq ?_
  refine AW_block ?_
  obtain ⟨x4, h18, h19⟩ := bind_some h
  refine AW_meetN (fun x4 => [(5, .bool x4), (4, .fn 30 []), (0, .ro (fl (eI .i64) a0) a0.length none)]) (fun x4 => []) x4 ?_ ?_
  · skip
    refine AW_region ?_
    refine AWl_xrun 4 _ _ _ [(9, .bool (decide ((a0.length : Int) ≥ 2))), (8, .bool (decide ((a0.length : Int) ≥ 2))), (7, .int .i64 (a0.length : Int)), (6, .ro (fl (eI .i64) a0) a0.length none), (4, .fn 30 []), (0, .ro (fl (eI .i64) a0) a0.length none)] [] (by kernel_rfl) ?_
    cases h1 : (decide ((a0.length : Int) ≥ 2))
    · have h20 := bif_f h1 h18
      refine AWl_xrun 14 _ _ _ [(5, .bool false), (22, .bool false), (21, .dead), (20, .dead), (19, .dead), (18, .dead), (17, .dead), (16, .dead), (15, .bool false), (14, .bool false), (13, .dead), (12, .dead), (11, .dead), (10, .dead), (9, .bool false), (8, .bool false), (7, .int .i64 (a0.length : Int)), (6, .ro (fl (eI .i64) a0) a0.length none), (4, .fn 30 []), (0, .ro (fl (eI .i64) a0) a0.length none)] [] (by kernel_rfl) ?_
      refine AWl_nilK [5, 4, 0] [(5, .bool false), (4, .fn 30 []), (0, .ro (fl (eI .i64) a0) a0.length none)] (by kernel_rfl) ?_
      obtain rfl := Option.some.inj h20
      refine Tgt.mk (Weak.ren [] [] (.cons rfl (.pure rfl) (.cons rfl (.pure rfl) (.cons rfl (.pure (by simp [pureV, within, withinL, fl_pure])) .nil))) .nil (by kernel_rfl) (fun _ h => h.elim) En_ok)
    · have h21 := bif_t h1 h18
      refine AWl_xrun 1 _ _ _ [(10, .ro (fl (eI .i64) a0) a0.length none), (9, .bool true), (8, .bool true), (7, .int .i64 (a0.length : Int)), (6, .ro (fl (eI .i64) a0) a0.length none), (4, .fn 30 []), (0, .ro (fl (eI .i64) a0) a0.length none)] [] (by kernel_rfl) ?_
      obtain ⟨x1, h2, h22⟩ := bind_some h21
      refine AWl_o (x := .rop (fl (eI .i64) a0) ((0 : Int).toNat * 1)) (wl := []) (AOp_idxRo (e := (eI .i64)) (l := a0) 1 rfl rfl rfl rfl rfl rfl h2) (by kernel_rfl) (by kernel_rfl) (by kernel_rfl) ?_
      refine AWl_o (x := .int .i64 x1) (wl := []) (AOp_loadEl (e := (eI .i64)) (l := a0) (i := 0) 0 1 1 rfl rfl rfl rfl rfl h2 rfl (by kernel_rfl) (by kernel_rfl)) (by kernel_rfl) (by kernel_rfl) (by kernel_rfl) ?_
      refine AWl_xrun 3 _ _ _ [(15, .bool ((x1 : Int) == 5)), (14, .bool ((x1 : Int) == 5)), (13, .bool ((x1 : Int) == 5)), (12, .int .i64 x1), (11, .rop (fl (eI .i64) a0) ((0 : Int).toNat * 1)), (10, .ro (fl (eI .i64) a0) a0.length none), (9, .bool true), (8, .bool true), (7, .int .i64 (a0.length : Int)), (6, .ro (fl (eI .i64) a0) a0.length none), (4, .fn 30 []), (0, .ro (fl (eI .i64) a0) a0.length none)] [] (by kernel_rfl) ?_
      cases h3 : ((x1 : Int) == 5)
      · have h23 := bif_f h3 h22
        refine AWl_xrun 8 _ _ _ [(5, .bool false), (22, .bool false), (21, .dead), (20, .dead), (19, .dead), (18, .dead), (17, .dead), (16, .dead), (15, .bool false), (14, .bool false), (13, .bool false), (12, .int .i64 x1), (11, .rop (fl (eI .i64) a0) ((0 : Int).toNat * 1)), (10, .ro (fl (eI .i64) a0) a0.length none), (9, .bool true), (8, .bool true), (7, .int .i64 (a0.length : Int)), (6, .ro (fl (eI .i64) a0) a0.length none), (4, .fn 30 []), (0, .ro (fl (eI .i64) a0) a0.length none)] [] (by kernel_rfl) ?_
        refine AWl_nilK [5, 4, 0] [(5, .bool false), (4, .fn 30 []), (0, .ro (fl (eI .i64) a0) a0.length none)] (by kernel_rfl) ?_
        obtain rfl := Option.some.inj h23
        refine Tgt.mk (Weak.ren [] [] (.cons rfl (.pure rfl) (.cons rfl (.pure rfl) (.cons rfl (.pure (by simp [pureV, within, withinL, fl_pure])) .nil))) .nil (by kernel_rfl) (fun _ h => h.elim) En_ok)
      · have h24 := bif_t h3 h22
        refine AWl_xrun 2 _ _ _ [(17, .ro (fl (eI .i64) a0) a0.length none), (16, .fn 30 []), (15, .bool true), (14, .bool true), (13, .bool true), (12, .int .i64 x1), (11, .rop (fl (eI .i64) a0) ((0 : Int).toNat * 1)), (10, .ro (fl (eI .i64) a0) a0.length none), (9, .bool true), (8, .bool true), (7, .int .i64 (a0.length : Int)), (6, .ro (fl (eI .i64) a0) a0.length none), (4, .fn 30 []), (0, .ro (fl (eI .i64) a0) a0.length none)] [] (by kernel_rfl) ?_
        obtain ⟨x2, h4, h25⟩ := bind_some h24
        refine AWl_o (x := .rop (fl (eI .i64) a0) ((1 : Int).toNat * 1)) (wl := []) (AOp_idxRo (e := (eI .i64)) (l := a0) 1 rfl rfl rfl rfl rfl rfl h4) (by kernel_rfl) (by kernel_rfl) (by kernel_rfl) ?_
        refine AWl_o (x := .int .i64 x2) (wl := []) (AOp_loadEl (e := (eI .i64)) (l := a0) (i := 1) 0 1 1 rfl rfl rfl rfl rfl h4 rfl (by kernel_rfl) (by kernel_rfl)) (by kernel_rfl) (by kernel_rfl) (by kernel_rfl) ?_
        refine AWl_xrun 1 _ _ _ [(20, .rw 0 0 1 1 (some 1)), (19, .int .i64 x2), (18, .rop (fl (eI .i64) a0) ((1 : Int).toNat * 1)), (17, .ro (fl (eI .i64) a0) a0.length none), (16, .fn 30 []), (15, .bool true), (14, .bool true), (13, .bool true), (12, .int .i64 x1), (11, .rop (fl (eI .i64) a0) ((0 : Int).toNat * 1)), (10, .ro (fl (eI .i64) a0) a0.length none), (9, .bool true), (8, .bool true), (7, .int .i64 (a0.length : Int)), (6, .ro (fl (eI .i64) a0) a0.length none), (4, .fn 30 []), (0, .ro (fl (eI .i64) a0) a0.length none)] [(0, some [.int .i64 x2])] (by kernel_rfl) ?_
        obtain ⟨x3, h5, h26⟩ := bind_some h25
        refine AWl_o (x := .bool x3) (wl := []) (AOp_callB En_ok Tryd.call30 (caps := []) (xs := [.rw 0 0 1 1 (some 1)]) rfl rfl (.cons (Out.fl rfl rfl rfl rfl) .nil) (pen_colour_1_ok h5) rfl) (by kernel_rfl) (by kernel_rfl) (by kernel_rfl) ?_
        refine AWl_xrun 2 _ _ _ [(5, .bool x3), (22, .bool x3), (21, .bool x3), (20, .rw 0 0 1 1 (some 1)), (19, .int .i64 x2), (18, .rop (fl (eI .i64) a0) ((1 : Int).toNat * 1)), (17, .ro (fl (eI .i64) a0) a0.length none), (16, .fn 30 []), (15, .bool true), (14, .bool true), (13, .bool true), (12, .int .i64 x1), (11, .rop (fl (eI .i64) a0) ((0 : Int).toNat * 1)), (10, .ro (fl (eI .i64) a0) a0.length none), (9, .bool true), (8, .bool true), (7, .int .i64 (a0.length : Int)), (6, .ro (fl (eI .i64) a0) a0.length none), (4, .fn 30 []), (0, .ro (fl (eI .i64) a0) a0.length none)] [(0, some [.int .i64 x2])] (by kernel_rfl) ?_
        refine AWl_nilK [5, 4, 0] [(5, .bool x3), (4, .fn 30 []), (0, .ro (fl (eI .i64) a0) a0.length none)] (by kernel_rfl) ?_
        obtain rfl := Option.some.inj h26
        refine Tgt.mk (Weak.ren [] [] (.cons rfl (.pure rfl) (.cons rfl (.pure rfl) (.cons rfl (.pure (by simp [pureV, within, withinL, fl_pure])) .nil))) .nil (by kernel_rfl) (fun _ h => h.elim) En_ok)
  · skip
    cases h6 : x4
    · have h27 := bif_f h6 h19
      refine AW_condF rfl ?_
      obtain ⟨x7, h16, h28⟩ := bind_some h27
      refine AW_meetN (fun x7 => [(27, .bool x7), (0, .ro (fl (eI .i64) a0) a0.length none)]) (fun x7 => []) x7 ?_ ?_
      · skip
        refine AW_region ?_
        refine AWl_xrun 4 _ _ _ [(31, .bool (decide ((a0.length : Int) ≥ 4))), (30, .bool (decide ((a0.length : Int) ≥ 4))), (29, .int .i64 (a0.length : Int)), (28, .ro (fl (eI .i64) a0) a0.length none), (5, .bool false), (4, .fn 30 []), (0, .ro (fl (eI .i64) a0) a0.length none)] [] (by kernel_rfl) ?_
        cases h7 : (decide ((a0.length : Int) ≥ 4))
        · have h29 := bif_f h7 h16
          refine AWl_xrun 12 _ _ _ [(27, .bool false), (42, .bool false), (41, .dead), (40, .dead), (39, .dead), (38, .dead), (37, .bool false), (36, .bool false), (35, .dead), (34, .dead), (33, .dead), (32, .dead), (31, .bool false), (30, .bool false), (29, .int .i64 (a0.length : Int)), (28, .ro (fl (eI .i64) a0) a0.length none), (5, .bool false), (4, .fn 30 []), (0, .ro (fl (eI .i64) a0) a0.length none)] [] (by kernel_rfl) ?_
          refine AWl_nilK [27, 0] [(27, .bool false), (0, .ro (fl (eI .i64) a0) a0.length none)] (by kernel_rfl) ?_
          obtain rfl := Option.some.inj h29
          refine Tgt.mk (Weak.ren [] [] (.cons rfl (.pure rfl) (.cons rfl (.pure (by simp [pureV, within, withinL, fl_pure])) .nil)) .nil (by kernel_rfl) (fun _ h => h.elim) En_ok)
        · have h30 := bif_t h7 h16
          refine AWl_xrun 1 _ _ _ [(32, .ro (fl (eI .i64) a0) a0.length none), (31, .bool true), (30, .bool true), (29, .int .i64 (a0.length : Int)), (28, .ro (fl (eI .i64) a0) a0.length none), (5, .bool false), (4, .fn 30 []), (0, .ro (fl (eI .i64) a0) a0.length none)] [] (by kernel_rfl) ?_
          obtain ⟨x5, h8, h31⟩ := bind_some h30
          refine AWl_o (x := .rop (fl (eI .i64) a0) ((0 : Int).toNat * 1)) (wl := []) (AOp_idxRo (e := (eI .i64)) (l := a0) 1 rfl rfl rfl rfl rfl rfl h8) (by kernel_rfl) (by kernel_rfl) (by kernel_rfl) ?_
          refine AWl_o (x := .int .i64 x5) (wl := []) (AOp_loadEl (e := (eI .i64)) (l := a0) (i := 0) 0 1 1 rfl rfl rfl rfl rfl h8 rfl (by kernel_rfl) (by kernel_rfl)) (by kernel_rfl) (by kernel_rfl) (by kernel_rfl) ?_
          refine AWl_xrun 3 _ _ _ [(37, .bool ((x5 : Int) == 2)), (36, .bool ((x5 : Int) == 2)), (35, .bool ((x5 : Int) == 2)), (34, .int .i64 x5), (33, .rop (fl (eI .i64) a0) ((0 : Int).toNat * 1)), (32, .ro (fl (eI .i64) a0) a0.length none), (31, .bool true), (30, .bool true), (29, .int .i64 (a0.length : Int)), (28, .ro (fl (eI .i64) a0) a0.length none), (5, .bool false), (4, .fn 30 []), (0, .ro (fl (eI .i64) a0) a0.length none)] [] (by kernel_rfl) ?_
          cases h9 : ((x5 : Int) == 2)
          · have h32 := bif_f h9 h31
            refine AWl_xrun 6 _ _ _ [(27, .bool false), (42, .bool false), (41, .dead), (40, .dead), (39, .dead), (38, .dead), (37, .bool false), (36, .bool false), (35, .bool false), (34, .int .i64 x5), (33, .rop (fl (eI .i64) a0) ((0 : Int).toNat * 1)), (32, .ro (fl (eI .i64) a0) a0.length none), (31, .bool true), (30, .bool true), (29, .int .i64 (a0.length : Int)), (28, .ro (fl (eI .i64) a0) a0.length none), (5, .bool false), (4, .fn 30 []), (0, .ro (fl (eI .i64) a0) a0.length none)] [] (by kernel_rfl) ?_
            refine AWl_nilK [27, 0] [(27, .bool false), (0, .ro (fl (eI .i64) a0) a0.length none)] (by kernel_rfl) ?_
            obtain rfl := Option.some.inj h32
            refine Tgt.mk (Weak.ren [] [] (.cons rfl (.pure rfl) (.cons rfl (.pure (by simp [pureV, within, withinL, fl_pure])) .nil)) .nil (by kernel_rfl) (fun _ h => h.elim) En_ok)
          · have h33 := bif_t h9 h31
            refine AWl_xrun 2 _ _ _ [(39, .ro (fl (eI .i64) a0) a0.length none), (38, .fn 30 []), (37, .bool true), (36, .bool true), (35, .bool true), (34, .int .i64 x5), (33, .rop (fl (eI .i64) a0) ((0 : Int).toNat * 1)), (32, .ro (fl (eI .i64) a0) a0.length none), (31, .bool true), (30, .bool true), (29, .int .i64 (a0.length : Int)), (28, .ro (fl (eI .i64) a0) a0.length none), (5, .bool false), (4, .fn 30 []), (0, .ro (fl (eI .i64) a0) a0.length none)] [] (by kernel_rfl) ?_
            obtain ⟨h10, h34⟩ := req_some h33
            refine AWl_o (x := .ro (fl (eI .i64) (sub a0 1 4)) ((sub a0 1 4).length) none) (wl := []) (AOp_sliceRo (e := (eI .i64)) (l := a0) (a := 1) (b := 4) rfl rfl rfl rfl rfl ⟨_, rfl⟩ ⟨_, rfl⟩ h10.1 h10.2 rfl) (by kernel_rfl) (by kernel_rfl) (by kernel_rfl) ?_
            obtain ⟨x6, h11, h35⟩ := bind_some h34
            refine AWl_o (x := .bool x6) (wl := []) (AOp_callP En_ok Tryd.call30 (caps := []) (xs := [.ro (fl (eI .i64) (sub a0 1 4)) ((sub a0 1 4).length) none]) rfl rfl (pen_colour_1_ok h11) (by simp [pureV, within, withinL, fl_pure])) (by kernel_rfl) (by kernel_rfl) (by kernel_rfl) ?_
            refine AWl_xrun 2 _ _ _ [(27, .bool x6), (42, .bool x6), (41, .bool x6), (40, .ro (fl (eI .i64) (sub a0 1 4)) ((sub a0 1 4).length) none), (39, .ro (fl (eI .i64) a0) a0.length none), (38, .fn 30 []), (37, .bool true), (36, .bool true), (35, .bool true), (34, .int .i64 x5), (33, .rop (fl (eI .i64) a0) ((0 : Int).toNat * 1)), (32, .ro (fl (eI .i64) a0) a0.length none), (31, .bool true), (30, .bool true), (29, .int .i64 (a0.length : Int)), (28, .ro (fl (eI .i64) a0) a0.length none), (5, .bool false), (4, .fn 30 []), (0, .ro (fl (eI .i64) a0) a0.length none)] [] (by kernel_rfl) ?_
            refine AWl_nilK [27, 0] [(27, .bool x6), (0, .ro (fl (eI .i64) a0) a0.length none)] (by kernel_rfl) ?_
            obtain rfl := Option.some.inj h35
            refine Tgt.mk (Weak.ren [] [] (.cons rfl (.pure rfl) (.cons rfl (.pure (by simp [pureV, within, withinL, fl_pure])) .nil)) .nil (by kernel_rfl) (fun _ h => h.elim) En_ok)
      · skip
        cases h12 : x7
        · have h36 := bif_f h12 h28
          refine AW_condF rfl ?_
          refine AW_skip ?_
          refine ablock_n ?_
          refine athen_n ?_
          refine AW_seq ?_
          refine AW_region ?_
          refine AWl_xrun 2 _ _ _ [(3, .int .i64 0), (2, .int .i64 0), (27, .bool false), (0, .ro (fl (eI .i64) a0) a0.length none)] [] (by kernel_rfl) ?_
          refine AWl_nilK [3, 2] [(3, .int .i64 0), (2, .int .i64 0)] (by kernel_rfl) ?_
          refine athen_n ?_
          refine AW_ret ?_
          obtain ⟨rfl, rfl⟩ := Prod.mk.inj (Option.some.inj h36)
          refine RetsW.mk [(3, .int .i64 0), (2, .int .i64 0)] [] (Weak.ren [] [] (.cons rfl (.pure rfl) (.cons rfl (.pure rfl) .nil)) .nil (by kernel_rfl) (fun _ h => h.elim) En_ok) (rets2 (x := .int .i64 0) (y := .int .i64 0) (.inl rfl) (by kernel_rfl) (.pure rfl) (.pure rfl))
        · have h37 := bif_t h12 h28
          refine AW_condT rfl ?_
          refine AW_seq ?_
          obtain ⟨x8, h13, h38⟩ := bind_some h37
          obtain ⟨x9, h14, h39⟩ := bind_some h38
          obtain ⟨x10, h15, h40⟩ := bind_some h39
          refine AW_drawK En_mixed [⟨[(0, .ro (fl (eI .i64) a0) a0.length none)], [], .ro (fl (eI .i64) a0) a0.length none, [], true, false⟩, ⟨[(43, .ro (fl (eI .i64) a0) a0.length none)], [], .rop (fl (eI .i64) a0) ((1 : Int).toNat * 1), [], true, false⟩, ⟨[(44, .rop (fl (eI .i64) a0) ((1 : Int).toNat * 1))], [], .int .i64 x8, [], true, false⟩, ⟨[(45, .int .i64 x8)], [], .int .i64 (IntKind.i64.wrap (6 * x8)), [], true, false⟩, ⟨[(46, .int .i64 (IntKind.i64.wrap (6 * x8)))], [], .int .i64 (IntKind.i64.wrap (Int.tdiv (IntKind.i64.wrap (6 * x8)) 256)), [], true, false⟩, ⟨[(47, .int .i64 (IntKind.i64.wrap (Int.tdiv (IntKind.i64.wrap (6 * x8)) 256)))], [], .int .i64 (IntKind.i64.wrap (36 * (IntKind.i64.wrap (Int.tdiv (IntKind.i64.wrap (6 * x8)) 256)))), [], true, false⟩, ⟨[(48, .int .i64 (IntKind.i64.wrap (36 * (IntKind.i64.wrap (Int.tdiv (IntKind.i64.wrap (6 * x8)) 256)))))], [], .int .i64 (IntKind.i64.wrap (17 + (IntKind.i64.wrap (36 * (IntKind.i64.wrap (Int.tdiv (IntKind.i64.wrap (6 * x8)) 256)))))), [], true, false⟩, ⟨[(0, .ro (fl (eI .i64) a0) a0.length none)], [], .ro (fl (eI .i64) a0) a0.length none, [], true, false⟩, ⟨[(50, .ro (fl (eI .i64) a0) a0.length none)], [], .rop (fl (eI .i64) a0) ((2 : Int).toNat * 1), [], true, false⟩, ⟨[(51, .rop (fl (eI .i64) a0) ((2 : Int).toNat * 1))], [], .int .i64 x9, [], true, false⟩, ⟨[(52, .int .i64 x9)], [], .int .i64 (IntKind.i64.wrap (6 * x9)), [], true, false⟩, ⟨[(53, .int .i64 (IntKind.i64.wrap (6 * x9)))], [], .int .i64 (IntKind.i64.wrap (Int.tdiv (IntKind.i64.wrap (6 * x9)) 256)), [], true, false⟩, ⟨[(54, .int .i64 (IntKind.i64.wrap (Int.tdiv (IntKind.i64.wrap (6 * x9)) 256)))], [], .int .i64 (IntKind.i64.wrap (6 * (IntKind.i64.wrap (Int.tdiv (IntKind.i64.wrap (6 * x9)) 256)))), [], true, false⟩, ⟨[(49, .int .i64 (IntKind.i64.wrap (17 + (IntKind.i64.wrap (36 * (IntKind.i64.wrap (Int.tdiv (IntKind.i64.wrap (6 * x8)) 256))))))), (55, .int .i64 (IntKind.i64.wrap (6 * (IntKind.i64.wrap (Int.tdiv (IntKind.i64.wrap (6 * x9)) 256)))))], [], .int .i64 (IntKind.i64.wrap ((IntKind.i64.wrap (17 + (IntKind.i64.wrap (36 * (IntKind.i64.wrap (Int.tdiv (IntKind.i64.wrap (6 * x8)) 256)))))) + (IntKind.i64.wrap (6 * (IntKind.i64.wrap (Int.tdiv (IntKind.i64.wrap (6 * x9)) 256)))))), [], true, false⟩, ⟨[(0, .ro (fl (eI .i64) a0) a0.length none)], [], .ro (fl (eI .i64) a0) a0.length none, [], true, false⟩, ⟨[(57, .ro (fl (eI .i64) a0) a0.length none)], [], .rop (fl (eI .i64) a0) ((3 : Int).toNat * 1), [], true, false⟩, ⟨[(58, .rop (fl (eI .i64) a0) ((3 : Int).toNat * 1))], [], .int .i64 x10, [], true, false⟩, ⟨[(59, .int .i64 x10)], [], .int .i64 (IntKind.i64.wrap (6 * x10)), [], true, false⟩, ⟨[(60, .int .i64 (IntKind.i64.wrap (6 * x10)))], [], .int .i64 (IntKind.i64.wrap (Int.tdiv (IntKind.i64.wrap (6 * x10)) 256)), [], true, false⟩, ⟨[(56, .int .i64 (IntKind.i64.wrap ((IntKind.i64.wrap (17 + (IntKind.i64.wrap (36 * (IntKind.i64.wrap (Int.tdiv (IntKind.i64.wrap (6 * x8)) 256)))))) + (IntKind.i64.wrap (6 * (IntKind.i64.wrap (Int.tdiv (IntKind.i64.wrap (6 * x9)) 256))))))), (61, .int .i64 (IntKind.i64.wrap (Int.tdiv (IntKind.i64.wrap (6 * x10)) 256)))], [], .int .i64 (IntKind.i64.wrap ((IntKind.i64.wrap ((IntKind.i64.wrap (17 + (IntKind.i64.wrap (36 * (IntKind.i64.wrap (Int.tdiv (IntKind.i64.wrap (6 * x8)) 256)))))) + (IntKind.i64.wrap (6 * (IntKind.i64.wrap (Int.tdiv (IntKind.i64.wrap (6 * x9)) 256)))))) + (IntKind.i64.wrap (Int.tdiv (IntKind.i64.wrap (6 * x10)) 256)))), [], true, false⟩, ⟨[(62, .int .i64 (IntKind.i64.wrap ((IntKind.i64.wrap ((IntKind.i64.wrap (17 + (IntKind.i64.wrap (36 * (IntKind.i64.wrap (Int.tdiv (IntKind.i64.wrap (6 * x8)) 256)))))) + (IntKind.i64.wrap (6 * (IntKind.i64.wrap (Int.tdiv (IntKind.i64.wrap (6 * x9)) 256)))))) + (IntKind.i64.wrap (Int.tdiv (IntKind.i64.wrap (6 * x10)) 256)))))], [], .int .i64 (IntKind.i64.wrap ((IntKind.i64.wrap ((IntKind.i64.wrap (17 + (IntKind.i64.wrap (36 * (IntKind.i64.wrap (Int.tdiv (IntKind.i64.wrap (6 * x8)) 256)))))) + (IntKind.i64.wrap (6 * (IntKind.i64.wrap (Int.tdiv (IntKind.i64.wrap (6 * x9)) 256)))))) + (IntKind.i64.wrap (Int.tdiv (IntKind.i64.wrap (6 * x10)) 256)))), [], true, false⟩, ⟨[], [], .int .i64 4, [], true, false⟩] [3, 2] [(3, .int .i64 4), (2, .int .i64 (IntKind.i64.wrap ((IntKind.i64.wrap ((IntKind.i64.wrap (17 + (IntKind.i64.wrap (36 * (IntKind.i64.wrap (Int.tdiv (IntKind.i64.wrap (6 * x8)) 256)))))) + (IntKind.i64.wrap (6 * (IntKind.i64.wrap (Int.tdiv (IntKind.i64.wrap (6 * x9)) 256)))))) + (IntKind.i64.wrap (Int.tdiv (IntKind.i64.wrap (6 * x10)) 256)))))] [] (.x 0 rfl (by kernel_rfl) (.o (AOp_idxRo (e := (eI .i64)) (l := a0) 1 (by exact rfl) (by exact rfl) (by exact rfl) (by exact rfl) (by exact rfl) (by exact rfl) h13) (.o (AOp_loadEl (e := (eI .i64)) (l := a0) (i := 1) 0 1 1 (by exact rfl) (by exact rfl) (by exact rfl) (by exact rfl) (by exact rfl) h13 (by exact rfl) (by kernel_rfl) (by kernel_rfl)) (.x 0 rfl (by kernel_rfl) (.x 0 rfl (by kernel_rfl) (.x 0 rfl (by kernel_rfl) (.x 0 rfl (by kernel_rfl) (.x 0 rfl (by kernel_rfl) (.o (AOp_idxRo (e := (eI .i64)) (l := a0) 1 (by exact rfl) (by exact rfl) (by exact rfl) (by exact rfl) (by exact rfl) (by exact rfl) h14) (.o (AOp_loadEl (e := (eI .i64)) (l := a0) (i := 2) 0 1 1 (by exact rfl) (by exact rfl) (by exact rfl) (by exact rfl) (by exact rfl) h14 (by exact rfl) (by kernel_rfl) (by kernel_rfl)) (.x 0 rfl (by kernel_rfl) (.x 0 rfl (by kernel_rfl) (.x 0 rfl (by kernel_rfl) (.x 0 rfl (by kernel_rfl) (.x 0 rfl (by kernel_rfl) (.o (AOp_idxRo (e := (eI .i64)) (l := a0) 1 (by exact rfl) (by exact rfl) (by exact rfl) (by exact rfl) (by exact rfl) (by exact rfl) h15) (.o (AOp_loadEl (e := (eI .i64)) (l := a0) (i := 3) 0 1 1 (by exact rfl) (by exact rfl) (by exact rfl) (by exact rfl) (by exact rfl) h15 (by exact rfl) (by kernel_rfl) (by kernel_rfl)) (.x 0 rfl (by kernel_rfl) (.x 0 rfl (by kernel_rfl) (.x 0 rfl (by kernel_rfl) (.x 0 rfl (by kernel_rfl) (.x 0 rfl (by kernel_rfl) .nil)))))))))))))))))))))) (by kernel_rfl) (by kernel_rfl) (by kernel_rfl) (by kernel_rfl) (by kernel_rfl) (by kernel_rfl) ?_
          refine athen_n ?_
          refine AW_ret ?_
          refine ablock_ret ?_
          refine athen_ret ?_
          obtain ⟨rfl, rfl⟩ := Prod.mk.inj (Option.some.inj h40)
          refine RetsW.mk [(3, .int .i64 4), (2, .int .i64 (IntKind.i64.wrap ((IntKind.i64.wrap ((IntKind.i64.wrap (17 + (IntKind.i64.wrap (36 * (IntKind.i64.wrap (Int.tdiv (IntKind.i64.wrap (6 * x8)) 256)))))) + (IntKind.i64.wrap (6 * (IntKind.i64.wrap (Int.tdiv (IntKind.i64.wrap (6 * x9)) 256)))))) + (IntKind.i64.wrap (Int.tdiv (IntKind.i64.wrap (6 * x10)) 256)))))] [] (Weak.ren [] [] (.cons rfl (.pure rfl) (.cons rfl (.pure rfl) .nil)) .nil (by kernel_rfl) (fun _ h => h.elim) En_ok) (rets2 (x := .int .i64 (IntKind.i64.wrap ((IntKind.i64.wrap ((IntKind.i64.wrap (17 + (IntKind.i64.wrap (36 * (IntKind.i64.wrap (Int.tdiv (IntKind.i64.wrap (6 * x8)) 256)))))) + (IntKind.i64.wrap (6 * (IntKind.i64.wrap (Int.tdiv (IntKind.i64.wrap (6 * x9)) 256)))))) + (IntKind.i64.wrap (Int.tdiv (IntKind.i64.wrap (6 * x10)) 256))))) (y := .int .i64 4) (.inl rfl) (by kernel_rfl) (.pure rfl) (.pure rfl))
    · have h41 := bif_t h6 h19
      refine AW_condT rfl ?_
      refine AW_seq ?_
      refine AW_region ?_
      refine AWl_xrun 1 _ _ _ [(23, .ro (fl (eI .i64) a0) a0.length none), (5, .bool true), (4, .fn 30 []), (0, .ro (fl (eI .i64) a0) a0.length none)] [] (by kernel_rfl) ?_
      obtain ⟨x12, h17, h42⟩ := bind_some h41
      refine AWl_o (x := .rop (fl (eI .i64) a0) ((1 : Int).toNat * 1)) (wl := []) (AOp_idxRo (e := (eI .i64)) (l := a0) 1 rfl rfl rfl rfl rfl rfl h17) (by kernel_rfl) (by kernel_rfl) (by kernel_rfl) ?_
      refine AWl_o (x := .int .i64 x12) (wl := []) (AOp_loadEl (e := (eI .i64)) (l := a0) (i := 1) 0 1 1 rfl rfl rfl rfl rfl h17 rfl (by kernel_rfl) (by kernel_rfl)) (by kernel_rfl) (by kernel_rfl) (by kernel_rfl) ?_
      refine AWl_xrun 3 _ _ _ [(3, .int .i64 2), (2, .int .i64 (IntKind.i64.wrap (1 + x12))), (26, .int .i64 (IntKind.i64.wrap (1 + x12))), (25, .int .i64 x12), (24, .rop (fl (eI .i64) a0) ((1 : Int).toNat * 1)), (23, .ro (fl (eI .i64) a0) a0.length none), (5, .bool true), (4, .fn 30 []), (0, .ro (fl (eI .i64) a0) a0.length none)] [] (by kernel_rfl) ?_
      refine AWl_nilK [3, 2] [(3, .int .i64 2), (2, .int .i64 (IntKind.i64.wrap (1 + x12)))] (by kernel_rfl) ?_
      refine athen_n ?_
      refine AW_ret ?_
      refine ablock_ret ?_
      refine athen_ret ?_
      obtain ⟨rfl, rfl⟩ := Prod.mk.inj (Option.some.inj h42)
      refine RetsW.mk [(3, .int .i64 2), (2, .int .i64 (IntKind.i64.wrap (1 + x12)))] [] (Weak.ren [] [] (.cons rfl (.pure rfl) (.cons rfl (.pure rfl) .nil)) .nil (by kernel_rfl) (fun _ h => h.elim) En_ok) (rets2 (x := .int .i64 (IntKind.i64.wrap (1 + x12))) (y := .int .i64 2) (.inl rfl) (by kernel_rfl) (.pure rfl) (.pure rfl))
noncomputable def pen_bitOf (a0 : Int) : Option (Int) :=
  ((bif (decide (a0 < 0)) then
        (some true)
      else
        (bif (decide (a0 > 8)) then
          (some true)
        else
          (some ((a0 : Int) == 5))) : Option (Bool)).bind fun x1 =>
    bif x1 then
      (Option.map Sum.inr (some 0))
    else
      (bif (decide (a0 > 4)) then
        (some (.inl (IntKind.i64.wrap (a0 - 1))))
      else
        (some (.inl a0))) : Option ((Int) ⊕ _)).bind fun z => match z with
  | .inr z => some z
  | .inl x3 =>
  req (0 ≤ x3) (
  some (IntKind.i64.wrap (1 * 2 ^ (min x3.toNat 64))))
theorem pen_bitOf_ok {a0 : Int} {x5 : Int} (h : pen_bitOf a0 = some x5) : Pure En 20 [.int .i64 a0] (.int .i64 x5) := by
  unfold pen_bitOf at h
  refine ACalls_pureW En_ok (fn := Tryd.f20) Tryd.func20 rfl (by simp [Tryd.ntmps20]) ?_
  refine AW_seq ?_
  refine AW_region ?_
  refine AWl_xrun 1 _ _ _ [(2, .int .i64 0), (0, .int .i64 a0)] [] (by kernel_rfl) ?_
  refine AWl_nilK [0] [(0, .int .i64 a0)] (by kernel_rfl) ?_
  refine athen_n ?_
  obtain ⟨x4, h7, h8⟩ := bind_some h
  refine AW_meetS (fun x3 => [(0, .int .i64 x3)]) (fun x3 => []) x4 ?_ ?_
  · skip
    refine AW_block ?_
    obtain ⟨x1, h5, h9⟩ := bind_some h7
    refine AW_meetN (fun x1 => [(3, .bool x1), (0, .int .i64 a0)]) (fun x1 => []) x1 ?_ ?_
    · skip
      refine AW_region ?_
      refine AWl_xrun 3 _ _ _ [(6, .bool (decide (a0 < 0))), (5, .bool (decide (a0 < 0))), (4, .int .i64 a0), (0, .int .i64 a0)] [] (by kernel_rfl) ?_
      cases h1 : (decide (a0 < 0))
      · have h10 := bif_f h1 h5
        refine AWl_xrun 4 _ _ _ [(10, .bool (decide (a0 > 8))), (9, .bool (decide (a0 > 8))), (8, .bool (decide (a0 > 8))), (7, .int .i64 a0), (6, .bool false), (5, .bool false), (4, .int .i64 a0), (0, .int .i64 a0)] [] (by kernel_rfl) ?_
        cases h2 : (decide (a0 > 8))
        · have h11 := bif_f h2 h10
          refine AWl_xrun 4 _ _ _ [(3, .bool ((a0 : Int) == 5)), (13, .bool ((a0 : Int) == 5)), (12, .bool ((a0 : Int) == 5)), (11, .int .i64 a0), (10, .bool false), (9, .bool false), (8, .bool false), (7, .int .i64 a0), (6, .bool false), (5, .bool false), (4, .int .i64 a0), (0, .int .i64 a0)] [] (by kernel_rfl) ?_
          refine AWl_nilK [3, 0] [(3, .bool ((a0 : Int) == 5)), (0, .int .i64 a0)] (by kernel_rfl) ?_
          obtain rfl := Option.some.inj h11
          refine Tgt.mk (Weak.ren [] [] (.cons rfl (.pure rfl) (.cons rfl (.pure rfl) .nil)) .nil (by kernel_rfl) (fun _ h => h.elim) En_ok)
        · have h12 := bif_t h2 h10
          refine AWl_xrun 4 _ _ _ [(3, .bool true), (13, .bool true), (12, .dead), (11, .dead), (10, .bool true), (9, .bool true), (8, .bool true), (7, .int .i64 a0), (6, .bool false), (5, .bool false), (4, .int .i64 a0), (0, .int .i64 a0)] [] (by kernel_rfl) ?_
          refine AWl_nilK [3, 0] [(3, .bool true), (0, .int .i64 a0)] (by kernel_rfl) ?_
          obtain rfl := Option.some.inj h12
          refine Tgt.mk (Weak.ren [] [] (.cons rfl (.pure rfl) (.cons rfl (.pure rfl) .nil)) .nil (by kernel_rfl) (fun _ h => h.elim) En_ok)
      · have h13 := bif_t h1 h5
        refine AWl_xrun 8 _ _ _ [(3, .bool true), (13, .bool true), (12, .dead), (11, .dead), (10, .bool true), (9, .bool true), (8, .dead), (7, .dead), (6, .bool true), (5, .bool true), (4, .int .i64 a0), (0, .int .i64 a0)] [] (by kernel_rfl) ?_
        refine AWl_nilK [3, 0] [(3, .bool true), (0, .int .i64 a0)] (by kernel_rfl) ?_
        obtain rfl := Option.some.inj h13
        refine Tgt.mk (Weak.ren [] [] (.cons rfl (.pure rfl) (.cons rfl (.pure rfl) .nil)) .nil (by kernel_rfl) (fun _ h => h.elim) En_ok)
    · skip
      cases h3 : x1
      · have h14 := bif_f h3 h9
        refine AW_condF rfl ?_
        refine AW_seq ?_
        refine AW_region ?_
        refine AWl_xrun 3 _ _ _ [(14, .bool (decide (a0 > 4))), (16, .bool (decide (a0 > 4))), (15, .int .i64 a0), (3, .bool false), (0, .int .i64 a0)] [] (by kernel_rfl) ?_
        refine AWl_nilK [14, 0] [(14, .bool (decide (a0 > 4))), (0, .int .i64 a0)] (by kernel_rfl) ?_
        refine athen_n ?_
        cases h4 : (decide (a0 > 4))
        · have h15 := bif_f h4 h14
          refine AW_condF rfl ?_
          refine AW_skip ?_
          refine ablock_n ?_
          obtain rfl := Option.some.inj h15
          refine Meet.on (Weak.ren [] [] (.cons rfl (.pure rfl) .nil) .nil (by kernel_rfl) (fun _ h => h.elim) En_ok)
        · have h16 := bif_t h4 h14
          refine AW_condT rfl ?_
          refine AW_region ?_
          refine AWl_xrun 3 _ _ _ [(0, .int .i64 (IntKind.i64.wrap (a0 - 1))), (18, .int .i64 (IntKind.i64.wrap (a0 - 1))), (17, .int .i64 a0), (14, .bool true), (0, .int .i64 a0)] [] (by kernel_rfl) ?_
          refine AWl_nilK [0] [(0, .int .i64 (IntKind.i64.wrap (a0 - 1)))] (by kernel_rfl) ?_
          refine ablock_n ?_
          obtain rfl := Option.some.inj h16
          refine Meet.on (Weak.ren [] [] (.cons rfl (.pure rfl) .nil) .nil (by kernel_rfl) (fun _ h => h.elim) En_ok)
      · have h17 := bif_t h3 h9
        refine AW_condT rfl ?_
        refine AW_seq ?_
        refine AW_region ?_
        refine AWl_xrun 1 _ _ _ [(2, .int .i64 0), (3, .bool true), (0, .int .i64 a0)] [] (by kernel_rfl) ?_
        refine AWl_nilK [2] [(2, .int .i64 0)] (by kernel_rfl) ?_
        refine athen_n ?_
        refine AW_ret ?_
        refine ablock_ret ?_
        obtain ⟨x6, h18, rfl⟩ := map_some h17
        have h19 : some x6 = some _ := h8
        cases h19
        refine Meet.off (by simp) ?_
        obtain rfl := Option.some.inj h18
        refine RetsW.mk [(2, .int .i64 0)] [] (Weak.ren [] [] (.cons rfl (.pure rfl) .nil) .nil (by kernel_rfl) (fun _ h => h.elim) En_ok) (rets1 (x := .int .i64 0) (.inl rfl) (by kernel_rfl) (.pure rfl))
  · rintro x3 rfl
    refine AW_seq ?_
    refine AW_region ?_
    refine AWl_xrun 1 _ _ _ [(19, .int .i64 x3), (0, .int .i64 x3)] [] (by kernel_rfl) ?_
    obtain ⟨h6, h20⟩ := req_some h8
    refine AWl_o (x := .int .i64 (IntKind.i64.wrap (1 * 2 ^ (min x3.toNat 64)))) (wl := []) (AOp_binOp rfl rfl (xbin_shl h6)) (by kernel_rfl) (by kernel_rfl) (by kernel_rfl) ?_
    refine AWl_xrun 1 _ _ _ [(2, .int .i64 (IntKind.i64.wrap (1 * 2 ^ (min x3.toNat 64)))), (20, .int .i64 (IntKind.i64.wrap (1 * 2 ^ (min x3.toNat 64)))), (19, .int .i64 x3), (0, .int .i64 x3)] [] (by kernel_rfl) ?_
    refine AWl_nilK [2] [(2, .int .i64 (IntKind.i64.wrap (1 * 2 ^ (min x3.toNat 64))))] (by kernel_rfl) ?_
    refine athen_n ?_
    refine AW_ret ?_
    obtain rfl := Option.some.inj h20
    refine RetsW.mk [(2, .int .i64 (IntKind.i64.wrap (1 * 2 ^ (min x3.toNat 64))))] [] (Weak.ren [] [] (.cons rfl (.pure rfl) .nil) .nil (by kernel_rfl) (fun _ h => h.elim) En_ok) (rets1 (x := .int .i64 (IntKind.i64.wrap (1 * 2 ^ (min x3.toNat 64)))) (.inl rfl) (by kernel_rfl) (.pure rfl))
noncomputable def pen_Apply_loop1 (a3 : List Int) (x37 : Int) (x38 : Int) (x39 : Int) (x40 : Int) : Option (((Int × Int × Int) ⊕ (Int × Int × Int)) ⊕ (Int × Int × Int × Int)) :=
    bif (decide (x37 < (a3.length : Int))) then
      (((getI a3 x37).bind fun x41 =>
        (pen_plane x41).bind fun (x42, x43) =>
        bif ((x41 : Int) == 0) then
          (some (.inl (x37, 0, 0, 0)))
        else
          ((bif (decide (x41 ≥ 1)) then
              (some (decide (x41 ≤ 9)))
            else
              (some false) : Option (Bool)).bind fun x44 =>
          bif x44 then
            ((pen_bitOf (IntKind.i64.wrap (x41 - 1))).bind fun x67 =>
            some (.inl (x37, ibits .or .i64 x38 x67, x39, x40)))
          else
            (bif ((x41 : Int) == 22) then
              (some (.inl (x37, ibits .andNot .i64 x38 3, x39, x40)))
            else
              ((bif (decide (x41 ≥ 23)) then
                  (some (decide (x41 ≤ 29)))
                else
                  (some false) : Option (Bool)).bind fun x45 =>
              bif x45 then
                ((pen_bitOf (IntKind.i64.wrap (x41 - 21))).bind fun x65 =>
                some (.inl (x37, ibits .andNot .i64 x38 x65, x39, x40)))
              else
                ((bif x42 then
                    (some (((x41 : Int) == (IntKind.i64.wrap (x43 + 8))), true))
                  else
                    (some (false, false)) : Option (Bool × Bool)).bind fun (x46, x47) =>
                bif x46 then
                  (req (0 ≤ (IntKind.i64.wrap (x37 + 1)) ∧ (IntKind.i64.wrap (x37 + 1)).toNat ≤ a3.length ∧ a3.length ≤ a3.length) (
                  (pen_colour (sub a3 ((IntKind.i64.wrap (x37 + 1)).toNat) a3.length)).bind fun (x60, x61) =>
                  bif ((x60 : Int) == 0) then
                    (Option.map Sum.inr (some (.inl (.inr (x38, x39, x40)))))
                  else
                    ((pen_Apply_1 x43 x61 x38 x39 x40).bind fun (x62, x63) =>
                    some (.inl (IntKind.i64.wrap (x37 + x60), x38, x62, x63)))))
                else
                  ((bif x47 then
                      (some (((x41 : Int) == (IntKind.i64.wrap (x43 + 9))), true))
                    else
                      (some (false, false)) : Option (Bool × Bool)).bind fun (x48, x49) =>
                  bif x48 then
                    ((pen_Apply_1 x43 0 x38 x39 x40).bind fun (x57, x58) =>
                    some (.inl (x37, x38, x57, x58)))
                  else
                    ((bif x49 then
                        (some ((decide (x41 < 90)), true))
                      else
                        (some (false, false)) : Option (Bool × Bool)).bind fun (x50, x51) =>
                    bif x50 then
                      ((pen_Apply_1 x43 (IntKind.i64.wrap ((IntKind.i64.wrap (x41 - x43)) + 1)) x38 x39 x40).bind fun (x54, x55) =>
                      some (.inl (x37, x38, x54, x55)))
                    else
                      (bif x51 then
                        ((pen_Apply_1 x43 (IntKind.i64.wrap ((IntKind.i64.wrap ((IntKind.i64.wrap (x41 - x43)) - 60)) + 9)) x38 x39 x40).bind fun (x52, x53) =>
                        some (.inl (x37, x38, x52, x53)))
                      else
                        (some (.inl (x37, x38, x39, x40)))))))))) : Option ((Int × Int × Int × Int) ⊕ _)).bind fun z => match z with
      | .inr z => some z
      | .inl (x69, x70, x71, x72) =>
      some (.inr (IntKind.i64.wrap (x69 + 1), x70, x71, x72)))
    else
      (some (.inl (.inl (x38, x39, x40))))
noncomputable def pen_Apply (a0 : Int) (a1 : Int) (a2 : Int) (a3 : List Int) : Option (Int × Int × Int) :=
  (pen_fine a0 a1 a2).bind fun (x1, x2, x3) =>
  bif (((a3.length : Int) : Int) == 0) then
    (some (0, 0, 0))
  else
    ((loopO (fun z => match z with | (x37, x38, x39, x40) => pen_Apply_loop1 a3 x37 x38 x39 x40) (0, x1, x2, x3)).bind fun z => match z with
    | (.inl (x78, x79, x80)) =>
      some (x78, x79, x80)
    | (.inr (x81, x82, x83)) =>
      some (x81, x82, x83))
theorem pen_Apply_ok {a0 : Int} {a1 : Int} {a2 : Int} {a3 : List Int} {x85 : Int} {x86 : Int} {x87 : Int} (h : pen_Apply a0 a1 a2 a3 = some (x85, x86, x87)) : Pure En 9 [.agg [.int .i64 a0, .int .i64 a1, .int .i64 a2], .ro (fl (eI .i64) a3) a3.length none] (.agg [.int .i64 x85, .int .i64 x86, .int .i64 x87]) := by
  unfold pen_Apply at h
  refine ACalls_pureW En_ok (fn := Tryd.f9) Tryd.func9 rfl (by simp [Tryd.ntmps9]) ?_
  refine AW_seq ?_
  refine AW_region ?_
  refine AWl_xrun 2 _ _ _ [(4, .ptr 1 0), (2, .ptr 0 0), (0, .agg [.int .i64 a0, .int .i64 a1, .int .i64 a2]), (1, .ro (fl (eI .i64) a3) a3.length none)] [(0, some [.int .i64 a0, .int .i64 a1, .int .i64 a2]), (1, some [.int .i64 0, .int .i64 0, .int .i64 0])] (by kernel_rfl) ?_
  refine AWl_nilK [4, 2, 1] [(4, .ptr 1 0), (2, .ptr 0 0), (1, .ro (fl (eI .i64) a3) a3.length none)] (by kernel_rfl) ?_
  refine athen_n ?_
  refine AW_seq ?_
  refine AW_region ?_
  refine AWl_xrun 1 _ _ _ [(12, .agg [.int .i64 a0, .int .i64 a1, .int .i64 a2]), (4, .ptr 1 0), (2, .ptr 0 0), (1, .ro (fl (eI .i64) a3) a3.length none)] [(0, some [.int .i64 a0, .int .i64 a1, .int .i64 a2]), (1, some [.int .i64 0, .int .i64 0, .int .i64 0])] (by kernel_rfl) ?_
  obtain ⟨⟨x1, x2, x3⟩, h1, h66⟩ := bind_some h
  refine AWl_o (x := .agg [.int .i64 x1, .int .i64 x2, .int .i64 x3]) (wl := []) (AOp_callP En_ok Tryd.call17 (caps := []) (xs := [.agg [.int .i64 a0, .int .i64 a1, .int .i64 a2]]) rfl rfl (pen_fine_ok h1) rfl) (by kernel_rfl) (by kernel_rfl) (by kernel_rfl) ?_
  refine AWl_xrun 1 _ _ _ [(13, .agg [.int .i64 x1, .int .i64 x2, .int .i64 x3]), (12, .agg [.int .i64 a0, .int .i64 a1, .int .i64 a2]), (4, .ptr 1 0), (2, .ptr 0 0), (1, .ro (fl (eI .i64) a3) a3.length none)] [(0, some [.int .i64 x1, .int .i64 x2, .int .i64 x3]), (1, some [.int .i64 0, .int .i64 0, .int .i64 0])] (by kernel_rfl) ?_
  refine AWl_nilK [4, 2, 1] [(4, .ptr 1 0), (2, .ptr 0 0), (1, .ro (fl (eI .i64) a3) a3.length none)] (by kernel_rfl) ?_
  refine athen_n ?_
  refine AW_seq ?_
  refine AW_seq ?_
  refine AW_region ?_
  refine AWl_xrun 3 _ _ _ [(16, .bool (((a3.length : Int) : Int) == 0)), (15, .int .i64 (a3.length : Int)), (14, .ro (fl (eI .i64) a3) a3.length none), (4, .ptr 1 0), (2, .ptr 0 0), (1, .ro (fl (eI .i64) a3) a3.length none)] [(0, some [.int .i64 x1, .int .i64 x2, .int .i64 x3]), (1, some [.int .i64 0, .int .i64 0, .int .i64 0])] (by kernel_rfl) ?_
  refine AWl_nilK [16, 4, 2, 1] [(16, .bool (((a3.length : Int) : Int) == 0)), (4, .ptr 1 0), (2, .ptr 0 0), (1, .ro (fl (eI .i64) a3) a3.length none)] (by kernel_rfl) ?_
  refine athen_n ?_
  cases h2 : (((a3.length : Int) : Int) == 0)
  · have h67 := bif_f h2 h66
    refine AW_condF rfl ?_
    refine AW_skip ?_
    refine athen_n ?_
    refine AW_seq ?_
    refine AW_region ?_
    refine AWl_xrun 2 _ _ _ [(5, .fn 18 [.ptr 0 0]), (18, .fn 18 [.ptr 0 0]), (16, .bool false), (4, .ptr 1 0), (2, .ptr 0 0), (1, .ro (fl (eI .i64) a3) a3.length none)] [(0, some [.int .i64 x1, .int .i64 x2, .int .i64 x3]), (1, some [.int .i64 0, .int .i64 0, .int .i64 0])] (by kernel_rfl) ?_
    refine AWl_nilK [5, 4, 2, 1] [(5, .fn 18 [.ptr 0 0]), (4, .ptr 1 0), (2, .ptr 0 0), (1, .ro (fl (eI .i64) a3) a3.length none)] (by kernel_rfl) ?_
    refine athen_n ?_
    refine AW_seq ?_
    refine AW_seq ?_
    refine AW_region ?_
    refine AWl_xrun 1 _ _ _ [(6, .int .i64 0), (5, .fn 18 [.ptr 0 0]), (4, .ptr 1 0), (2, .ptr 0 0), (1, .ro (fl (eI .i64) a3) a3.length none)] [(0, some [.int .i64 x1, .int .i64 x2, .int .i64 x3]), (1, some [.int .i64 0, .int .i64 0, .int .i64 0])] (by kernel_rfl) ?_
    refine AWl_nilK [6, 5, 4, 2, 1] [(6, .int .i64 0), (5, .fn 18 [.ptr 0 0]), (4, .ptr 1 0), (2, .ptr 0 0), (1, .ro (fl (eI .i64) a3) a3.length none)] (by kernel_rfl) ?_
    refine athen_n ?_
    refine AW_block ?_
    obtain ⟨x84, h65, h68⟩ := bind_some h67
    refine AW_loopM _ (fun z => match z with | (x37, x38, x39, x40) => [(6, .int .i64 x37), (5, .fn 18 [.ptr 0 0]), (4, .ptr 1 0), (2, .ptr 0 0), (1, .ro (fl (eI .i64) a3) a3.length none)]) (fun z => match z with | (x37, x38, x39, x40) => [(0, some [.int .i64 x38, .int .i64 x39, .int .i64 x40]), (1, some [.int .i64 0, .int .i64 0, .int .i64 0])]) (fun z e al L => match z with | (.inl (x78, x79, x80)) => Tgt En (fun _ => False) (.exit 0) [(4, .ptr 1 0), (2, .ptr 0 0)] [(1, some [.int .i64 0, .int .i64 0, .int .i64 0]), (0, some [.int .i64 x78, .int .i64 x79, .int .i64 x80])] e al L | (.inr (x81, x82, x83)) => Tgt En (fun _ => False) .ret [(4, .ptr 1 0)] [(1, some [.int .i64 x81, .int .i64 x82, .int .i64 x83])] e al L) h65 (Weak.ren [] [] (.cons rfl (.pure rfl) (.cons rfl (.fn' (.cons (.ptr (l := 0) (l' := 0) rfl rfl) .nil)) (.cons rfl (.ptr (l := 1) (l' := 1) rfl rfl) (.cons rfl (.ptr (l := 0) (l' := 0) rfl rfl) (.cons rfl (.pure (by simp [pureV, within, withinL, fl_pure])) .nil))))) (.cons rfl (.pure rfl) (.cons rfl (.pure rfl) .nil)) (by kernel_rfl) (fun _ h => h.elim) En_ok) ?_ ?_
    · rintro ⟨x37, x38, x39, x40⟩ x88 h69
      have h70 : pen_Apply_loop1 a3 x37 x38 x39 x40 = some _ := h69
      unfold pen_Apply_loop1 at h70
      refine AW_seq ?_
      refine AW_seq ?_
      refine AW_region ?_
      refine AWl_xrun 4 _ _ _ [(22, .bool (decide (x37 < (a3.length : Int)))), (21, .int .i64 (a3.length : Int)), (20, .ro (fl (eI .i64) a3) a3.length none), (19, .int .i64 x37), (6, .int .i64 x37), (5, .fn 18 [.ptr 0 0]), (4, .ptr 1 0), (2, .ptr 0 0), (1, .ro (fl (eI .i64) a3) a3.length none)] [(0, some [.int .i64 x38, .int .i64 x39, .int .i64 x40]), (1, some [.int .i64 0, .int .i64 0, .int .i64 0])] (by kernel_rfl) ?_
      refine AWl_nilK [22, 6, 5, 4, 2, 1] [(22, .bool (decide (x37 < (a3.length : Int)))), (6, .int .i64 x37), (5, .fn 18 [.ptr 0 0]), (4, .ptr 1 0), (2, .ptr 0 0), (1, .ro (fl (eI .i64) a3) a3.length none)] (by kernel_rfl) ?_
      refine athen_n ?_
      cases h34 : (decide (x37 < (a3.length : Int)))
      · have h71 := bif_f h34 h70
        refine AW_condF rfl ?_
        refine AW_exit ?_
        refine athen_exit ?_
        obtain rfl := Option.some.inj h71
        refine Round.off (by simp) (Tgt.mk (Weak.ren [] [] (.cons rfl (.ptr (l := 1) (l' := 1) rfl rfl) (.cons rfl (.ptr (l := 0) (l' := 0) rfl rfl) .nil)) (.cons rfl (.pure rfl) (.cons rfl (.pure rfl) .nil)) (by kernel_rfl) (fun _ h => h.elim) En_ok))
      · have h72 := bif_t h34 h70
        refine AW_condT rfl ?_
        refine AW_skip ?_
        refine athen_n ?_
        obtain ⟨x73, h64, h73⟩ := bind_some h72
        refine AW_meetS (fun z => match z with | (x69, x70, x71, x72) => [(6, .int .i64 x69), (5, .fn 18 [.ptr 0 0]), (4, .ptr 1 0), (2, .ptr 0 0), (1, .ro (fl (eI .i64) a3) a3.length none)]) (fun z => match z with | (x69, x70, x71, x72) => [(0, some [.int .i64 x70, .int .i64 x71, .int .i64 x72]), (1, some [.int .i64 0, .int .i64 0, .int .i64 0])]) x73 ?_ ?_
        · skip
          refine AW_block ?_
          refine AW_seq ?_
          refine AW_region ?_
          refine AWl_xrun 2 _ _ _ [(26, .int .i64 x37), (25, .ro (fl (eI .i64) a3) a3.length none), (22, .bool true), (6, .int .i64 x37), (5, .fn 18 [.ptr 0 0]), (4, .ptr 1 0), (2, .ptr 0 0), (1, .ro (fl (eI .i64) a3) a3.length none)] [(0, some [.int .i64 x38, .int .i64 x39, .int .i64 x40]), (1, some [.int .i64 0, .int .i64 0, .int .i64 0])] (by kernel_rfl) ?_
          obtain ⟨x41, h35, h74⟩ := bind_some h64
          refine AWl_o (x := .rop (fl (eI .i64) a3) (x37.toNat * 1)) (wl := []) (AOp_idxRo (e := (eI .i64)) (l := a3) 1 rfl rfl rfl rfl rfl rfl h35) (by kernel_rfl) (by kernel_rfl) (by kernel_rfl) ?_
          refine AWl_o (x := .int .i64 x41) (wl := []) (AOp_loadEl (e := (eI .i64)) (l := a3) (i := x37) 0 1 1 rfl rfl rfl rfl rfl h35 rfl (by kernel_rfl) (by kernel_rfl)) (by kernel_rfl) (by kernel_rfl) (by kernel_rfl) ?_
          refine AWl_xrun 1 _ _ _ [(7, .int .i64 x41), (28, .int .i64 x41), (27, .rop (fl (eI .i64) a3) (x37.toNat * 1)), (26, .int .i64 x37), (25, .ro (fl (eI .i64) a3) a3.length none), (22, .bool true), (6, .int .i64 x37), (5, .fn 18 [.ptr 0 0]), (4, .ptr 1 0), (2, .ptr 0 0), (1, .ro (fl (eI .i64) a3) a3.length none)] [(0, some [.int .i64 x38, .int .i64 x39, .int .i64 x40]), (1, some [.int .i64 0, .int .i64 0, .int .i64 0])] (by kernel_rfl) ?_
          refine AWl_nilK [7, 6, 5, 4, 2, 1] [(7, .int .i64 x41), (6, .int .i64 x37), (5, .fn 18 [.ptr 0 0]), (4, .ptr 1 0), (2, .ptr 0 0), (1, .ro (fl (eI .i64) a3) a3.length none)] (by kernel_rfl) ?_
          refine athen_n ?_
          refine AW_seq ?_
          refine AW_region ?_
          refine AWl_xrun 1 _ _ _ [(30, .int .i64 x41), (7, .int .i64 x41), (6, .int .i64 x37), (5, .fn 18 [.ptr 0 0]), (4, .ptr 1 0), (2, .ptr 0 0), (1, .ro (fl (eI .i64) a3) a3.length none)] [(0, some [.int .i64 x38, .int .i64 x39, .int .i64 x40]), (1, some [.int .i64 0, .int .i64 0, .int .i64 0])] (by kernel_rfl) ?_
          obtain ⟨⟨x42, x43⟩, h36, h75⟩ := bind_some h74
          refine AWl_o (x := .tup [.int .i64 x43, .bool x42]) (wl := []) (AOp_callP En_ok Tryd.call19 (caps := []) (xs := [.int .i64 x41]) rfl rfl (pen_plane_ok h36) rfl) (by kernel_rfl) (by kernel_rfl) (by kernel_rfl) ?_
          refine AWl_xrun 5 _ _ _ [(9, .bool x42), (8, .int .i64 x43), (33, .bool x42), (32, .int .i64 x43), (29, .tup [.int .i64 x43, .bool x42]), (31, .tup [.int .i64 x43, .bool x42]), (30, .int .i64 x41), (7, .int .i64 x41), (6, .int .i64 x37), (5, .fn 18 [.ptr 0 0]), (4, .ptr 1 0), (2, .ptr 0 0), (1, .ro (fl (eI .i64) a3) a3.length none)] [(0, some [.int .i64 x38, .int .i64 x39, .int .i64 x40]), (1, some [.int .i64 0, .int .i64 0, .int .i64 0])] (by kernel_rfl) ?_
          refine AWl_nilK [9, 8, 7, 6, 5, 4, 2, 1] [(9, .bool x42), (8, .int .i64 x43), (7, .int .i64 x41), (6, .int .i64 x37), (5, .fn 18 [.ptr 0 0]), (4, .ptr 1 0), (2, .ptr 0 0), (1, .ro (fl (eI .i64) a3) a3.length none)] (by kernel_rfl) ?_
          refine athen_n ?_
          refine AW_block ?_
          refine AW_seq ?_
          refine AW_region ?_
          refine AWl_xrun 3 _ _ _ [(34, .bool ((x41 : Int) == 0)), (36, .bool ((x41 : Int) == 0)), (35, .int .i64 x41), (9, .bool x42), (8, .int .i64 x43), (7, .int .i64 x41), (6, .int .i64 x37), (5, .fn 18 [.ptr 0 0]), (4, .ptr 1 0), (2, .ptr 0 0), (1, .ro (fl (eI .i64) a3) a3.length none)] [(0, some [.int .i64 x38, .int .i64 x39, .int .i64 x40]), (1, some [.int .i64 0, .int .i64 0, .int .i64 0])] (by kernel_rfl) ?_
          refine AWl_nilK [34, 9, 8, 7, 6, 5, 4, 2, 1] [(34, .bool ((x41 : Int) == 0)), (9, .bool x42), (8, .int .i64 x43), (7, .int .i64 x41), (6, .int .i64 x37), (5, .fn 18 [.ptr 0 0]), (4, .ptr 1 0), (2, .ptr 0 0), (1, .ro (fl (eI .i64) a3) a3.length none)] (by kernel_rfl) ?_
          refine athen_n ?_
          cases h37 : ((x41 : Int) == 0)
          · have h76 := bif_f h37 h75
            refine AW_condF rfl ?_
            obtain ⟨x44, h63, h77⟩ := bind_some h76
            refine AW_meetN (fun x44 => [(38, .bool x44), (9, .bool x42), (8, .int .i64 x43), (7, .int .i64 x41), (6, .int .i64 x37), (5, .fn 18 [.ptr 0 0]), (4, .ptr 1 0), (2, .ptr 0 0), (1, .ro (fl (eI .i64) a3) a3.length none)]) (fun x44 => [(0, some [.int .i64 x38, .int .i64 x39, .int .i64 x40]), (1, some [.int .i64 0, .int .i64 0, .int .i64 0])]) x44 ?_ ?_
            · skip
              refine AW_region ?_
              refine AWl_xrun 3 _ _ _ [(41, .bool (decide (x41 ≥ 1))), (40, .bool (decide (x41 ≥ 1))), (39, .int .i64 x41), (34, .bool false), (9, .bool x42), (8, .int .i64 x43), (7, .int .i64 x41), (6, .int .i64 x37), (5, .fn 18 [.ptr 0 0]), (4, .ptr 1 0), (2, .ptr 0 0), (1, .ro (fl (eI .i64) a3) a3.length none)] [(0, some [.int .i64 x38, .int .i64 x39, .int .i64 x40]), (1, some [.int .i64 0, .int .i64 0, .int .i64 0])] (by kernel_rfl) ?_
              cases h38 : (decide (x41 ≥ 1))
              · have h78 := bif_f h38 h63
                refine AWl_xrun 4 _ _ _ [(38, .bool false), (44, .bool false), (43, .dead), (42, .dead), (41, .bool false), (40, .bool false), (39, .int .i64 x41), (34, .bool false), (9, .bool x42), (8, .int .i64 x43), (7, .int .i64 x41), (6, .int .i64 x37), (5, .fn 18 [.ptr 0 0]), (4, .ptr 1 0), (2, .ptr 0 0), (1, .ro (fl (eI .i64) a3) a3.length none)] [(0, some [.int .i64 x38, .int .i64 x39, .int .i64 x40]), (1, some [.int .i64 0, .int .i64 0, .int .i64 0])] (by kernel_rfl) ?_
                refine AWl_nilK [38, 9, 8, 7, 6, 5, 4, 2, 1] [(38, .bool false), (9, .bool x42), (8, .int .i64 x43), (7, .int .i64 x41), (6, .int .i64 x37), (5, .fn 18 [.ptr 0 0]), (4, .ptr 1 0), (2, .ptr 0 0), (1, .ro (fl (eI .i64) a3) a3.length none)] (by kernel_rfl) ?_
                obtain rfl := Option.some.inj h78
                refine Tgt.mk (Weak.ren [] [] (.cons rfl (.pure rfl) (.cons rfl (.pure rfl) (.cons rfl (.pure rfl) (.cons rfl (.pure rfl) (.cons rfl (.pure rfl) (.cons rfl (.fn' (.cons (.ptr (l := 0) (l' := 0) rfl rfl) .nil)) (.cons rfl (.ptr (l := 1) (l' := 1) rfl rfl) (.cons rfl (.ptr (l := 0) (l' := 0) rfl rfl) (.cons rfl (.pure (by simp [pureV, within, withinL, fl_pure])) .nil))))))))) (.cons rfl (.pure rfl) (.cons rfl (.pure rfl) .nil)) (by kernel_rfl) (fun _ h => h.elim) En_ok)
              · have h79 := bif_t h38 h63
                refine AWl_xrun 4 _ _ _ [(38, .bool (decide (x41 ≤ 9))), (44, .bool (decide (x41 ≤ 9))), (43, .bool (decide (x41 ≤ 9))), (42, .int .i64 x41), (41, .bool true), (40, .bool true), (39, .int .i64 x41), (34, .bool false), (9, .bool x42), (8, .int .i64 x43), (7, .int .i64 x41), (6, .int .i64 x37), (5, .fn 18 [.ptr 0 0]), (4, .ptr 1 0), (2, .ptr 0 0), (1, .ro (fl (eI .i64) a3) a3.length none)] [(0, some [.int .i64 x38, .int .i64 x39, .int .i64 x40]), (1, some [.int .i64 0, .int .i64 0, .int .i64 0])] (by kernel_rfl) ?_
                refine AWl_nilK [38, 43, 42, 9, 8, 7, 6, 5, 4, 2, 1] [(38, .bool (decide (x41 ≤ 9))), (43, .bool (decide (x41 ≤ 9))), (42, .int .i64 x41), (9, .bool x42), (8, .int .i64 x43), (7, .int .i64 x41), (6, .int .i64 x37), (5, .fn 18 [.ptr 0 0]), (4, .ptr 1 0), (2, .ptr 0 0), (1, .ro (fl (eI .i64) a3) a3.length none)] (by kernel_rfl) ?_
                obtain rfl := Option.some.inj h79
                refine Tgt.mk (Weak.ren [] [] (.cons rfl (.pure rfl) (.cons rfl (.pure rfl) (.cons rfl (.pure rfl) (.cons rfl (.pure rfl) (.cons rfl (.pure rfl) (.cons rfl (.fn' (.cons (.ptr (l := 0) (l' := 0) rfl rfl) .nil)) (.cons rfl (.ptr (l := 1) (l' := 1) rfl rfl) (.cons rfl (.ptr (l := 0) (l' := 0) rfl rfl) (.cons rfl (.pure (by simp [pureV, within, withinL, fl_pure])) .nil))))))))) (.cons rfl (.pure rfl) (.cons rfl (.pure rfl) .nil)) (by kernel_rfl) (fun _ h => h.elim) En_ok)
            · skip
              cases h39 : x44
              · have h80 := bif_f h39 h77
                refine AW_condF rfl ?_
                refine AW_seq ?_
                refine AW_region ?_
                refine AWl_xrun 3 _ _ _ [(52, .bool ((x41 : Int) == 22)), (54, .bool ((x41 : Int) == 22)), (53, .int .i64 x41), (38, .bool false), (9, .bool x42), (8, .int .i64 x43), (7, .int .i64 x41), (6, .int .i64 x37), (5, .fn 18 [.ptr 0 0]), (4, .ptr 1 0), (2, .ptr 0 0), (1, .ro (fl (eI .i64) a3) a3.length none)] [(0, some [.int .i64 x38, .int .i64 x39, .int .i64 x40]), (1, some [.int .i64 0, .int .i64 0, .int .i64 0])] (by kernel_rfl) ?_
                refine AWl_nilK [52, 9, 8, 7, 6, 5, 4, 2, 1] [(52, .bool ((x41 : Int) == 22)), (9, .bool x42), (8, .int .i64 x43), (7, .int .i64 x41), (6, .int .i64 x37), (5, .fn 18 [.ptr 0 0]), (4, .ptr 1 0), (2, .ptr 0 0), (1, .ro (fl (eI .i64) a3) a3.length none)] (by kernel_rfl) ?_
                refine athen_n ?_
                cases h40 : ((x41 : Int) == 22)
                · have h81 := bif_f h40 h80
                  refine AW_condF rfl ?_
                  obtain ⟨x45, h61, h82⟩ := bind_some h81
                  refine AW_meetN (fun x45 => [(59, .bool x45), (9, .bool x42), (8, .int .i64 x43), (7, .int .i64 x41), (6, .int .i64 x37), (5, .fn 18 [.ptr 0 0]), (4, .ptr 1 0), (2, .ptr 0 0), (1, .ro (fl (eI .i64) a3) a3.length none)]) (fun x45 => [(0, some [.int .i64 x38, .int .i64 x39, .int .i64 x40]), (1, some [.int .i64 0, .int .i64 0, .int .i64 0])]) x45 ?_ ?_
                  · skip
                    refine AW_region ?_
                    refine AWl_xrun 3 _ _ _ [(62, .bool (decide (x41 ≥ 23))), (61, .bool (decide (x41 ≥ 23))), (60, .int .i64 x41), (52, .bool false), (9, .bool x42), (8, .int .i64 x43), (7, .int .i64 x41), (6, .int .i64 x37), (5, .fn 18 [.ptr 0 0]), (4, .ptr 1 0), (2, .ptr 0 0), (1, .ro (fl (eI .i64) a3) a3.length none)] [(0, some [.int .i64 x38, .int .i64 x39, .int .i64 x40]), (1, some [.int .i64 0, .int .i64 0, .int .i64 0])] (by kernel_rfl) ?_
                    cases h41 : (decide (x41 ≥ 23))
                    · have h83 := bif_f h41 h61
                      refine AWl_xrun 4 _ _ _ [(59, .bool false), (65, .bool false), (64, .dead), (63, .dead), (62, .bool false), (61, .bool false), (60, .int .i64 x41), (52, .bool false), (9, .bool x42), (8, .int .i64 x43), (7, .int .i64 x41), (6, .int .i64 x37), (5, .fn 18 [.ptr 0 0]), (4, .ptr 1 0), (2, .ptr 0 0), (1, .ro (fl (eI .i64) a3) a3.length none)] [(0, some [.int .i64 x38, .int .i64 x39, .int .i64 x40]), (1, some [.int .i64 0, .int .i64 0, .int .i64 0])] (by kernel_rfl) ?_
                      refine AWl_nilK [59, 9, 8, 7, 6, 5, 4, 2, 1] [(59, .bool false), (9, .bool x42), (8, .int .i64 x43), (7, .int .i64 x41), (6, .int .i64 x37), (5, .fn 18 [.ptr 0 0]), (4, .ptr 1 0), (2, .ptr 0 0), (1, .ro (fl (eI .i64) a3) a3.length none)] (by kernel_rfl) ?_
                      obtain rfl := Option.some.inj h83
                      refine Tgt.mk (Weak.ren [] [] (.cons rfl (.pure rfl) (.cons rfl (.pure rfl) (.cons rfl (.pure rfl) (.cons rfl (.pure rfl) (.cons rfl (.pure rfl) (.cons rfl (.fn' (.cons (.ptr (l := 0) (l' := 0) rfl rfl) .nil)) (.cons rfl (.ptr (l := 1) (l' := 1) rfl rfl) (.cons rfl (.ptr (l := 0) (l' := 0) rfl rfl) (.cons rfl (.pure (by simp [pureV, within, withinL, fl_pure])) .nil))))))))) (.cons rfl (.pure rfl) (.cons rfl (.pure rfl) .nil)) (by kernel_rfl) (fun _ h => h.elim) En_ok)
                    · have h84 := bif_t h41 h61
                      refine AWl_xrun 4 _ _ _ [(59, .bool (decide (x41 ≤ 29))), (65, .bool (decide (x41 ≤ 29))), (64, .bool (decide (x41 ≤ 29))), (63, .int .i64 x41), (62, .bool true), (61, .bool true), (60, .int .i64 x41), (52, .bool false), (9, .bool x42), (8, .int .i64 x43), (7, .int .i64 x41), (6, .int .i64 x37), (5, .fn 18 [.ptr 0 0]), (4, .ptr 1 0), (2, .ptr 0 0), (1, .ro (fl (eI .i64) a3) a3.length none)] [(0, some [.int .i64 x38, .int .i64 x39, .int .i64 x40]), (1, some [.int .i64 0, .int .i64 0, .int .i64 0])] (by kernel_rfl) ?_
                      refine AWl_nilK [59, 64, 63, 9, 8, 7, 6, 5, 4, 2, 1] [(59, .bool (decide (x41 ≤ 29))), (64, .bool (decide (x41 ≤ 29))), (63, .int .i64 x41), (9, .bool x42), (8, .int .i64 x43), (7, .int .i64 x41), (6, .int .i64 x37), (5, .fn 18 [.ptr 0 0]), (4, .ptr 1 0), (2, .ptr 0 0), (1, .ro (fl (eI .i64) a3) a3.length none)] (by kernel_rfl) ?_
                      obtain rfl := Option.some.inj h84
                      refine Tgt.mk (Weak.ren [] [] (.cons rfl (.pure rfl) (.cons rfl (.pure rfl) (.cons rfl (.pure rfl) (.cons rfl (.pure rfl) (.cons rfl (.pure rfl) (.cons rfl (.fn' (.cons (.ptr (l := 0) (l' := 0) rfl rfl) .nil)) (.cons rfl (.ptr (l := 1) (l' := 1) rfl rfl) (.cons rfl (.ptr (l := 0) (l' := 0) rfl rfl) (.cons rfl (.pure (by simp [pureV, within, withinL, fl_pure])) .nil))))))))) (.cons rfl (.pure rfl) (.cons rfl (.pure rfl) .nil)) (by kernel_rfl) (fun _ h => h.elim) En_ok)
                  · skip
                    cases h42 : x45
                    · have h85 := bif_f h42 h82
                      refine AW_condF rfl ?_
                      obtain ⟨⟨x46, x47⟩, h59, h86⟩ := bind_some h85
                      refine AW_meetN (fun z => match z with | (x46, x47) => [(73, .bool x46), (9, .bool x47), (8, .int .i64 x43), (7, .int .i64 x41), (6, .int .i64 x37), (5, .fn 18 [.ptr 0 0]), (4, .ptr 1 0), (2, .ptr 0 0), (1, .ro (fl (eI .i64) a3) a3.length none)]) (fun z => match z with | (x46, x47) => [(0, some [.int .i64 x38, .int .i64 x39, .int .i64 x40]), (1, some [.int .i64 0, .int .i64 0, .int .i64 0])]) (x46, x47) ?_ ?_
                      · skip
                        refine AW_region ?_
                        refine AWl_xrun 2 _ _ _ [(75, .bool x42), (74, .bool x42), (59, .bool false), (9, .bool x42), (8, .int .i64 x43), (7, .int .i64 x41), (6, .int .i64 x37), (5, .fn 18 [.ptr 0 0]), (4, .ptr 1 0), (2, .ptr 0 0), (1, .ro (fl (eI .i64) a3) a3.length none)] [(0, some [.int .i64 x38, .int .i64 x39, .int .i64 x40]), (1, some [.int .i64 0, .int .i64 0, .int .i64 0])] (by kernel_rfl) ?_
                        cases h43 : x42
                        · have h87 := bif_f h43 h59
                          refine AWl_xrun 6 _ _ _ [(73, .bool false), (80, .bool false), (79, .dead), (78, .dead), (77, .dead), (76, .dead), (75, .bool false), (74, .bool false), (59, .bool false), (9, .bool false), (8, .int .i64 x43), (7, .int .i64 x41), (6, .int .i64 x37), (5, .fn 18 [.ptr 0 0]), (4, .ptr 1 0), (2, .ptr 0 0), (1, .ro (fl (eI .i64) a3) a3.length none)] [(0, some [.int .i64 x38, .int .i64 x39, .int .i64 x40]), (1, some [.int .i64 0, .int .i64 0, .int .i64 0])] (by kernel_rfl) ?_
                          refine AWl_nilK [73, 9, 8, 7, 6, 5, 4, 2, 1] [(73, .bool false), (9, .bool false), (8, .int .i64 x43), (7, .int .i64 x41), (6, .int .i64 x37), (5, .fn 18 [.ptr 0 0]), (4, .ptr 1 0), (2, .ptr 0 0), (1, .ro (fl (eI .i64) a3) a3.length none)] (by kernel_rfl) ?_
                          obtain ⟨rfl, rfl⟩ := Prod.mk.inj (Option.some.inj h87)
                          refine Tgt.mk (Weak.ren [] [] (.cons rfl (.pure rfl) (.cons rfl (.pure rfl) (.cons rfl (.pure rfl) (.cons rfl (.pure rfl) (.cons rfl (.pure rfl) (.cons rfl (.fn' (.cons (.ptr (l := 0) (l' := 0) rfl rfl) .nil)) (.cons rfl (.ptr (l := 1) (l' := 1) rfl rfl) (.cons rfl (.ptr (l := 0) (l' := 0) rfl rfl) (.cons rfl (.pure (by simp [pureV, within, withinL, fl_pure])) .nil))))))))) (.cons rfl (.pure rfl) (.cons rfl (.pure rfl) .nil)) (by kernel_rfl) (fun _ h => h.elim) En_ok)
                        · have h88 := bif_t h43 h59
                          refine AWl_xrun 6 _ _ _ [(73, .bool ((x41 : Int) == (IntKind.i64.wrap (x43 + 8)))), (80, .bool ((x41 : Int) == (IntKind.i64.wrap (x43 + 8)))), (79, .bool ((x41 : Int) == (IntKind.i64.wrap (x43 + 8)))), (78, .int .i64 (IntKind.i64.wrap (x43 + 8))), (77, .int .i64 x43), (76, .int .i64 x41), (75, .bool true), (74, .bool true), (59, .bool false), (9, .bool true), (8, .int .i64 x43), (7, .int .i64 x41), (6, .int .i64 x37), (5, .fn 18 [.ptr 0 0]), (4, .ptr 1 0), (2, .ptr 0 0), (1, .ro (fl (eI .i64) a3) a3.length none)] [(0, some [.int .i64 x38, .int .i64 x39, .int .i64 x40]), (1, some [.int .i64 0, .int .i64 0, .int .i64 0])] (by kernel_rfl) ?_
                          refine AWl_nilK [73, 79, 78, 77, 76, 9, 8, 7, 6, 5, 4, 2, 1] [(73, .bool ((x41 : Int) == (IntKind.i64.wrap (x43 + 8)))), (79, .bool ((x41 : Int) == (IntKind.i64.wrap (x43 + 8)))), (78, .int .i64 (IntKind.i64.wrap (x43 + 8))), (77, .int .i64 x43), (76, .int .i64 x41), (9, .bool true), (8, .int .i64 x43), (7, .int .i64 x41), (6, .int .i64 x37), (5, .fn 18 [.ptr 0 0]), (4, .ptr 1 0), (2, .ptr 0 0), (1, .ro (fl (eI .i64) a3) a3.length none)] (by kernel_rfl) ?_
                          obtain ⟨rfl, rfl⟩ := Prod.mk.inj (Option.some.inj h88)
                          refine Tgt.mk (Weak.ren [] [] (.cons rfl (.pure rfl) (.cons rfl (.pure rfl) (.cons rfl (.pure rfl) (.cons rfl (.pure rfl) (.cons rfl (.pure rfl) (.cons rfl (.fn' (.cons (.ptr (l := 0) (l' := 0) rfl rfl) .nil)) (.cons rfl (.ptr (l := 1) (l' := 1) rfl rfl) (.cons rfl (.ptr (l := 0) (l' := 0) rfl rfl) (.cons rfl (.pure (by simp [pureV, within, withinL, fl_pure])) .nil))))))))) (.cons rfl (.pure rfl) (.cons rfl (.pure rfl) .nil)) (by kernel_rfl) (fun _ h => h.elim) En_ok)
                      · skip
                        cases h44 : x46
                        · have h89 := bif_f h44 h86
                          refine AW_condF rfl ?_
                          obtain ⟨⟨x48, x49⟩, h54, h90⟩ := bind_some h89
                          refine AW_meetN (fun z => match z with | (x48, x49) => [(99, .bool x48), (9, .bool x49), (8, .int .i64 x43), (7, .int .i64 x41), (6, .int .i64 x37), (5, .fn 18 [.ptr 0 0]), (4, .ptr 1 0), (2, .ptr 0 0), (1, .ro (fl (eI .i64) a3) a3.length none)]) (fun z => match z with | (x48, x49) => [(0, some [.int .i64 x38, .int .i64 x39, .int .i64 x40]), (1, some [.int .i64 0, .int .i64 0, .int .i64 0])]) (x48, x49) ?_ ?_
                          · skip
                            refine AW_region ?_
                            refine AWl_xrun 2 _ _ _ [(101, .bool x47), (100, .bool x47), (73, .bool false), (9, .bool x47), (8, .int .i64 x43), (7, .int .i64 x41), (6, .int .i64 x37), (5, .fn 18 [.ptr 0 0]), (4, .ptr 1 0), (2, .ptr 0 0), (1, .ro (fl (eI .i64) a3) a3.length none)] [(0, some [.int .i64 x38, .int .i64 x39, .int .i64 x40]), (1, some [.int .i64 0, .int .i64 0, .int .i64 0])] (by kernel_rfl) ?_
                            cases h45 : x47
                            · have h91 := bif_f h45 h54
                              refine AWl_xrun 6 _ _ _ [(99, .bool false), (106, .bool false), (105, .dead), (104, .dead), (103, .dead), (102, .dead), (101, .bool false), (100, .bool false), (73, .bool false), (9, .bool false), (8, .int .i64 x43), (7, .int .i64 x41), (6, .int .i64 x37), (5, .fn 18 [.ptr 0 0]), (4, .ptr 1 0), (2, .ptr 0 0), (1, .ro (fl (eI .i64) a3) a3.length none)] [(0, some [.int .i64 x38, .int .i64 x39, .int .i64 x40]), (1, some [.int .i64 0, .int .i64 0, .int .i64 0])] (by kernel_rfl) ?_
                              refine AWl_nilK [99, 9, 8, 7, 6, 5, 4, 2, 1] [(99, .bool false), (9, .bool false), (8, .int .i64 x43), (7, .int .i64 x41), (6, .int .i64 x37), (5, .fn 18 [.ptr 0 0]), (4, .ptr 1 0), (2, .ptr 0 0), (1, .ro (fl (eI .i64) a3) a3.length none)] (by kernel_rfl) ?_
                              obtain ⟨rfl, rfl⟩ := Prod.mk.inj (Option.some.inj h91)
                              refine Tgt.mk (Weak.ren [] [] (.cons rfl (.pure rfl) (.cons rfl (.pure rfl) (.cons rfl (.pure rfl) (.cons rfl (.pure rfl) (.cons rfl (.pure rfl) (.cons rfl (.fn' (.cons (.ptr (l := 0) (l' := 0) rfl rfl) .nil)) (.cons rfl (.ptr (l := 1) (l' := 1) rfl rfl) (.cons rfl (.ptr (l := 0) (l' := 0) rfl rfl) (.cons rfl (.pure (by simp [pureV, within, withinL, fl_pure])) .nil))))))))) (.cons rfl (.pure rfl) (.cons rfl (.pure rfl) .nil)) (by kernel_rfl) (fun _ h => h.elim) En_ok)
                            · have h92 := bif_t h45 h54
                              refine AWl_xrun 6 _ _ _ [(99, .bool ((x41 : Int) == (IntKind.i64.wrap (x43 + 9)))), (106, .bool ((x41 : Int) == (IntKind.i64.wrap (x43 + 9)))), (105, .bool ((x41 : Int) == (IntKind.i64.wrap (x43 + 9)))), (104, .int .i64 (IntKind.i64.wrap (x43 + 9))), (103, .int .i64 x43), (102, .int .i64 x41), (101, .bool true), (100, .bool true), (73, .bool false), (9, .bool true), (8, .int .i64 x43), (7, .int .i64 x41), (6, .int .i64 x37), (5, .fn 18 [.ptr 0 0]), (4, .ptr 1 0), (2, .ptr 0 0), (1, .ro (fl (eI .i64) a3) a3.length none)] [(0, some [.int .i64 x38, .int .i64 x39, .int .i64 x40]), (1, some [.int .i64 0, .int .i64 0, .int .i64 0])] (by kernel_rfl) ?_
                              refine AWl_nilK [99, 105, 104, 103, 102, 9, 8, 7, 6, 5, 4, 2, 1] [(99, .bool ((x41 : Int) == (IntKind.i64.wrap (x43 + 9)))), (105, .bool ((x41 : Int) == (IntKind.i64.wrap (x43 + 9)))), (104, .int .i64 (IntKind.i64.wrap (x43 + 9))), (103, .int .i64 x43), (102, .int .i64 x41), (9, .bool true), (8, .int .i64 x43), (7, .int .i64 x41), (6, .int .i64 x37), (5, .fn 18 [.ptr 0 0]), (4, .ptr 1 0), (2, .ptr 0 0), (1, .ro (fl (eI .i64) a3) a3.length none)] (by kernel_rfl) ?_
                              obtain ⟨rfl, rfl⟩ := Prod.mk.inj (Option.some.inj h92)
                              refine Tgt.mk (Weak.ren [] [] (.cons rfl (.pure rfl) (.cons rfl (.pure rfl) (.cons rfl (.pure rfl) (.cons rfl (.pure rfl) (.cons rfl (.pure rfl) (.cons rfl (.fn' (.cons (.ptr (l := 0) (l' := 0) rfl rfl) .nil)) (.cons rfl (.ptr (l := 1) (l' := 1) rfl rfl) (.cons rfl (.ptr (l := 0) (l' := 0) rfl rfl) (.cons rfl (.pure (by simp [pureV, within, withinL, fl_pure])) .nil))))))))) (.cons rfl (.pure rfl) (.cons rfl (.pure rfl) .nil)) (by kernel_rfl) (fun _ h => h.elim) En_ok)
                          · skip
                            cases h46 : x48
                            · have h93 := bif_f h46 h90
                              refine AW_condF rfl ?_
                              obtain ⟨⟨x50, x51⟩, h52, h94⟩ := bind_some h93
                              refine AW_meetN (fun z => match z with | (x50, x51) => [(110, .bool x50), (9, .bool x51), (8, .int .i64 x43), (7, .int .i64 x41), (6, .int .i64 x37), (5, .fn 18 [.ptr 0 0]), (4, .ptr 1 0), (2, .ptr 0 0), (1, .ro (fl (eI .i64) a3) a3.length none)]) (fun z => match z with | (x50, x51) => [(0, some [.int .i64 x38, .int .i64 x39, .int .i64 x40]), (1, some [.int .i64 0, .int .i64 0, .int .i64 0])]) (x50, x51) ?_ ?_
                              · skip
                                refine AW_region ?_
                                refine AWl_xrun 2 _ _ _ [(112, .bool x49), (111, .bool x49), (99, .bool false), (9, .bool x49), (8, .int .i64 x43), (7, .int .i64 x41), (6, .int .i64 x37), (5, .fn 18 [.ptr 0 0]), (4, .ptr 1 0), (2, .ptr 0 0), (1, .ro (fl (eI .i64) a3) a3.length none)] [(0, some [.int .i64 x38, .int .i64 x39, .int .i64 x40]), (1, some [.int .i64 0, .int .i64 0, .int .i64 0])] (by kernel_rfl) ?_
                                cases h47 : x49
                                · have h95 := bif_f h47 h52
                                  refine AWl_xrun 4 _ _ _ [(110, .bool false), (115, .bool false), (114, .dead), (113, .dead), (112, .bool false), (111, .bool false), (99, .bool false), (9, .bool false), (8, .int .i64 x43), (7, .int .i64 x41), (6, .int .i64 x37), (5, .fn 18 [.ptr 0 0]), (4, .ptr 1 0), (2, .ptr 0 0), (1, .ro (fl (eI .i64) a3) a3.length none)] [(0, some [.int .i64 x38, .int .i64 x39, .int .i64 x40]), (1, some [.int .i64 0, .int .i64 0, .int .i64 0])] (by kernel_rfl) ?_
                                  refine AWl_nilK [110, 9, 8, 7, 6, 5, 4, 2, 1] [(110, .bool false), (9, .bool false), (8, .int .i64 x43), (7, .int .i64 x41), (6, .int .i64 x37), (5, .fn 18 [.ptr 0 0]), (4, .ptr 1 0), (2, .ptr 0 0), (1, .ro (fl (eI .i64) a3) a3.length none)] (by kernel_rfl) ?_
                                  obtain ⟨rfl, rfl⟩ := Prod.mk.inj (Option.some.inj h95)
                                  refine Tgt.mk (Weak.ren [] [] (.cons rfl (.pure rfl) (.cons rfl (.pure rfl) (.cons rfl (.pure rfl) (.cons rfl (.pure rfl) (.cons rfl (.pure rfl) (.cons rfl (.fn' (.cons (.ptr (l := 0) (l' := 0) rfl rfl) .nil)) (.cons rfl (.ptr (l := 1) (l' := 1) rfl rfl) (.cons rfl (.ptr (l := 0) (l' := 0) rfl rfl) (.cons rfl (.pure (by simp [pureV, within, withinL, fl_pure])) .nil))))))))) (.cons rfl (.pure rfl) (.cons rfl (.pure rfl) .nil)) (by kernel_rfl) (fun _ h => h.elim) En_ok)
                                · have h96 := bif_t h47 h52
                                  refine AWl_xrun 4 _ _ _ [(110, .bool (decide (x41 < 90))), (115, .bool (decide (x41 < 90))), (114, .bool (decide (x41 < 90))), (113, .int .i64 x41), (112, .bool true), (111, .bool true), (99, .bool false), (9, .bool true), (8, .int .i64 x43), (7, .int .i64 x41), (6, .int .i64 x37), (5, .fn 18 [.ptr 0 0]), (4, .ptr 1 0), (2, .ptr 0 0), (1, .ro (fl (eI .i64) a3) a3.length none)] [(0, some [.int .i64 x38, .int .i64 x39, .int .i64 x40]), (1, some [.int .i64 0, .int .i64 0, .int .i64 0])] (by kernel_rfl) ?_
                                  refine AWl_nilK [110, 114, 113, 9, 8, 7, 6, 5, 4, 2, 1] [(110, .bool (decide (x41 < 90))), (114, .bool (decide (x41 < 90))), (113, .int .i64 x41), (9, .bool true), (8, .int .i64 x43), (7, .int .i64 x41), (6, .int .i64 x37), (5, .fn 18 [.ptr 0 0]), (4, .ptr 1 0), (2, .ptr 0 0), (1, .ro (fl (eI .i64) a3) a3.length none)] (by kernel_rfl) ?_
                                  obtain ⟨rfl, rfl⟩ := Prod.mk.inj (Option.some.inj h96)
                                  refine Tgt.mk (Weak.ren [] [] (.cons rfl (.pure rfl) (.cons rfl (.pure rfl) (.cons rfl (.pure rfl) (.cons rfl (.pure rfl) (.cons rfl (.pure rfl) (.cons rfl (.fn' (.cons (.ptr (l := 0) (l' := 0) rfl rfl) .nil)) (.cons rfl (.ptr (l := 1) (l' := 1) rfl rfl) (.cons rfl (.ptr (l := 0) (l' := 0) rfl rfl) (.cons rfl (.pure (by simp [pureV, within, withinL, fl_pure])) .nil))))))))) (.cons rfl (.pure rfl) (.cons rfl (.pure rfl) .nil)) (by kernel_rfl) (fun _ h => h.elim) En_ok)
                              · skip
                                cases h48 : x50
                                · have h97 := bif_f h48 h94
                                  refine AW_condF rfl ?_
                                  refine AW_seq ?_
                                  refine AW_region ?_
                                  refine AWl_xrun 2 _ _ _ [(123, .bool x51), (124, .bool x51), (110, .bool false), (9, .bool x51), (8, .int .i64 x43), (7, .int .i64 x41), (6, .int .i64 x37), (5, .fn 18 [.ptr 0 0]), (4, .ptr 1 0), (2, .ptr 0 0), (1, .ro (fl (eI .i64) a3) a3.length none)] [(0, some [.int .i64 x38, .int .i64 x39, .int .i64 x40]), (1, some [.int .i64 0, .int .i64 0, .int .i64 0])] (by kernel_rfl) ?_
                                  refine AWl_nilK [123, 8, 7, 6, 5, 4, 2, 1] [(123, .bool x51), (8, .int .i64 x43), (7, .int .i64 x41), (6, .int .i64 x37), (5, .fn 18 [.ptr 0 0]), (4, .ptr 1 0), (2, .ptr 0 0), (1, .ro (fl (eI .i64) a3) a3.length none)] (by kernel_rfl) ?_
                                  refine athen_n ?_
                                  cases h49 : x51
                                  · have h98 := bif_f h49 h97
                                    refine AW_condF rfl ?_
                                    refine AW_skip ?_
                                    refine ablock_n ?_
                                    refine ablock_n ?_
                                    obtain rfl := Option.some.inj h98
                                    refine Meet.on (Weak.ren [] [] (.cons rfl (.pure rfl) (.cons rfl (.fn' (.cons (.ptr (l := 0) (l' := 0) rfl rfl) .nil)) (.cons rfl (.ptr (l := 1) (l' := 1) rfl rfl) (.cons rfl (.ptr (l := 0) (l' := 0) rfl rfl) (.cons rfl (.pure (by simp [pureV, within, withinL, fl_pure])) .nil))))) (.cons rfl (.pure rfl) (.cons rfl (.pure rfl) .nil)) (by kernel_rfl) (fun _ h => h.elim) En_ok)
                                  · have h99 := bif_t h49 h97
                                    refine AW_condT rfl ?_
                                    refine AW_region ?_
                                    refine AWl_xrun 7 _ _ _ [(131, .int .i64 (IntKind.i64.wrap ((IntKind.i64.wrap ((IntKind.i64.wrap (x41 - x43)) - 60)) + 9))), (130, .int .i64 (IntKind.i64.wrap ((IntKind.i64.wrap (x41 - x43)) - 60))), (129, .int .i64 (IntKind.i64.wrap (x41 - x43))), (128, .int .i64 x43), (127, .int .i64 x41), (126, .int .i64 x43), (125, .fn 18 [.ptr 0 0]), (123, .bool true), (8, .int .i64 x43), (7, .int .i64 x41), (6, .int .i64 x37), (5, .fn 18 [.ptr 0 0]), (4, .ptr 1 0), (2, .ptr 0 0), (1, .ro (fl (eI .i64) a3) a3.length none)] [(0, some [.int .i64 x38, .int .i64 x39, .int .i64 x40]), (1, some [.int .i64 0, .int .i64 0, .int .i64 0])] (by kernel_rfl) ?_
                                    obtain ⟨⟨x52, x53⟩, h50, h100⟩ := bind_some h99
                                    refine AWl_callE (caps := [.ptr 0 0]) (xs := [.int .i64 x43, .int .i64 (IntKind.i64.wrap ((IntKind.i64.wrap ((IntKind.i64.wrap (x41 - x43)) - 60)) + 9))]) [(0, some [.int .i64 x38, .int .i64 x39, .int .i64 x40])] [(0, some [.int .i64 x38, .int .i64 x52, .int .i64 x53])] rfl rfl Tryd.call18 En_ok (pen_Apply_1_ok h50) (.cons rfl .nil) rfl (.cons rfl .nil) (by kernel_rfl) rfl (by kernel_rfl) ?_
                                    refine AWl_weak (al' := [(132, .tup []), (131, .int .i64 (IntKind.i64.wrap ((IntKind.i64.wrap ((IntKind.i64.wrap (x41 - x43)) - 60)) + 9))), (130, .int .i64 (IntKind.i64.wrap ((IntKind.i64.wrap (x41 - x43)) - 60))), (129, .int .i64 (IntKind.i64.wrap (x41 - x43))), (128, .int .i64 x43), (127, .int .i64 x41), (126, .int .i64 x43), (125, .fn 18 [.ptr 0 0]), (123, .bool true), (8, .int .i64 x43), (7, .int .i64 x41), (6, .int .i64 x37), (5, .fn 18 [.ptr 0 0]), (4, .ptr 1 0), (2, .ptr 0 0), (1, .ro (fl (eI .i64) a3) a3.length none)]) (L' := [(0, some [.int .i64 x38, .int .i64 x52, .int .i64 x53]), (1, some [.int .i64 0, .int .i64 0, .int .i64 0])]) (Weak.ren [] [] (.cons rfl (.pure rfl) (.cons rfl (.pure rfl) (.cons rfl (.pure rfl) (.cons rfl (.pure rfl) (.cons rfl (.pure rfl) (.cons rfl (.pure rfl) (.cons rfl (.pure rfl) (.cons rfl (.fn' (.cons (.ptr (l := 0) (l' := 0) rfl rfl) .nil)) (.cons rfl (.pure rfl) (.cons rfl (.pure rfl) (.cons rfl (.pure rfl) (.cons rfl (.pure rfl) (.cons rfl (.fn' (.cons (.ptr (l := 0) (l' := 0) rfl rfl) .nil)) (.cons rfl (.ptr (l := 1) (l' := 1) rfl rfl) (.cons rfl (.ptr (l := 0) (l' := 0) rfl rfl) (.cons rfl (.pure (by simp [pureV, within, withinL, fl_pure])) .nil)))))))))))))))) (.cons rfl (.pure rfl) (.cons rfl (.pure rfl) .nil)) (by kernel_rfl) (fun _ h => h.elim) En_ok) ?_
                                    refine AWl_nilK [6, 5, 4, 2, 1] [(6, .int .i64 x37), (5, .fn 18 [.ptr 0 0]), (4, .ptr 1 0), (2, .ptr 0 0), (1, .ro (fl (eI .i64) a3) a3.length none)] (by kernel_rfl) ?_
                                    refine ablock_n ?_
                                    refine ablock_n ?_
                                    obtain rfl := Option.some.inj h100
                                    refine Meet.on (Weak.ren [] [] (.cons rfl (.pure rfl) (.cons rfl (.fn' (.cons (.ptr (l := 0) (l' := 0) rfl rfl) .nil)) (.cons rfl (.ptr (l := 1) (l' := 1) rfl rfl) (.cons rfl (.ptr (l := 0) (l' := 0) rfl rfl) (.cons rfl (.pure (by simp [pureV, within, withinL, fl_pure])) .nil))))) (.cons rfl (.pure rfl) (.cons rfl (.pure rfl) .nil)) (by kernel_rfl) (fun _ h => h.elim) En_ok)
                                · have h101 := bif_t h48 h94
                                  refine AW_condT rfl ?_
                                  refine AW_region ?_
                                  refine AWl_xrun 6 _ _ _ [(121, .int .i64 (IntKind.i64.wrap ((IntKind.i64.wrap (x41 - x43)) + 1))), (120, .int .i64 (IntKind.i64.wrap (x41 - x43))), (119, .int .i64 x43), (118, .int .i64 x41), (117, .int .i64 x43), (116, .fn 18 [.ptr 0 0]), (110, .bool true), (9, .bool x51), (8, .int .i64 x43), (7, .int .i64 x41), (6, .int .i64 x37), (5, .fn 18 [.ptr 0 0]), (4, .ptr 1 0), (2, .ptr 0 0), (1, .ro (fl (eI .i64) a3) a3.length none)] [(0, some [.int .i64 x38, .int .i64 x39, .int .i64 x40]), (1, some [.int .i64 0, .int .i64 0, .int .i64 0])] (by kernel_rfl) ?_
                                  obtain ⟨⟨x54, x55⟩, h51, h102⟩ := bind_some h101
                                  refine AWl_callE (caps := [.ptr 0 0]) (xs := [.int .i64 x43, .int .i64 (IntKind.i64.wrap ((IntKind.i64.wrap (x41 - x43)) + 1))]) [(0, some [.int .i64 x38, .int .i64 x39, .int .i64 x40])] [(0, some [.int .i64 x38, .int .i64 x54, .int .i64 x55])] rfl rfl Tryd.call18 En_ok (pen_Apply_1_ok h51) (.cons rfl .nil) rfl (.cons rfl .nil) (by kernel_rfl) rfl (by kernel_rfl) ?_
                                  refine AWl_weak (al' := [(122, .tup []), (121, .int .i64 (IntKind.i64.wrap ((IntKind.i64.wrap (x41 - x43)) + 1))), (120, .int .i64 (IntKind.i64.wrap (x41 - x43))), (119, .int .i64 x43), (118, .int .i64 x41), (117, .int .i64 x43), (116, .fn 18 [.ptr 0 0]), (110, .bool true), (9, .bool x51), (8, .int .i64 x43), (7, .int .i64 x41), (6, .int .i64 x37), (5, .fn 18 [.ptr 0 0]), (4, .ptr 1 0), (2, .ptr 0 0), (1, .ro (fl (eI .i64) a3) a3.length none)]) (L' := [(0, some [.int .i64 x38, .int .i64 x54, .int .i64 x55]), (1, some [.int .i64 0, .int .i64 0, .int .i64 0])]) (Weak.ren [] [] (.cons rfl (.pure rfl) (.cons rfl (.pure rfl) (.cons rfl (.pure rfl) (.cons rfl (.pure rfl) (.cons rfl (.pure rfl) (.cons rfl (.pure rfl) (.cons rfl (.fn' (.cons (.ptr (l := 0) (l' := 0) rfl rfl) .nil)) (.cons rfl (.pure rfl) (.cons rfl (.pure rfl) (.cons rfl (.pure rfl) (.cons rfl (.pure rfl) (.cons rfl (.pure rfl) (.cons rfl (.fn' (.cons (.ptr (l := 0) (l' := 0) rfl rfl) .nil)) (.cons rfl (.ptr (l := 1) (l' := 1) rfl rfl) (.cons rfl (.ptr (l := 0) (l' := 0) rfl rfl) (.cons rfl (.pure (by simp [pureV, within, withinL, fl_pure])) .nil)))))))))))))))) (.cons rfl (.pure rfl) (.cons rfl (.pure rfl) .nil)) (by kernel_rfl) (fun _ h => h.elim) En_ok) ?_
                                  refine AWl_nilK [6, 5, 4, 2, 1] [(6, .int .i64 x37), (5, .fn 18 [.ptr 0 0]), (4, .ptr 1 0), (2, .ptr 0 0), (1, .ro (fl (eI .i64) a3) a3.length none)] (by kernel_rfl) ?_
                                  refine ablock_n ?_
                                  refine ablock_n ?_
                                  obtain rfl := Option.some.inj h102
                                  refine Meet.on (Weak.ren [] [] (.cons rfl (.pure rfl) (.cons rfl (.fn' (.cons (.ptr (l := 0) (l' := 0) rfl rfl) .nil)) (.cons rfl (.ptr (l := 1) (l' := 1) rfl rfl) (.cons rfl (.ptr (l := 0) (l' := 0) rfl rfl) (.cons rfl (.pure (by simp [pureV, within, withinL, fl_pure])) .nil))))) (.cons rfl (.pure rfl) (.cons rfl (.pure rfl) .nil)) (by kernel_rfl) (fun _ h => h.elim) En_ok)
                            · have h103 := bif_t h46 h90
                              refine AW_condT rfl ?_
                              refine AW_region ?_
                              refine AWl_xrun 2 _ _ _ [(108, .int .i64 x43), (107, .fn 18 [.ptr 0 0]), (99, .bool true), (9, .bool x49), (8, .int .i64 x43), (7, .int .i64 x41), (6, .int .i64 x37), (5, .fn 18 [.ptr 0 0]), (4, .ptr 1 0), (2, .ptr 0 0), (1, .ro (fl (eI .i64) a3) a3.length none)] [(0, some [.int .i64 x38, .int .i64 x39, .int .i64 x40]), (1, some [.int .i64 0, .int .i64 0, .int .i64 0])] (by kernel_rfl) ?_
                              obtain ⟨⟨x57, x58⟩, h53, h104⟩ := bind_some h103
                              refine AWl_callE (caps := [.ptr 0 0]) (xs := [.int .i64 x43, .int .i64 0]) [(0, some [.int .i64 x38, .int .i64 x39, .int .i64 x40])] [(0, some [.int .i64 x38, .int .i64 x57, .int .i64 x58])] rfl rfl Tryd.call18 En_ok (pen_Apply_1_ok h53) (.cons rfl .nil) rfl (.cons rfl .nil) (by kernel_rfl) rfl (by kernel_rfl) ?_
                              refine AWl_weak (al' := [(109, .tup []), (108, .int .i64 x43), (107, .fn 18 [.ptr 0 0]), (99, .bool true), (9, .bool x49), (8, .int .i64 x43), (7, .int .i64 x41), (6, .int .i64 x37), (5, .fn 18 [.ptr 0 0]), (4, .ptr 1 0), (2, .ptr 0 0), (1, .ro (fl (eI .i64) a3) a3.length none)]) (L' := [(0, some [.int .i64 x38, .int .i64 x57, .int .i64 x58]), (1, some [.int .i64 0, .int .i64 0, .int .i64 0])]) (Weak.ren [] [] (.cons rfl (.pure rfl) (.cons rfl (.pure rfl) (.cons rfl (.fn' (.cons (.ptr (l := 0) (l' := 0) rfl rfl) .nil)) (.cons rfl (.pure rfl) (.cons rfl (.pure rfl) (.cons rfl (.pure rfl) (.cons rfl (.pure rfl) (.cons rfl (.pure rfl) (.cons rfl (.fn' (.cons (.ptr (l := 0) (l' := 0) rfl rfl) .nil)) (.cons rfl (.ptr (l := 1) (l' := 1) rfl rfl) (.cons rfl (.ptr (l := 0) (l' := 0) rfl rfl) (.cons rfl (.pure (by simp [pureV, within, withinL, fl_pure])) .nil)))))))))))) (.cons rfl (.pure rfl) (.cons rfl (.pure rfl) .nil)) (by kernel_rfl) (fun _ h => h.elim) En_ok) ?_
                              refine AWl_nilK [6, 5, 4, 2, 1] [(6, .int .i64 x37), (5, .fn 18 [.ptr 0 0]), (4, .ptr 1 0), (2, .ptr 0 0), (1, .ro (fl (eI .i64) a3) a3.length none)] (by kernel_rfl) ?_
                              refine ablock_n ?_
                              refine ablock_n ?_
                              obtain rfl := Option.some.inj h104
                              refine Meet.on (Weak.ren [] [] (.cons rfl (.pure rfl) (.cons rfl (.fn' (.cons (.ptr (l := 0) (l' := 0) rfl rfl) .nil)) (.cons rfl (.ptr (l := 1) (l' := 1) rfl rfl) (.cons rfl (.ptr (l := 0) (l' := 0) rfl rfl) (.cons rfl (.pure (by simp [pureV, within, withinL, fl_pure])) .nil))))) (.cons rfl (.pure rfl) (.cons rfl (.pure rfl) .nil)) (by kernel_rfl) (fun _ h => h.elim) En_ok)
                        · have h105 := bif_t h44 h86
                          refine AW_condT rfl ?_
                          refine AW_seq ?_
                          refine AW_region ?_
                          refine AWl_xrun 3 _ _ _ [(84, .int .i64 (IntKind.i64.wrap (x37 + 1))), (83, .int .i64 x37), (82, .ro (fl (eI .i64) a3) a3.length none), (73, .bool true), (9, .bool x47), (8, .int .i64 x43), (7, .int .i64 x41), (6, .int .i64 x37), (5, .fn 18 [.ptr 0 0]), (4, .ptr 1 0), (2, .ptr 0 0), (1, .ro (fl (eI .i64) a3) a3.length none)] [(0, some [.int .i64 x38, .int .i64 x39, .int .i64 x40]), (1, some [.int .i64 0, .int .i64 0, .int .i64 0])] (by kernel_rfl) ?_
                          obtain ⟨h55, h106⟩ := req_some h105
                          refine AWl_o (x := .ro (fl (eI .i64) (sub a3 ((IntKind.i64.wrap (x37 + 1)).toNat) a3.length)) ((sub a3 ((IntKind.i64.wrap (x37 + 1)).toNat) a3.length).length) none) (wl := []) (AOp_sliceRo (e := (eI .i64)) (l := a3) (a := (IntKind.i64.wrap (x37 + 1)).toNat) (b := a3.length) rfl rfl rfl rfl rfl (bnd_int rfl h55.1) rfl h55.2.1 h55.2.2 rfl) (by kernel_rfl) (by kernel_rfl) (by kernel_rfl) ?_
                          obtain ⟨⟨x60, x61⟩, h56, h107⟩ := bind_some h106
                          refine AWl_o (x := .tup [.int .i64 x61, .int .i64 x60]) (wl := []) (AOp_callP En_ok Tryd.call21 (caps := []) (xs := [.ro (fl (eI .i64) (sub a3 ((IntKind.i64.wrap (x37 + 1)).toNat) a3.length)) ((sub a3 ((IntKind.i64.wrap (x37 + 1)).toNat) a3.length).length) none]) rfl rfl (pen_colour_ok h56) (by simp [pureV, within, withinL, fl_pure])) (by kernel_rfl) (by kernel_rfl) (by kernel_rfl) ?_
                          refine AWl_xrun 5 _ _ _ [(11, .int .i64 x60), (10, .int .i64 x61), (88, .int .i64 x60), (87, .int .i64 x61), (81, .tup [.int .i64 x61, .int .i64 x60]), (86, .tup [.int .i64 x61, .int .i64 x60]), (85, .ro (fl (eI .i64) (sub a3 ((IntKind.i64.wrap (x37 + 1)).toNat) a3.length)) ((sub a3 ((IntKind.i64.wrap (x37 + 1)).toNat) a3.length).length) none), (84, .int .i64 (IntKind.i64.wrap (x37 + 1))), (83, .int .i64 x37), (82, .ro (fl (eI .i64) a3) a3.length none), (73, .bool true), (9, .bool x47), (8, .int .i64 x43), (7, .int .i64 x41), (6, .int .i64 x37), (5, .fn 18 [.ptr 0 0]), (4, .ptr 1 0), (2, .ptr 0 0), (1, .ro (fl (eI .i64) a3) a3.length none)] [(0, some [.int .i64 x38, .int .i64 x39, .int .i64 x40]), (1, some [.int .i64 0, .int .i64 0, .int .i64 0])] (by kernel_rfl) ?_
                          refine AWl_nilK [11, 10, 8, 6, 5, 4, 2, 1] [(11, .int .i64 x60), (10, .int .i64 x61), (8, .int .i64 x43), (6, .int .i64 x37), (5, .fn 18 [.ptr 0 0]), (4, .ptr 1 0), (2, .ptr 0 0), (1, .ro (fl (eI .i64) a3) a3.length none)] (by kernel_rfl) ?_
                          refine athen_n ?_
                          refine AW_seq ?_
                          refine AW_seq ?_
                          refine AW_region ?_
                          refine AWl_xrun 2 _ _ _ [(90, .bool ((x60 : Int) == 0)), (89, .int .i64 x60), (11, .int .i64 x60), (10, .int .i64 x61), (8, .int .i64 x43), (6, .int .i64 x37), (5, .fn 18 [.ptr 0 0]), (4, .ptr 1 0), (2, .ptr 0 0), (1, .ro (fl (eI .i64) a3) a3.length none)] [(0, some [.int .i64 x38, .int .i64 x39, .int .i64 x40]), (1, some [.int .i64 0, .int .i64 0, .int .i64 0])] (by kernel_rfl) ?_
                          refine AWl_nilK [90, 11, 10, 8, 6, 5, 4, 2, 1] [(90, .bool ((x60 : Int) == 0)), (11, .int .i64 x60), (10, .int .i64 x61), (8, .int .i64 x43), (6, .int .i64 x37), (5, .fn 18 [.ptr 0 0]), (4, .ptr 1 0), (2, .ptr 0 0), (1, .ro (fl (eI .i64) a3) a3.length none)] (by kernel_rfl) ?_
                          refine athen_n ?_
                          cases h57 : ((x60 : Int) == 0)
                          · have h108 := bif_f h57 h107
                            refine AW_condF rfl ?_
                            refine AW_skip ?_
                            refine athen_n ?_
                            refine AW_seq ?_
                            refine AW_region ?_
                            refine AWl_xrun 3 _ _ _ [(94, .int .i64 x61), (93, .int .i64 x43), (92, .fn 18 [.ptr 0 0]), (90, .bool false), (11, .int .i64 x60), (10, .int .i64 x61), (8, .int .i64 x43), (6, .int .i64 x37), (5, .fn 18 [.ptr 0 0]), (4, .ptr 1 0), (2, .ptr 0 0), (1, .ro (fl (eI .i64) a3) a3.length none)] [(0, some [.int .i64 x38, .int .i64 x39, .int .i64 x40]), (1, some [.int .i64 0, .int .i64 0, .int .i64 0])] (by kernel_rfl) ?_
                            obtain ⟨⟨x62, x63⟩, h58, h109⟩ := bind_some h108
                            refine AWl_callE (caps := [.ptr 0 0]) (xs := [.int .i64 x43, .int .i64 x61]) [(0, some [.int .i64 x38, .int .i64 x39, .int .i64 x40])] [(0, some [.int .i64 x38, .int .i64 x62, .int .i64 x63])] rfl rfl Tryd.call18 En_ok (pen_Apply_1_ok h58) (.cons rfl .nil) rfl (.cons rfl .nil) (by kernel_rfl) rfl (by kernel_rfl) ?_
                            refine AWl_weak (al' := [(95, .tup []), (94, .int .i64 x61), (93, .int .i64 x43), (92, .fn 18 [.ptr 0 0]), (90, .bool false), (11, .int .i64 x60), (10, .int .i64 x61), (8, .int .i64 x43), (6, .int .i64 x37), (5, .fn 18 [.ptr 0 0]), (4, .ptr 1 0), (2, .ptr 0 0), (1, .ro (fl (eI .i64) a3) a3.length none)]) (L' := [(0, some [.int .i64 x38, .int .i64 x62, .int .i64 x63]), (1, some [.int .i64 0, .int .i64 0, .int .i64 0])]) (Weak.ren [] [] (.cons rfl (.pure rfl) (.cons rfl (.pure rfl) (.cons rfl (.pure rfl) (.cons rfl (.fn' (.cons (.ptr (l := 0) (l' := 0) rfl rfl) .nil)) (.cons rfl (.pure rfl) (.cons rfl (.pure rfl) (.cons rfl (.pure rfl) (.cons rfl (.pure rfl) (.cons rfl (.pure rfl) (.cons rfl (.fn' (.cons (.ptr (l := 0) (l' := 0) rfl rfl) .nil)) (.cons rfl (.ptr (l := 1) (l' := 1) rfl rfl) (.cons rfl (.ptr (l := 0) (l' := 0) rfl rfl) (.cons rfl (.pure (by simp [pureV, within, withinL, fl_pure])) .nil))))))))))))) (.cons rfl (.pure rfl) (.cons rfl (.pure rfl) .nil)) (by kernel_rfl) (fun _ h => h.elim) En_ok) ?_
                            refine AWl_nilK [11, 6, 5, 4, 2, 1] [(11, .int .i64 x60), (6, .int .i64 x37), (5, .fn 18 [.ptr 0 0]), (4, .ptr 1 0), (2, .ptr 0 0), (1, .ro (fl (eI .i64) a3) a3.length none)] (by kernel_rfl) ?_
                            refine athen_n ?_
                            refine AW_region ?_
                            refine AWl_xrun 4 _ _ _ [(6, .int .i64 (IntKind.i64.wrap (x37 + x60))), (98, .int .i64 (IntKind.i64.wrap (x37 + x60))), (97, .int .i64 x60), (96, .int .i64 x37), (11, .int .i64 x60), (6, .int .i64 x37), (5, .fn 18 [.ptr 0 0]), (4, .ptr 1 0), (2, .ptr 0 0), (1, .ro (fl (eI .i64) a3) a3.length none)] [(0, some [.int .i64 x38, .int .i64 x62, .int .i64 x63]), (1, some [.int .i64 0, .int .i64 0, .int .i64 0])] (by kernel_rfl) ?_
                            refine AWl_nilK [6, 5, 4, 2, 1] [(6, .int .i64 (IntKind.i64.wrap (x37 + x60))), (5, .fn 18 [.ptr 0 0]), (4, .ptr 1 0), (2, .ptr 0 0), (1, .ro (fl (eI .i64) a3) a3.length none)] (by kernel_rfl) ?_
                            refine ablock_n ?_
                            refine ablock_n ?_
                            obtain rfl := Option.some.inj h109
                            refine Meet.on (Weak.ren [] [] (.cons rfl (.pure rfl) (.cons rfl (.fn' (.cons (.ptr (l := 0) (l' := 0) rfl rfl) .nil)) (.cons rfl (.ptr (l := 1) (l' := 1) rfl rfl) (.cons rfl (.ptr (l := 0) (l' := 0) rfl rfl) (.cons rfl (.pure (by simp [pureV, within, withinL, fl_pure])) .nil))))) (.cons rfl (.pure rfl) (.cons rfl (.pure rfl) .nil)) (by kernel_rfl) (fun _ h => h.elim) En_ok)
                          · have h110 := bif_t h57 h107
                            refine AW_condT rfl ?_
                            refine AW_seq ?_
                            refine AW_region ?_
                            refine AWl_xrun 2 _ _ _ [(91, .agg [.int .i64 x38, .int .i64 x39, .int .i64 x40]), (90, .bool true), (11, .int .i64 x60), (10, .int .i64 x61), (8, .int .i64 x43), (6, .int .i64 x37), (5, .fn 18 [.ptr 0 0]), (4, .ptr 1 0), (2, .ptr 0 0), (1, .ro (fl (eI .i64) a3) a3.length none)] [(0, some [.int .i64 x38, .int .i64 x39, .int .i64 x40]), (1, some [.int .i64 x38, .int .i64 x39, .int .i64 x40])] (by kernel_rfl) ?_
                            refine AWl_nilK [4] [(4, .ptr 1 0)] (by kernel_rfl) ?_
                            refine athen_n ?_
                            refine AW_ret ?_
                            refine athen_ret ?_
                            refine ablock_ret ?_
                            refine ablock_ret ?_
                            obtain ⟨x89, h111, rfl⟩ := map_some h110
                            have h112 : some x89 = some _ := h73
                            cases h112
                            refine Meet.off (by simp) ?_
                            obtain rfl := Option.some.inj h111
                            refine Round.off (by simp) (Tgt.mk (Weak.ren [] [] (.cons rfl (.ptr (l := 1) (l' := 1) rfl rfl) .nil) (.cons rfl (.pure rfl) .nil) (by kernel_rfl) (fun _ h => h.elim) En_ok))
                    · have h113 := bif_t h42 h82
                      refine AW_condT rfl ?_
                      obtain ⟨x65, h60, h114⟩ := bind_some h113
                      refine AW_drawK En_mixed [⟨[(2, .ptr 0 0)], [], .ptr 0 0, [], true, false⟩, ⟨[(66, .ptr 0 0)], [(0, some [.int .i64 x38, .int .i64 x39, .int .i64 x40])], .int .i64 x38, [], true, false⟩, ⟨[(7, .int .i64 x41)], [], .int .i64 x41, [], true, false⟩, ⟨[(68, .int .i64 x41)], [], .int .i64 (IntKind.i64.wrap (x41 - 21)), [], true, false⟩, ⟨[(69, .int .i64 (IntKind.i64.wrap (x41 - 21)))], [], .int .i64 x65, [], true, false⟩, ⟨[(67, .int .i64 x38), (70, .int .i64 x65)], [], .int .i64 (ibits .andNot .i64 x38 x65), [], true, false⟩, ⟨[(2, .ptr 0 0)], [], .ptr 0 0, [], true, false⟩, ⟨[(71, .int .i64 (ibits .andNot .i64 x38 x65)), (72, .ptr 0 0)], [(0, some [.int .i64 x38, .int .i64 x39, .int .i64 x40])], .dead, [(0, some [.int .i64 (ibits .andNot .i64 x38 x65), .int .i64 x39, .int .i64 x40])], true, false⟩] [6, 5, 4, 2, 1] [(6, .int .i64 x37), (5, .fn 18 [.ptr 0 0]), (4, .ptr 1 0), (2, .ptr 0 0), (1, .ro (fl (eI .i64) a3) a3.length none)] [(0, some [.int .i64 (ibits .andNot .i64 x38 x65), .int .i64 x39, .int .i64 x40]), (1, some [.int .i64 0, .int .i64 0, .int .i64 0])] (.x 2 rfl (by kernel_rfl) (.x 2 rfl (by kernel_rfl) (.x 2 rfl (by kernel_rfl) (.x 2 rfl (by kernel_rfl) (.o (AOp_callP En_ok Tryd.call20 (caps := []) (xs := [.int .i64 (IntKind.i64.wrap (x41 - 21))]) (by exact rfl) (by exact rfl) (pen_bitOf_ok h60) (by exact rfl)) (.x 2 rfl (by kernel_rfl) (.x 2 rfl (by kernel_rfl) (.x 2 rfl (by kernel_rfl) .nil)))))))) (by kernel_rfl) (by kernel_rfl) (by kernel_rfl) (by kernel_rfl) (by kernel_rfl) (by kernel_rfl) ?_
                      refine ablock_n ?_
                      refine ablock_n ?_
                      obtain rfl := Option.some.inj h114
                      refine Meet.on (Weak.ren [] [] (.cons rfl (.pure rfl) (.cons rfl (.fn' (.cons (.ptr (l := 0) (l' := 0) rfl rfl) .nil)) (.cons rfl (.ptr (l := 1) (l' := 1) rfl rfl) (.cons rfl (.ptr (l := 0) (l' := 0) rfl rfl) (.cons rfl (.pure (by simp [pureV, within, withinL, fl_pure])) .nil))))) (.cons rfl (.pure rfl) (.cons rfl (.pure rfl) .nil)) (by kernel_rfl) (fun _ h => h.elim) En_ok)
                · have h115 := bif_t h40 h80
                  refine AW_condT rfl ?_
                  refine AW_region ?_
                  refine AWl_xrun 5 _ _ _ [(58, .ptr 0 0), (57, .int .i64 (ibits .andNot .i64 x38 3)), (56, .int .i64 x38), (55, .ptr 0 0), (52, .bool true), (9, .bool x42), (8, .int .i64 x43), (7, .int .i64 x41), (6, .int .i64 x37), (5, .fn 18 [.ptr 0 0]), (4, .ptr 1 0), (2, .ptr 0 0), (1, .ro (fl (eI .i64) a3) a3.length none)] [(0, some [.int .i64 (ibits .andNot .i64 x38 3), .int .i64 x39, .int .i64 x40]), (1, some [.int .i64 0, .int .i64 0, .int .i64 0])] (by kernel_rfl) ?_
                  refine AWl_nilK [6, 5, 4, 2, 1] [(6, .int .i64 x37), (5, .fn 18 [.ptr 0 0]), (4, .ptr 1 0), (2, .ptr 0 0), (1, .ro (fl (eI .i64) a3) a3.length none)] (by kernel_rfl) ?_
                  refine ablock_n ?_
                  refine ablock_n ?_
                  obtain rfl := Option.some.inj h115
                  refine Meet.on (Weak.ren [] [] (.cons rfl (.pure rfl) (.cons rfl (.fn' (.cons (.ptr (l := 0) (l' := 0) rfl rfl) .nil)) (.cons rfl (.ptr (l := 1) (l' := 1) rfl rfl) (.cons rfl (.ptr (l := 0) (l' := 0) rfl rfl) (.cons rfl (.pure (by simp [pureV, within, withinL, fl_pure])) .nil))))) (.cons rfl (.pure rfl) (.cons rfl (.pure rfl) .nil)) (by kernel_rfl) (fun _ h => h.elim) En_ok)
              · have h116 := bif_t h39 h77
                refine AW_condT rfl ?_
                obtain ⟨x67, h62, h117⟩ := bind_some h116
                refine AW_drawK En_mixed [⟨[(2, .ptr 0 0)], [], .ptr 0 0, [], true, false⟩, ⟨[(45, .ptr 0 0)], [(0, some [.int .i64 x38, .int .i64 x39, .int .i64 x40])], .int .i64 x38, [], true, false⟩, ⟨[(7, .int .i64 x41)], [], .int .i64 x41, [], true, false⟩, ⟨[(47, .int .i64 x41)], [], .int .i64 (IntKind.i64.wrap (x41 - 1)), [], true, false⟩, ⟨[(48, .int .i64 (IntKind.i64.wrap (x41 - 1)))], [], .int .i64 x67, [], true, false⟩, ⟨[(46, .int .i64 x38), (49, .int .i64 x67)], [], .int .i64 (ibits .or .i64 x38 x67), [], true, false⟩, ⟨[(2, .ptr 0 0)], [], .ptr 0 0, [], true, false⟩, ⟨[(50, .int .i64 (ibits .or .i64 x38 x67)), (51, .ptr 0 0)], [(0, some [.int .i64 x38, .int .i64 x39, .int .i64 x40])], .dead, [(0, some [.int .i64 (ibits .or .i64 x38 x67), .int .i64 x39, .int .i64 x40])], true, false⟩] [6, 5, 4, 2, 1] [(6, .int .i64 x37), (5, .fn 18 [.ptr 0 0]), (4, .ptr 1 0), (2, .ptr 0 0), (1, .ro (fl (eI .i64) a3) a3.length none)] [(0, some [.int .i64 (ibits .or .i64 x38 x67), .int .i64 x39, .int .i64 x40]), (1, some [.int .i64 0, .int .i64 0, .int .i64 0])] (.x 2 rfl (by kernel_rfl) (.x 2 rfl (by kernel_rfl) (.x 2 rfl (by kernel_rfl) (.x 2 rfl (by kernel_rfl) (.o (AOp_callP En_ok Tryd.call20 (caps := []) (xs := [.int .i64 (IntKind.i64.wrap (x41 - 1))]) (by exact rfl) (by exact rfl) (pen_bitOf_ok h62) (by exact rfl)) (.x 2 rfl (by kernel_rfl) (.x 2 rfl (by kernel_rfl) (.x 2 rfl (by kernel_rfl) .nil)))))))) (by kernel_rfl) (by kernel_rfl) (by kernel_rfl) (by kernel_rfl) (by kernel_rfl) (by kernel_rfl) ?_
                refine ablock_n ?_
                refine ablock_n ?_
                obtain rfl := Option.some.inj h117
                refine Meet.on (Weak.ren [] [] (.cons rfl (.pure rfl) (.cons rfl (.fn' (.cons (.ptr (l := 0) (l' := 0) rfl rfl) .nil)) (.cons rfl (.ptr (l := 1) (l' := 1) rfl rfl) (.cons rfl (.ptr (l := 0) (l' := 0) rfl rfl) (.cons rfl (.pure (by simp [pureV, within, withinL, fl_pure])) .nil))))) (.cons rfl (.pure rfl) (.cons rfl (.pure rfl) .nil)) (by kernel_rfl) (fun _ h => h.elim) En_ok)
          · have h118 := bif_t h37 h75
            refine AW_condT rfl ?_
            refine AW_region ?_
            refine AWl_xrun 2 _ _ _ [(37, .agg [.int .i64 0, .int .i64 0, .int .i64 0]), (34, .bool true), (9, .bool x42), (8, .int .i64 x43), (7, .int .i64 x41), (6, .int .i64 x37), (5, .fn 18 [.ptr 0 0]), (4, .ptr 1 0), (2, .ptr 0 0), (1, .ro (fl (eI .i64) a3) a3.length none)] [(0, some [.int .i64 0, .int .i64 0, .int .i64 0]), (1, some [.int .i64 0, .int .i64 0, .int .i64 0])] (by kernel_rfl) ?_
            refine AWl_nilK [6, 5, 4, 2, 1] [(6, .int .i64 x37), (5, .fn 18 [.ptr 0 0]), (4, .ptr 1 0), (2, .ptr 0 0), (1, .ro (fl (eI .i64) a3) a3.length none)] (by kernel_rfl) ?_
            refine ablock_n ?_
            refine ablock_n ?_
            obtain rfl := Option.some.inj h118
            refine Meet.on (Weak.ren [] [] (.cons rfl (.pure rfl) (.cons rfl (.fn' (.cons (.ptr (l := 0) (l' := 0) rfl rfl) .nil)) (.cons rfl (.ptr (l := 1) (l' := 1) rfl rfl) (.cons rfl (.ptr (l := 0) (l' := 0) rfl rfl) (.cons rfl (.pure (by simp [pureV, within, withinL, fl_pure])) .nil))))) (.cons rfl (.pure rfl) (.cons rfl (.pure rfl) .nil)) (by kernel_rfl) (fun _ h => h.elim) En_ok)
        · rintro ⟨x69, x70, x71, x72⟩ rfl
          refine AW_region ?_
          refine AWl_xrun 3 _ _ _ [(6, .int .i64 (IntKind.i64.wrap (x69 + 1))), (24, .int .i64 (IntKind.i64.wrap (x69 + 1))), (23, .int .i64 x69), (6, .int .i64 x69), (5, .fn 18 [.ptr 0 0]), (4, .ptr 1 0), (2, .ptr 0 0), (1, .ro (fl (eI .i64) a3) a3.length none)] [(0, some [.int .i64 x70, .int .i64 x71, .int .i64 x72]), (1, some [.int .i64 0, .int .i64 0, .int .i64 0])] (by kernel_rfl) ?_
          refine AWl_nilK [6, 5, 4, 2, 1] [(6, .int .i64 (IntKind.i64.wrap (x69 + 1))), (5, .fn 18 [.ptr 0 0]), (4, .ptr 1 0), (2, .ptr 0 0), (1, .ro (fl (eI .i64) a3) a3.length none)] (by kernel_rfl) ?_
          obtain rfl := Option.some.inj h73
          refine Round.on (Weak.ren [] [] (.cons rfl (.pure rfl) (.cons rfl (.fn' (.cons (.ptr (l := 0) (l' := 0) rfl rfl) .nil)) (.cons rfl (.ptr (l := 1) (l' := 1) rfl rfl) (.cons rfl (.ptr (l := 0) (l' := 0) rfl rfl) (.cons rfl (.pure (by simp [pureV, within, withinL, fl_pure])) .nil))))) (.cons rfl (.pure rfl) (.cons rfl (.pure rfl) .nil)) (by kernel_rfl) (fun _ h => h.elim) En_ok)
    · rcases x84 with ⟨x78, x79, x80⟩ | ⟨x81, x82, x83⟩
      · rintro e al L ⟨rfl, h119⟩ -
        refine ⟨_, _, h119, ?_⟩
        refine ablock_eq ?_
        refine athen_n ?_
        refine AW_seq ?_
        refine AW_region ?_
        refine AWl_xrun 2 _ _ _ [(133, .agg [.int .i64 x78, .int .i64 x79, .int .i64 x80]), (4, .ptr 1 0), (2, .ptr 0 0)] [(1, some [.int .i64 x78, .int .i64 x79, .int .i64 x80]), (0, some [.int .i64 x78, .int .i64 x79, .int .i64 x80])] (by kernel_rfl) ?_
        refine AWl_nilK [4] [(4, .ptr 1 0)] (by kernel_rfl) ?_
        refine athen_n ?_
        refine AW_ret ?_
        obtain ⟨rfl, h120⟩ := Prod.mk.inj (Option.some.inj h68)
        obtain ⟨rfl, rfl⟩ := Prod.mk.inj (h120)
        refine RetsW.mk [(4, .ptr 1 0)] [(1, some [.int .i64 x78, .int .i64 x79, .int .i64 x80])] (Weak.ren [] [] (.cons rfl (.ptr (l := 1) (l' := 1) rfl rfl) .nil) (.cons rfl (.pure rfl) .nil) (by kernel_rfl) (fun _ h => h.elim) En_ok) (rets1 (x := .agg [.int .i64 x78, .int .i64 x79, .int .i64 x80]) (.inl rfl) (by kernel_rfl) (.pure rfl))
      · rintro e al L ⟨rfl, h119⟩ -
        refine ⟨_, _, h119, ?_⟩
        refine ablock_ret ?_
        refine athen_ret ?_
        obtain ⟨rfl, h121⟩ := Prod.mk.inj (Option.some.inj h68)
        obtain ⟨rfl, rfl⟩ := Prod.mk.inj (h121)
        refine RetsW.mk [(4, .ptr 1 0)] [(1, some [.int .i64 x81, .int .i64 x82, .int .i64 x83])] (Weak.ren [] [] (.cons rfl (.ptr (l := 1) (l' := 1) rfl rfl) .nil) (.cons rfl (.pure rfl) .nil) (by kernel_rfl) (fun _ h => h.elim) En_ok) (rets1 (x := .agg [.int .i64 x81, .int .i64 x82, .int .i64 x83]) (.inl rfl) (by kernel_rfl) (.pure rfl))
  · have h122 := bif_t h2 h66
    refine AW_condT rfl ?_
    refine AW_seq ?_
    refine AW_region ?_
    refine AWl_xrun 2 _ _ _ [(17, .agg [.int .i64 0, .int .i64 0, .int .i64 0]), (16, .bool true), (4, .ptr 1 0), (2, .ptr 0 0), (1, .ro (fl (eI .i64) a3) a3.length none)] [(0, some [.int .i64 x1, .int .i64 x2, .int .i64 x3]), (1, some [.int .i64 0, .int .i64 0, .int .i64 0])] (by kernel_rfl) ?_
    refine AWl_nilK [4] [(4, .ptr 1 0)] (by kernel_rfl) ?_
    refine athen_n ?_
    refine AW_ret ?_
    refine athen_ret ?_
    obtain ⟨rfl, h123⟩ := Prod.mk.inj (Option.some.inj h122)
    obtain ⟨rfl, rfl⟩ := Prod.mk.inj (h123)
    refine RetsW.mk [(4, .ptr 1 0)] [(1, some [.int .i64 0, .int .i64 0, .int .i64 0])] (Weak.ren [] [] (.cons rfl (.ptr (l := 1) (l' := 1) rfl rfl) .nil) (.cons rfl (.pure rfl) .nil) (by kernel_rfl) (fun _ h => h.elim) En_ok) (rets1 (x := .agg [.int .i64 0, .int .i64 0, .int .i64 0]) (.inl rfl) (by kernel_rfl) (.pure rfl))
noncomputable def pen_Apply_v2 (a0 : Int) (a1 : Int) (a2 : Int) : Option (Unit) :=
  (pen_fine a0 a1 a2).bind fun (x1, x2, x3) =>
  some ()
theorem pen_Apply_v2_ok {a0 : Int} {a1 : Int} {a2 : Int} (h : pen_Apply_v2 a0 a1 a2 = some ()) : Pure En 9 [.agg [.int .i64 a0, .int .i64 a1, .int .i64 a2], .nils] (.agg [.int .i64 0, .int .i64 0, .int .i64 0]) := by
  unfold pen_Apply_v2 at h
  refine ACalls_pureW En_ok (fn := Tryd.f9) Tryd.func9 rfl (by simp [Tryd.ntmps9]) ?_
  refine AW_seq ?_
  refine AW_region ?_
  refine AWl_xrun 2 _ _ _ [(4, .ptr 1 0), (2, .ptr 0 0), (0, .agg [.int .i64 a0, .int .i64 a1, .int .i64 a2]), (1, .nils)] [(0, some [.int .i64 a0, .int .i64 a1, .int .i64 a2]), (1, some [.int .i64 0, .int .i64 0, .int .i64 0])] (by kernel_rfl) ?_
  refine AWl_nilK [4, 2, 1] [(4, .ptr 1 0), (2, .ptr 0 0), (1, .nils)] (by kernel_rfl) ?_
  refine athen_n ?_
  refine AW_seq ?_
  refine AW_region ?_
  refine AWl_xrun 1 _ _ _ [(12, .agg [.int .i64 a0, .int .i64 a1, .int .i64 a2]), (4, .ptr 1 0), (2, .ptr 0 0), (1, .nils)] [(0, some [.int .i64 a0, .int .i64 a1, .int .i64 a2]), (1, some [.int .i64 0, .int .i64 0, .int .i64 0])] (by kernel_rfl) ?_
  obtain ⟨⟨x1, x2, x3⟩, h1, h2⟩ := bind_some h
  refine AWl_o (x := .agg [.int .i64 x1, .int .i64 x2, .int .i64 x3]) (wl := []) (AOp_callP En_ok Tryd.call17 (caps := []) (xs := [.agg [.int .i64 a0, .int .i64 a1, .int .i64 a2]]) rfl rfl (pen_fine_ok h1) rfl) (by kernel_rfl) (by kernel_rfl) (by kernel_rfl) ?_
  refine AWl_xrun 1 _ _ _ [(13, .agg [.int .i64 x1, .int .i64 x2, .int .i64 x3]), (12, .agg [.int .i64 a0, .int .i64 a1, .int .i64 a2]), (4, .ptr 1 0), (2, .ptr 0 0), (1, .nils)] [(0, some [.int .i64 x1, .int .i64 x2, .int .i64 x3]), (1, some [.int .i64 0, .int .i64 0, .int .i64 0])] (by kernel_rfl) ?_
  refine AWl_nilK [4, 2, 1] [(4, .ptr 1 0), (2, .ptr 0 0), (1, .nils)] (by kernel_rfl) ?_
  refine athen_n ?_
  refine AW_seq ?_
  refine AW_seq ?_
  refine AW_region ?_
  refine AWl_xrun 3 _ _ _ [(16, .bool true), (15, .int .i64 0), (14, .nils), (4, .ptr 1 0), (2, .ptr 0 0), (1, .nils)] [(0, some [.int .i64 x1, .int .i64 x2, .int .i64 x3]), (1, some [.int .i64 0, .int .i64 0, .int .i64 0])] (by kernel_rfl) ?_
  refine AWl_nilK [16, 4, 2, 1] [(16, .bool true), (4, .ptr 1 0), (2, .ptr 0 0), (1, .nils)] (by kernel_rfl) ?_
  refine athen_n ?_
  refine AW_condT rfl ?_
  refine AW_seq ?_
  refine AW_region ?_
  refine AWl_xrun 2 _ _ _ [(17, .agg [.int .i64 0, .int .i64 0, .int .i64 0]), (16, .bool true), (4, .ptr 1 0), (2, .ptr 0 0), (1, .nils)] [(0, some [.int .i64 x1, .int .i64 x2, .int .i64 x3]), (1, some [.int .i64 0, .int .i64 0, .int .i64 0])] (by kernel_rfl) ?_
  refine AWl_nilK [4] [(4, .ptr 1 0)] (by kernel_rfl) ?_
  refine athen_n ?_
  refine AW_ret ?_
  refine athen_ret ?_
  refine RetsW.mk [(4, .ptr 1 0)] [(1, some [.int .i64 0, .int .i64 0, .int .i64 0])] (Weak.ren [] [] (.cons rfl (.ptr (l := 1) (l' := 1) rfl rfl) .nil) (.cons rfl (.pure rfl) .nil) (by kernel_rfl) (fun _ h => h.elim) En_ok) (rets1 (x := .agg [.int .i64 0, .int .i64 0, .int .i64 0]) (.inl rfl) (by kernel_rfl) (.pure rfl))
noncomputable def pen_Turn_1 (a0 : Int) (a1 : Int) : Option (Bool) :=
  bif ((a0 : Int) != 0) then
    (some ((a1 : Int) == 0))
  else
    (some false)
theorem pen_Turn_1_ok {a0 : Int} {a1 : Int} {x1 : Bool} (h : pen_Turn_1 a0 a1 = some x1) : Pure En 25 [.int .i64 a0, .int .i64 a1] (.bool x1) := by
  unfold pen_Turn_1 at h
  refine ACalls_pureW En_ok (fn := Tryd.f25) Tryd.func25 rfl (by simp [Tryd.ntmps25]) ?_
  refine AW_seq ?_
  refine AW_region ?_
  refine AWl_xrun 1 _ _ _ [(4, .bool false), (0, .int .i64 a0), (1, .int .i64 a1)] [] (by kernel_rfl) ?_
  refine AWl_nilK [0, 1] [(0, .int .i64 a0), (1, .int .i64 a1)] (by kernel_rfl) ?_
  refine athen_n ?_
  refine AW_seq ?_
  refine AW_region ?_
  refine AWl_xrun 3 _ _ _ [(7, .bool ((a0 : Int) != 0)), (6, .bool ((a0 : Int) != 0)), (5, .int .i64 a0), (0, .int .i64 a0), (1, .int .i64 a1)] [] (by kernel_rfl) ?_
  cases h1 : ((a0 : Int) != 0)
  · have h2 := bif_f h1 h
    refine AWl_xrun 4 _ _ _ [(4, .bool false), (10, .bool false), (9, .dead), (8, .dead), (7, .bool false), (6, .bool false), (5, .int .i64 a0), (0, .int .i64 a0), (1, .int .i64 a1)] [] (by kernel_rfl) ?_
    refine AWl_nilK [4] [(4, .bool false)] (by kernel_rfl) ?_
    refine athen_n ?_
    refine AW_ret ?_
    obtain rfl := Option.some.inj h2
    refine RetsW.mk [(4, .bool false)] [] (Weak.ren [] [] (.cons rfl (.pure rfl) .nil) .nil (by kernel_rfl) (fun _ h => h.elim) En_ok) (rets1 (x := .bool false) (.inl rfl) (by kernel_rfl) (.pure rfl))
  · have h3 := bif_t h1 h
    refine AWl_xrun 4 _ _ _ [(4, .bool ((a1 : Int) == 0)), (10, .bool ((a1 : Int) == 0)), (9, .bool ((a1 : Int) == 0)), (8, .int .i64 a1), (7, .bool true), (6, .bool true), (5, .int .i64 a0), (0, .int .i64 a0), (1, .int .i64 a1)] [] (by kernel_rfl) ?_
    refine AWl_nilK [4] [(4, .bool ((a1 : Int) == 0))] (by kernel_rfl) ?_
    refine athen_n ?_
    refine AW_ret ?_
    obtain rfl := Option.some.inj h3
    refine RetsW.mk [(4, .bool ((a1 : Int) == 0))] [] (Weak.ren [] [] (.cons rfl (.pure rfl) .nil) .nil (by kernel_rfl) (fun _ h => h.elim) En_ok) (rets1 (x := .bool ((a1 : Int) == 0)) (.inl rfl) (by kernel_rfl) (.pure rfl))
noncomputable def pen_show (a0 : Int) (a1 : Int) : Option ((List Int)) :=
  bif (decide ((IntKind.i64.wrap (a1 - 1)) < 8)) then
    (some ([IntKind.i64.wrap (a0 + (IntKind.i64.wrap (a1 - 1)))] : List Int))
  else
    (bif (decide ((IntKind.i64.wrap (a1 - 1)) < 16)) then
      (some ([IntKind.i64.wrap ((IntKind.i64.wrap ((IntKind.i64.wrap (a0 + 60)) + (IntKind.i64.wrap (a1 - 1)))) - 8)] : List Int))
    else
      (some ([IntKind.i64.wrap (a0 + 8), 5, IntKind.i64.wrap (a1 - 1)] : List Int)))
theorem pen_show_ok {a0 : Int} {a1 : Int} {x1 : List Int} (h : pen_show a0 a1 = some x1) : Pure En 26 [.int .i64 a0, .int .i64 a1] (.ro (fl (eI .i64) x1) x1.length none) := by
  unfold pen_show at h
  refine ACalls_pureW En_ok (fn := Tryd.f26) Tryd.func26 rfl (by simp [Tryd.ntmps26]) ?_
  refine AW_seq ?_
  refine AW_region ?_
  refine AWl_xrun 1 _ _ _ [(4, .nils), (0, .int .i64 a0), (1, .int .i64 a1)] [] (by kernel_rfl) ?_
  refine AWl_nilK [0, 1] [(0, .int .i64 a0), (1, .int .i64 a1)] (by kernel_rfl) ?_
  refine athen_n ?_
  refine AW_seq ?_
  refine AW_region ?_
  refine AWl_xrun 3 _ _ _ [(5, .int .i64 (IntKind.i64.wrap (a1 - 1))), (7, .int .i64 (IntKind.i64.wrap (a1 - 1))), (6, .int .i64 a1), (0, .int .i64 a0), (1, .int .i64 a1)] [] (by kernel_rfl) ?_
  refine AWl_nilK [5, 0] [(5, .int .i64 (IntKind.i64.wrap (a1 - 1))), (0, .int .i64 a0)] (by kernel_rfl) ?_
  refine athen_n ?_
  refine AW_block ?_
  refine AW_seq ?_
  refine AW_region ?_
  refine AWl_xrun 3 _ _ _ [(12, .bool (decide ((IntKind.i64.wrap (a1 - 1)) < 8))), (14, .bool (decide ((IntKind.i64.wrap (a1 - 1)) < 8))), (13, .int .i64 (IntKind.i64.wrap (a1 - 1))), (5, .int .i64 (IntKind.i64.wrap (a1 - 1))), (0, .int .i64 a0)] [] (by kernel_rfl) ?_
  refine AWl_nilK [12, 5, 0] [(12, .bool (decide ((IntKind.i64.wrap (a1 - 1)) < 8))), (5, .int .i64 (IntKind.i64.wrap (a1 - 1))), (0, .int .i64 a0)] (by kernel_rfl) ?_
  refine athen_n ?_
  cases h1 : (decide ((IntKind.i64.wrap (a1 - 1)) < 8))
  · have h3 := bif_f h1 h
    refine AW_condF rfl ?_
    refine AW_seq ?_
    refine AW_region ?_
    refine AWl_xrun 3 _ _ _ [(19, .bool (decide ((IntKind.i64.wrap (a1 - 1)) < 16))), (21, .bool (decide ((IntKind.i64.wrap (a1 - 1)) < 16))), (20, .int .i64 (IntKind.i64.wrap (a1 - 1))), (12, .bool false), (5, .int .i64 (IntKind.i64.wrap (a1 - 1))), (0, .int .i64 a0)] [] (by kernel_rfl) ?_
    refine AWl_nilK [19, 5, 0] [(19, .bool (decide ((IntKind.i64.wrap (a1 - 1)) < 16))), (5, .int .i64 (IntKind.i64.wrap (a1 - 1))), (0, .int .i64 a0)] (by kernel_rfl) ?_
    refine athen_n ?_
    cases h2 : (decide ((IntKind.i64.wrap (a1 - 1)) < 16))
    · have h4 := bif_f h2 h3
      refine AW_condF rfl ?_
      refine AW_seq ?_
      refine AW_region ?_
      refine AWl_xrun 5 _ _ _ [(4, .rw 0 0 3 1 (some 3)), (11, .rw 0 0 3 1 (some 3)), (10, .int .i64 (IntKind.i64.wrap (a1 - 1))), (9, .int .i64 (IntKind.i64.wrap (a0 + 8))), (8, .int .i64 a0), (19, .bool false), (5, .int .i64 (IntKind.i64.wrap (a1 - 1))), (0, .int .i64 a0)] [(0, some [.int .i64 (IntKind.i64.wrap (a0 + 8)), .int .i64 5, .int .i64 (IntKind.i64.wrap (a1 - 1))])] (by kernel_rfl) ?_
      refine AWl_nilK [4] [(4, .rw 0 0 3 1 (some 3))] (by kernel_rfl) ?_
      refine athen_n ?_
      refine AW_ret ?_
      refine ablock_ret ?_
      obtain rfl := Option.some.inj h4
      refine RetsW.mk [(4, .rw 0 0 (([IntKind.i64.wrap (a0 + 8), 5, IntKind.i64.wrap (a1 - 1)] : List Int).length) 1 none)] [(0, some (fl (eI .i64) ([IntKind.i64.wrap (a0 + 8), 5, IntKind.i64.wrap (a1 - 1)] : List Int)))] (Weak.ren [] [] (.cons rfl (.rwCo (l := 0) (l' := 0) rfl rfl) .nil) (.cons rfl (.pure rfl) .nil) (by kernel_rfl) (fun _ h => h.elim) En_ok) (rets1 (x := .rw 0 0 (([IntKind.i64.wrap (a0 + 8), 5, IntKind.i64.wrap (a1 - 1)] : List Int).length) 1 none) (.inl rfl) (by kernel_rfl) (Out.fl rfl rfl rfl rfl))
    · have h5 := bif_t h2 h3
      refine AW_condT rfl ?_
      refine AW_seq ?_
      refine AW_region ?_
      refine AWl_xrun 7 _ _ _ [(4, .rw 0 0 1 1 (some 1)), (27, .rw 0 0 1 1 (some 1)), (26, .int .i64 (IntKind.i64.wrap ((IntKind.i64.wrap ((IntKind.i64.wrap (a0 + 60)) + (IntKind.i64.wrap (a1 - 1)))) - 8))), (25, .int .i64 (IntKind.i64.wrap ((IntKind.i64.wrap (a0 + 60)) + (IntKind.i64.wrap (a1 - 1))))), (24, .int .i64 (IntKind.i64.wrap (a1 - 1))), (23, .int .i64 (IntKind.i64.wrap (a0 + 60))), (22, .int .i64 a0), (19, .bool true), (5, .int .i64 (IntKind.i64.wrap (a1 - 1))), (0, .int .i64 a0)] [(0, some [.int .i64 (IntKind.i64.wrap ((IntKind.i64.wrap ((IntKind.i64.wrap (a0 + 60)) + (IntKind.i64.wrap (a1 - 1)))) - 8))])] (by kernel_rfl) ?_
      refine AWl_nilK [4] [(4, .rw 0 0 1 1 (some 1))] (by kernel_rfl) ?_
      refine athen_n ?_
      refine AW_ret ?_
      refine ablock_ret ?_
      obtain rfl := Option.some.inj h5
      refine RetsW.mk [(4, .rw 0 0 (([IntKind.i64.wrap ((IntKind.i64.wrap ((IntKind.i64.wrap (a0 + 60)) + (IntKind.i64.wrap (a1 - 1)))) - 8)] : List Int).length) 1 none)] [(0, some (fl (eI .i64) ([IntKind.i64.wrap ((IntKind.i64.wrap ((IntKind.i64.wrap (a0 + 60)) + (IntKind.i64.wrap (a1 - 1)))) - 8)] : List Int)))] (Weak.ren [] [] (.cons rfl (.rwCo (l := 0) (l' := 0) rfl rfl) .nil) (.cons rfl (.pure rfl) .nil) (by kernel_rfl) (fun _ h => h.elim) En_ok) (rets1 (x := .rw 0 0 (([IntKind.i64.wrap ((IntKind.i64.wrap ((IntKind.i64.wrap (a0 + 60)) + (IntKind.i64.wrap (a1 - 1)))) - 8)] : List Int).length) 1 none) (.inl rfl) (by kernel_rfl) (Out.fl rfl rfl rfl rfl))
  · have h6 := bif_t h1 h
    refine AW_condT rfl ?_
    refine AW_seq ?_
    refine AW_region ?_
    refine AWl_xrun 5 _ _ _ [(4, .rw 0 0 1 1 (some 1)), (18, .rw 0 0 1 1 (some 1)), (17, .int .i64 (IntKind.i64.wrap (a0 + (IntKind.i64.wrap (a1 - 1))))), (16, .int .i64 (IntKind.i64.wrap (a1 - 1))), (15, .int .i64 a0), (12, .bool true), (5, .int .i64 (IntKind.i64.wrap (a1 - 1))), (0, .int .i64 a0)] [(0, some [.int .i64 (IntKind.i64.wrap (a0 + (IntKind.i64.wrap (a1 - 1))))])] (by kernel_rfl) ?_
    refine AWl_nilK [4] [(4, .rw 0 0 1 1 (some 1))] (by kernel_rfl) ?_
    refine athen_n ?_
    refine AW_ret ?_
    refine ablock_ret ?_
    obtain rfl := Option.some.inj h6
    refine RetsW.mk [(4, .rw 0 0 (([IntKind.i64.wrap (a0 + (IntKind.i64.wrap (a1 - 1)))] : List Int).length) 1 none)] [(0, some (fl (eI .i64) ([IntKind.i64.wrap (a0 + (IntKind.i64.wrap (a1 - 1)))] : List Int)))] (Weak.ren [] [] (.cons rfl (.rwCo (l := 0) (l' := 0) rfl rfl) .nil) (.cons rfl (.pure rfl) .nil) (by kernel_rfl) (fun _ h => h.elim) En_ok) (rets1 (x := .rw 0 0 (([IntKind.i64.wrap (a0 + (IntKind.i64.wrap (a1 - 1)))] : List Int).length) 1 none) (.inl rfl) (by kernel_rfl) (Out.fl rfl rfl rfl rfl))
end Go.SH
