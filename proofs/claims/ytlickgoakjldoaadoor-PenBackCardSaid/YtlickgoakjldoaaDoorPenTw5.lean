/- Twins of functions, and that the code does what they say: written by gen.py. -/
import Derived.Test.YtlickgoakjldoaaDoorPenTw4
set_option linter.unusedVariables false
set_option linter.unusedSimpArgs false
namespace Go.SH
open Go.Proofs
noncomputable def oriellaw12_PenApplies_loop1 (a3 : List Int) (x7 : Int) : Option ((Unit ⊕ Unit) ⊕ (Int)) :=
    bif (decide (x7 < (a3.length : Int))) then
      ((getI (([] : List Int) ++ a3) x7).bind fun x8 =>
      (getI a3 x7).bind fun x9 =>
      bif ((x8 : Int) != x9) then
        (some (.inl (.inr ())))
      else
        (some (.inr (IntKind.i64.wrap (x7 + 1)))))
    else
      (some (.inl (.inl ())))
noncomputable def oriellaw12_PenApplies (a0 : Int) (a1 : Int) (a2 : Int) (a3 : List Int) : Option (Bool) :=
  (oriellaw12_known).bind fun x1 =>
  bif (!x1) then
    (some false)
  else
    (bif (decide ((a3.length : Int) > 2000)) then
      (some true)
    else
      (req (((([] : List Int) ++ a3).length : Int) * 8 ≤ 140737488355328) (
      (pen_Apply a0 a1 a2 (([] : List Int) ++ a3)).bind fun (x2, x3, x4) =>
      (loopO (fun x7 => oriellaw12_PenApplies_loop1 a3 x7) 0).bind fun z => match z with
      | (.inl _) =>
        (orielref12_Apply a0 a1 a2 a3).bind fun (x12, x13, x14) =>
      bif (((x2 : Int) == x12) && (((x3 : Int) == x13) && (((x4 : Int) == x14) && true))) then
        ((pen_May a0 a1 a2).bind fun x15 =>
        (orielref12_May a0 a1 a2).bind fun x16 =>
        bif (x15 == x16) then
          ((pen_May x2 x3 x4).bind fun x17 =>
          some x17)
        else
          (some false))
      else
        (some false)
      | (.inr _) =>
        some false)))
theorem oriellaw12_PenApplies_ok {a0 : Int} {a1 : Int} {a2 : Int} {a3 : List Int} {x18 : Bool} (h : oriellaw12_PenApplies a0 a1 a2 a3 = some x18) : Pure En 3 [.agg [.int .i64 a0, .int .i64 a1, .int .i64 a2], .ro (fl (eI .i64) a3) a3.length none] (.bool x18) := by
  unfold oriellaw12_PenApplies at h
  refine ACalls_pureW En_ok (fn := Tryd.f3) Tryd.func3 rfl (by simp [Tryd.ntmps3]) ?_
  refine AW_seq ?_
  refine AW_region ?_
  refine AWl_xrun 2 _ _ _ [(4, .bool false), (2, .ptr 0 0), (0, .agg [.int .i64 a0, .int .i64 a1, .int .i64 a2]), (1, .ro (fl (eI .i64) a3) a3.length none)] [(0, some [.int .i64 a0, .int .i64 a1, .int .i64 a2])] (by kernel_rfl) ?_
  refine AWl_nilK [2, 1] [(2, .ptr 0 0), (1, .ro (fl (eI .i64) a3) a3.length none)] (by kernel_rfl) ?_
  refine athen_n ?_
  refine AW_seq ?_
  refine AW_seq ?_
  refine AW_region ?_
  obtain ⟨x1, h1, h21⟩ := bind_some h
  refine AWl_o (x := .bool x1) (wl := []) (AOp_callP En_ok Tryd.call8 (caps := []) (xs := []) rfl rfl (oriellaw12_known_ok h1) rfl) (by kernel_rfl) (by kernel_rfl) (by kernel_rfl) ?_
  refine AWl_xrun 1 _ _ _ [(9, .bool (!x1)), (8, .bool x1), (2, .ptr 0 0), (1, .ro (fl (eI .i64) a3) a3.length none)] [(0, some [.int .i64 a0, .int .i64 a1, .int .i64 a2])] (by kernel_rfl) ?_
  refine AWl_nilK [9, 2, 1] [(9, .bool (!x1)), (2, .ptr 0 0), (1, .ro (fl (eI .i64) a3) a3.length none)] (by kernel_rfl) ?_
  refine athen_n ?_
  cases h2 : (!x1)
  · have h22 := bif_f h2 h21
    refine AW_condF rfl ?_
    refine AW_skip ?_
    refine athen_n ?_
    refine AW_seq ?_
    refine AW_seq ?_
    refine AW_region ?_
    refine AWl_xrun 3 _ _ _ [(12, .bool (decide ((a3.length : Int) > 2000))), (11, .int .i64 (a3.length : Int)), (10, .ro (fl (eI .i64) a3) a3.length none), (9, .bool false), (2, .ptr 0 0), (1, .ro (fl (eI .i64) a3) a3.length none)] [(0, some [.int .i64 a0, .int .i64 a1, .int .i64 a2])] (by kernel_rfl) ?_
    refine AWl_nilK [12, 2, 1] [(12, .bool (decide ((a3.length : Int) > 2000))), (2, .ptr 0 0), (1, .ro (fl (eI .i64) a3) a3.length none)] (by kernel_rfl) ?_
    refine athen_n ?_
    cases h3 : (decide ((a3.length : Int) > 2000))
    · have h23 := bif_f h3 h22
      refine AW_condF rfl ?_
      refine AW_skip ?_
      refine athen_n ?_
      refine AW_seq ?_
      refine AW_region ?_
      refine AWl_xrun 2 _ _ _ [(14, .ro (fl (eI .i64) a3) a3.length none), (13, .rw 1 0 0 1 (some 0)), (12, .bool false), (2, .ptr 0 0), (1, .ro (fl (eI .i64) a3) a3.length none)] [(0, some [.int .i64 a0, .int .i64 a1, .int .i64 a2]), (1, some [])] (by kernel_rfl) ?_
      obtain ⟨h4, h24⟩ := req_some h23
      refine AWl_o (x := .rw 2 0 ((([] : List Int) ++ a3).length) 1 none) (wl := [(1, none), (2, some (fl (eI .i64) (([] : List Int) ++ a3)))]) (AOp_appendL (e := (eI .i64)) (l := ([] : List Int)) (m := a3) 2 1 rfl rfl (.own rfl rfl rfl rfl) (Src.ok (.ro rfl rfl)) rfl rfl rfl rfl rfl rfl h4 (by decide) rfl) (by kernel_rfl) (by kernel_rfl) (by kernel_rfl) ?_
      refine AWl_xrun 1 _ _ _ [(5, .rw 2 0 ((([] : List Int) ++ a3).length) 1 none), (15, .rw 2 0 ((([] : List Int) ++ a3).length) 1 none), (14, .ro (fl (eI .i64) a3) a3.length none), (13, .rw 1 0 0 1 (some 0)), (12, .bool false), (2, .ptr 0 0), (1, .ro (fl (eI .i64) a3) a3.length none)] [(0, some [.int .i64 a0, .int .i64 a1, .int .i64 a2]), (1, none), (2, some (fl (eI .i64) (([] : List Int) ++ a3)))] (by kernel_rfl) ?_
      refine AWl_nilK [5, 2, 1] [(5, .rw 2 0 ((([] : List Int) ++ a3).length) 1 none), (2, .ptr 0 0), (1, .ro (fl (eI .i64) a3) a3.length none)] (by kernel_rfl) ?_
      refine athen_n ?_
      refine AW_seq ?_
      refine AW_region ?_
      refine AWl_xrun 2 _ _ _ [(17, .rw 2 0 ((([] : List Int) ++ a3).length) 1 none), (16, .agg [.int .i64 a0, .int .i64 a1, .int .i64 a2]), (5, .rw 2 0 ((([] : List Int) ++ a3).length) 1 none), (2, .ptr 0 0), (1, .ro (fl (eI .i64) a3) a3.length none)] [(0, some [.int .i64 a0, .int .i64 a1, .int .i64 a2]), (1, none), (2, some (fl (eI .i64) (([] : List Int) ++ a3)))] (by kernel_rfl) ?_
      obtain ⟨⟨x2, x3, x4⟩, h5, h25⟩ := bind_some h24
      refine AWl_o (x := .agg [.int .i64 x2, .int .i64 x3, .int .i64 x4]) (wl := []) (AOp_callB En_ok Tryd.call9 (caps := []) (xs := [.agg [.int .i64 a0, .int .i64 a1, .int .i64 a2], .rw 2 0 ((([] : List Int) ++ a3).length) 1 none]) rfl rfl (.cons (.pure rfl) (.cons (Out.fl rfl rfl rfl rfl) .nil)) (pen_Apply_ok h5) rfl) (by kernel_rfl) (by kernel_rfl) (by kernel_rfl) ?_
      refine AWl_xrun 2 _ _ _ [(6, .ptr 3 0), (18, .agg [.int .i64 x2, .int .i64 x3, .int .i64 x4]), (17, .rw 2 0 ((([] : List Int) ++ a3).length) 1 none), (16, .agg [.int .i64 a0, .int .i64 a1, .int .i64 a2]), (5, .rw 2 0 ((([] : List Int) ++ a3).length) 1 none), (2, .ptr 0 0), (1, .ro (fl (eI .i64) a3) a3.length none)] [(0, some [.int .i64 a0, .int .i64 a1, .int .i64 a2]), (1, none), (2, some (fl (eI .i64) (([] : List Int) ++ a3))), (3, some [.int .i64 x2, .int .i64 x3, .int .i64 x4])] (by kernel_rfl) ?_
      refine AWl_nilK [6, 5, 2, 1] [(6, .ptr 3 0), (5, .rw 2 0 ((([] : List Int) ++ a3).length) 1 none), (2, .ptr 0 0), (1, .ro (fl (eI .i64) a3) a3.length none)] (by kernel_rfl) ?_
      refine athen_n ?_
      refine AW_seq ?_
      refine AW_seq ?_
      refine AW_region ?_
      refine AWl_xrun 1 _ _ _ [(7, .int .i64 0), (6, .ptr 3 0), (5, .rw 2 0 ((([] : List Int) ++ a3).length) 1 none), (2, .ptr 0 0), (1, .ro (fl (eI .i64) a3) a3.length none)] [(0, some [.int .i64 a0, .int .i64 a1, .int .i64 a2]), (1, none), (2, some (fl (eI .i64) (([] : List Int) ++ a3))), (3, some [.int .i64 x2, .int .i64 x3, .int .i64 x4])] (by kernel_rfl) ?_
      refine AWl_nilK [7, 6, 5, 2, 1] [(7, .int .i64 0), (6, .ptr 3 0), (5, .rw 2 0 ((([] : List Int) ++ a3).length) 1 none), (2, .ptr 0 0), (1, .ro (fl (eI .i64) a3) a3.length none)] (by kernel_rfl) ?_
      refine athen_n ?_
      refine AW_block ?_
      obtain ⟨x11, h14, h26⟩ := bind_some h25
      refine AW_loopM _ (fun x7 => [(7, .int .i64 x7), (6, .ptr 3 0), (5, .rw 2 0 ((([] : List Int) ++ a3).length) 1 none), (2, .ptr 0 0), (1, .ro (fl (eI .i64) a3) a3.length none)]) (fun x7 => [(3, some [.int .i64 x2, .int .i64 x3, .int .i64 x4]), (2, some (fl (eI .i64) (([] : List Int) ++ a3))), (0, some [.int .i64 a0, .int .i64 a1, .int .i64 a2])]) (fun z e al L => match z with | (.inl _) => Tgt En (fun _ => False) (.exit 0) [(6, .ptr 3 0), (2, .ptr 0 0), (1, .ro (fl (eI .i64) a3) a3.length none)] [(3, some [.int .i64 x2, .int .i64 x3, .int .i64 x4]), (0, some [.int .i64 a0, .int .i64 a1, .int .i64 a2])] e al L | (.inr _) => Tgt En (fun _ => False) .ret [(4, .bool false)] [] e al L) h14 (Weak.ren [] [] (.cons rfl (.pure rfl) (.cons rfl (.ptr (l := 3) (l' := 3) rfl rfl) (.cons rfl (.rw (l := 2) (l' := 2) rfl rfl) (.cons rfl (.ptr (l := 0) (l' := 0) rfl rfl) (.cons rfl (.pure (by simp [pureV, within, withinL, fl_pure])) .nil))))) (.cons rfl (.pure rfl) (.cons rfl (.pure (fl_pure _)) (.cons rfl (.pure rfl) .nil))) (by kernel_rfl) (fun _ h => h.elim) En_ok) ?_ ?_
      · rintro x7 x19 h27
        have h28 : oriellaw12_PenApplies_loop1 a3 x7 = some _ := h27
        unfold oriellaw12_PenApplies_loop1 at h28
        refine AW_seq ?_
        refine AW_seq ?_
        refine AW_region ?_
        refine AWl_xrun 4 _ _ _ [(22, .bool (decide (x7 < (a3.length : Int)))), (21, .int .i64 (a3.length : Int)), (20, .ro (fl (eI .i64) a3) a3.length none), (19, .int .i64 x7), (7, .int .i64 x7), (6, .ptr 3 0), (5, .rw 2 0 ((([] : List Int) ++ a3).length) 1 none), (2, .ptr 0 0), (1, .ro (fl (eI .i64) a3) a3.length none)] [(3, some [.int .i64 x2, .int .i64 x3, .int .i64 x4]), (2, some (fl (eI .i64) (([] : List Int) ++ a3))), (0, some [.int .i64 a0, .int .i64 a1, .int .i64 a2])] (by kernel_rfl) ?_
        refine AWl_nilK [22, 7, 6, 5, 2, 1] [(22, .bool (decide (x7 < (a3.length : Int)))), (7, .int .i64 x7), (6, .ptr 3 0), (5, .rw 2 0 ((([] : List Int) ++ a3).length) 1 none), (2, .ptr 0 0), (1, .ro (fl (eI .i64) a3) a3.length none)] (by kernel_rfl) ?_
        refine athen_n ?_
        cases h10 : (decide (x7 < (a3.length : Int)))
        · have h29 := bif_f h10 h28
          refine AW_condF rfl ?_
          refine AW_exit ?_
          refine athen_exit ?_
          obtain rfl := Option.some.inj h29
          refine Round.off (by simp) (Tgt.mk (Weak.ren [] [] (.cons rfl (.ptr (l := 3) (l' := 3) rfl rfl) (.cons rfl (.ptr (l := 0) (l' := 0) rfl rfl) (.cons rfl (.pure (by simp [pureV, within, withinL, fl_pure])) .nil))) (.cons rfl (.pure rfl) (.cons rfl (.pure rfl) .nil)) (by kernel_rfl) (fun _ h => h.elim) En_ok))
        · have h30 := bif_t h10 h28
          refine AW_condT rfl ?_
          refine AW_skip ?_
          refine athen_n ?_
          refine AW_seq ?_
          refine AW_block ?_
          refine AW_seq ?_
          obtain ⟨x8, h11, h31⟩ := bind_some h30
          obtain ⟨x9, h12, h32⟩ := bind_some h31
          refine AW_drawK En_mixed [⟨[(5, .rw 2 0 ((([] : List Int) ++ a3).length) 1 none)], [], .rw 2 0 ((([] : List Int) ++ a3).length) 1 none, [], true, false⟩, ⟨[(7, .int .i64 x7)], [], .int .i64 x7, [], true, false⟩, ⟨[(25, .rw 2 0 ((([] : List Int) ++ a3).length) 1 none), (26, .int .i64 x7)], [], .ptr 2 (x7.toNat * 1), [], true, false⟩, ⟨[(27, .ptr 2 (x7.toNat * 1))], [(2, some (fl (eI .i64) (([] : List Int) ++ a3)))], .int .i64 x8, [], true, false⟩, ⟨[(1, .ro (fl (eI .i64) a3) a3.length none)], [], .ro (fl (eI .i64) a3) a3.length none, [], true, false⟩, ⟨[(7, .int .i64 x7)], [], .int .i64 x7, [], true, false⟩, ⟨[(29, .ro (fl (eI .i64) a3) a3.length none), (30, .int .i64 x7)], [], .rop (fl (eI .i64) a3) (x7.toNat * 1), [], true, false⟩, ⟨[(31, .rop (fl (eI .i64) a3) (x7.toNat * 1))], [], .int .i64 x9, [], true, false⟩, ⟨[(28, .int .i64 x8), (32, .int .i64 x9)], [], .bool ((x8 : Int) != x9), [], true, false⟩] [33, 7, 6, 5, 2, 1] [(33, .bool ((x8 : Int) != x9)), (7, .int .i64 x7), (6, .ptr 3 0), (5, .rw 2 0 ((([] : List Int) ++ a3).length) 1 none), (2, .ptr 0 0), (1, .ro (fl (eI .i64) a3) a3.length none)] [(3, some [.int .i64 x2, .int .i64 x3, .int .i64 x4]), (2, some (fl (eI .i64) (([] : List Int) ++ a3))), (0, some [.int .i64 a0, .int .i64 a1, .int .i64 a2])] (.x 4 rfl (by kernel_rfl) (.x 4 rfl (by kernel_rfl) (.o (AOp_idxRw (l := (([] : List Int) ++ a3)) 1 (by exact rfl) (by exact rfl) (by exact rfl) (by exact rfl) (by exact rfl) (by exact rfl) h11) (.o (AOp_loadEl (e := (eI .i64)) (l := (([] : List Int) ++ a3)) (i := x7) 0 1 1 (by exact rfl) (by exact rfl) (by exact rfl) (by exact rfl) (by exact rfl) h11 (by exact rfl) (by kernel_rfl) (by kernel_rfl)) (.x 4 rfl (by kernel_rfl) (.x 4 rfl (by kernel_rfl) (.o (AOp_idxRo (e := (eI .i64)) (l := a3) 1 (by exact rfl) (by exact rfl) (by exact rfl) (by exact rfl) (by exact rfl) (by exact rfl) h12) (.o (AOp_loadEl (e := (eI .i64)) (l := a3) (i := x7) 0 1 1 (by exact rfl) (by exact rfl) (by exact rfl) (by exact rfl) (by exact rfl) h12 (by exact rfl) (by kernel_rfl) (by kernel_rfl)) (.x 4 rfl (by kernel_rfl) .nil))))))))) (by kernel_rfl) (by kernel_rfl) (by kernel_rfl) (by kernel_rfl) (by kernel_rfl) (by kernel_rfl) ?_
          refine athen_n ?_
          cases h13 : ((x8 : Int) != x9)
          · have h33 := bif_f h13 h32
            refine AW_condF rfl ?_
            refine AW_skip ?_
            refine ablock_n ?_
            refine athen_n ?_
            refine AW_region ?_
            refine AWl_xrun 3 _ _ _ [(7, .int .i64 (IntKind.i64.wrap (x7 + 1))), (24, .int .i64 (IntKind.i64.wrap (x7 + 1))), (23, .int .i64 x7), (33, .bool false), (7, .int .i64 x7), (6, .ptr 3 0), (5, .rw 2 0 ((([] : List Int) ++ a3).length) 1 none), (2, .ptr 0 0), (1, .ro (fl (eI .i64) a3) a3.length none)] [(3, some [.int .i64 x2, .int .i64 x3, .int .i64 x4]), (2, some (fl (eI .i64) (([] : List Int) ++ a3))), (0, some [.int .i64 a0, .int .i64 a1, .int .i64 a2])] (by kernel_rfl) ?_
            refine AWl_nilK [7, 6, 5, 2, 1] [(7, .int .i64 (IntKind.i64.wrap (x7 + 1))), (6, .ptr 3 0), (5, .rw 2 0 ((([] : List Int) ++ a3).length) 1 none), (2, .ptr 0 0), (1, .ro (fl (eI .i64) a3) a3.length none)] (by kernel_rfl) ?_
            obtain rfl := Option.some.inj h33
            refine Round.on (Weak.ren [] [] (.cons rfl (.pure rfl) (.cons rfl (.ptr (l := 3) (l' := 3) rfl rfl) (.cons rfl (.rw (l := 2) (l' := 2) rfl rfl) (.cons rfl (.ptr (l := 0) (l' := 0) rfl rfl) (.cons rfl (.pure (by simp [pureV, within, withinL, fl_pure])) .nil))))) (.cons rfl (.pure rfl) (.cons rfl (.pure (fl_pure _)) (.cons rfl (.pure rfl) .nil))) (by kernel_rfl) (fun _ h => h.elim) En_ok)
          · have h34 := bif_t h13 h32
            refine AW_condT rfl ?_
            refine AW_seq ?_
            refine AW_region ?_
            refine AWl_xrun 1 _ _ _ [(4, .bool false), (33, .bool true), (7, .int .i64 x7), (6, .ptr 3 0), (5, .rw 2 0 ((([] : List Int) ++ a3).length) 1 none), (2, .ptr 0 0), (1, .ro (fl (eI .i64) a3) a3.length none)] [(3, some [.int .i64 x2, .int .i64 x3, .int .i64 x4]), (2, some (fl (eI .i64) (([] : List Int) ++ a3))), (0, some [.int .i64 a0, .int .i64 a1, .int .i64 a2])] (by kernel_rfl) ?_
            refine AWl_nilK [4] [(4, .bool false)] (by kernel_rfl) ?_
            refine athen_n ?_
            refine AW_ret ?_
            refine ablock_ret ?_
            refine athen_ret ?_
            obtain rfl := Option.some.inj h34
            refine Round.off (by simp) (Tgt.mk (Weak.ren [] [] (.cons rfl (.pure rfl) .nil) .nil (by kernel_rfl) (fun _ h => h.elim) En_ok))
      · rcases x11 with ⟨⟩ | ⟨⟩
        · rintro e al L ⟨rfl, h35⟩ -
          refine ⟨_, _, h35, ?_⟩
          refine ablock_eq ?_
          refine athen_n ?_
          refine AW_seq ?_
          obtain ⟨⟨x12, x13, x14⟩, h15, h36⟩ := bind_some h26
          cases h16 : (((x2 : Int) == x12) && (((x3 : Int) == x13) && (((x4 : Int) == x14) && true)))
          · have h37 := bif_f h16 h36
            refine AW_drawK En_mixed [⟨[(6, .ptr 3 0)], [(3, some [.int .i64 x2, .int .i64 x3, .int .i64 x4])], .agg [.int .i64 x2, .int .i64 x3, .int .i64 x4], [], true, false⟩, ⟨[(2, .ptr 0 0)], [(0, some [.int .i64 a0, .int .i64 a1, .int .i64 a2])], .agg [.int .i64 a0, .int .i64 a1, .int .i64 a2], [], true, false⟩, ⟨[(1, .ro (fl (eI .i64) a3) a3.length none)], [], .ro (fl (eI .i64) a3) a3.length none, [], true, false⟩, ⟨[(35, .agg [.int .i64 a0, .int .i64 a1, .int .i64 a2]), (36, .ro (fl (eI .i64) a3) a3.length none)], [], .agg [.int .i64 x12, .int .i64 x13, .int .i64 x14], [], true, false⟩, ⟨[(34, .agg [.int .i64 x2, .int .i64 x3, .int .i64 x4]), (37, .agg [.int .i64 x12, .int .i64 x13, .int .i64 x14])], [], .bool false, [], true, false⟩, ⟨[(38, .bool false)], [], .bool false, [], true, false⟩, ⟨[], [], .dead, [], false, false⟩, ⟨[], [], .dead, [], false, false⟩, ⟨[], [], .dead, [], false, false⟩, ⟨[], [], .dead, [], false, false⟩, ⟨[], [], .dead, [], false, false⟩, ⟨[(39, .bool false), (44, .dead)], [], .bool false, [], true, false⟩, ⟨[(45, .bool false)], [], .bool false, [], true, false⟩, ⟨[], [], .dead, [], false, false⟩, ⟨[], [], .dead, [], false, false⟩, ⟨[(46, .bool false), (48, .dead)], [], .bool false, [], true, false⟩, ⟨[(49, .bool false)], [], .bool false, [], true, false⟩] [4] [(4, .bool false)] [(3, some [.int .i64 x2, .int .i64 x3, .int .i64 x4]), (0, some [.int .i64 a0, .int .i64 a1, .int .i64 a2])] (.x 4 rfl (by kernel_rfl) (.x 4 rfl (by kernel_rfl) (.x 4 rfl (by kernel_rfl) (.o (AOp_callP En_ok Tryd.call10 (caps := []) (xs := [.agg [.int .i64 a0, .int .i64 a1, .int .i64 a2], .ro (fl (eI .i64) a3) a3.length none]) (by exact rfl) (by exact rfl) (orielref12_Apply_ok h15) (by simp [pureV, within, withinL, fl_pure])) (.xb h16 (by kernel_rfl) rfl (.x 4 rfl (by kernel_rfl) (.skip rfl (.skip rfl (.skip rfl (.skip rfl (.skip rfl (.x 4 rfl (by kernel_rfl) (.x 4 rfl (by kernel_rfl) (.skip rfl (.skip rfl (.x 4 rfl (by kernel_rfl) (.x 4 rfl (by kernel_rfl) .nil))))))))))))))))) (by kernel_rfl) (by kernel_rfl) (by kernel_rfl) (by kernel_rfl) (by kernel_rfl) (by kernel_rfl) ?_
            refine athen_n ?_
            refine AW_ret ?_
            obtain rfl := Option.some.inj h37
            refine RetsW.mk [(4, .bool false)] [] (Weak.ren [] [] (.cons rfl (.pure rfl) .nil) .nil (by kernel_rfl) (fun _ h => h.elim) En_ok) (rets1 (x := .bool false) (.inl rfl) (by kernel_rfl) (.pure rfl))
          · have h38 := bif_t h16 h36
            obtain ⟨x15, h17, h39⟩ := bind_some h38
            obtain ⟨x16, h18, h40⟩ := bind_some h39
            cases h19 : (x15 == x16)
            · have h41 := bif_f h19 h40
              refine AW_drawK En_mixed [⟨[(6, .ptr 3 0)], [(3, some [.int .i64 x2, .int .i64 x3, .int .i64 x4])], .agg [.int .i64 x2, .int .i64 x3, .int .i64 x4], [], true, false⟩, ⟨[(2, .ptr 0 0)], [(0, some [.int .i64 a0, .int .i64 a1, .int .i64 a2])], .agg [.int .i64 a0, .int .i64 a1, .int .i64 a2], [], true, false⟩, ⟨[(1, .ro (fl (eI .i64) a3) a3.length none)], [], .ro (fl (eI .i64) a3) a3.length none, [], true, false⟩, ⟨[(35, .agg [.int .i64 a0, .int .i64 a1, .int .i64 a2]), (36, .ro (fl (eI .i64) a3) a3.length none)], [], .agg [.int .i64 x12, .int .i64 x13, .int .i64 x14], [], true, false⟩, ⟨[(34, .agg [.int .i64 x2, .int .i64 x3, .int .i64 x4]), (37, .agg [.int .i64 x12, .int .i64 x13, .int .i64 x14])], [], .bool true, [], true, false⟩, ⟨[(38, .bool true)], [], .bool true, [], true, false⟩, ⟨[(2, .ptr 0 0)], [(0, some [.int .i64 a0, .int .i64 a1, .int .i64 a2])], .agg [.int .i64 a0, .int .i64 a1, .int .i64 a2], [], true, false⟩, ⟨[(40, .agg [.int .i64 a0, .int .i64 a1, .int .i64 a2])], [], .bool x15, [], true, false⟩, ⟨[(2, .ptr 0 0)], [(0, some [.int .i64 a0, .int .i64 a1, .int .i64 a2])], .agg [.int .i64 a0, .int .i64 a1, .int .i64 a2], [], true, false⟩, ⟨[(42, .agg [.int .i64 a0, .int .i64 a1, .int .i64 a2])], [], .bool x16, [], true, false⟩, ⟨[(41, .bool x15), (43, .bool x16)], [], .bool false, [], true, false⟩, ⟨[(39, .bool true), (44, .bool false)], [], .bool false, [], true, false⟩, ⟨[(45, .bool false)], [], .bool false, [], true, false⟩, ⟨[], [], .dead, [], false, false⟩, ⟨[], [], .dead, [], false, false⟩, ⟨[(46, .bool false), (48, .dead)], [], .bool false, [], true, false⟩, ⟨[(49, .bool false)], [], .bool false, [], true, false⟩] [4] [(4, .bool false)] [(3, some [.int .i64 x2, .int .i64 x3, .int .i64 x4]), (0, some [.int .i64 a0, .int .i64 a1, .int .i64 a2])] (.x 4 rfl (by kernel_rfl) (.x 4 rfl (by kernel_rfl) (.x 4 rfl (by kernel_rfl) (.o (AOp_callP En_ok Tryd.call10 (caps := []) (xs := [.agg [.int .i64 a0, .int .i64 a1, .int .i64 a2], .ro (fl (eI .i64) a3) a3.length none]) (by exact rfl) (by exact rfl) (orielref12_Apply_ok h15) (by simp [pureV, within, withinL, fl_pure])) (.xb h16 (by kernel_rfl) rfl (.x 4 rfl (by kernel_rfl) (.x 4 rfl (by kernel_rfl) (.o (AOp_callP En_ok Tryd.call11 (caps := []) (xs := [.agg [.int .i64 a0, .int .i64 a1, .int .i64 a2]]) (by exact rfl) (by exact rfl) (pen_May_ok h17) (by exact rfl)) (.x 4 rfl (by kernel_rfl) (.o (AOp_callP En_ok Tryd.call12 (caps := []) (xs := [.agg [.int .i64 a0, .int .i64 a1, .int .i64 a2]]) (by exact rfl) (by exact rfl) (orielref12_May_ok h18) (by exact rfl)) (.xb h19 (by kernel_rfl) rfl (.x 4 rfl (by kernel_rfl) (.x 4 rfl (by kernel_rfl) (.skip rfl (.skip rfl (.x 4 rfl (by kernel_rfl) (.x 4 rfl (by kernel_rfl) .nil))))))))))))))))) (by kernel_rfl) (by kernel_rfl) (by kernel_rfl) (by kernel_rfl) (by kernel_rfl) (by kernel_rfl) ?_
              refine athen_n ?_
              refine AW_ret ?_
              obtain rfl := Option.some.inj h41
              refine RetsW.mk [(4, .bool false)] [] (Weak.ren [] [] (.cons rfl (.pure rfl) .nil) .nil (by kernel_rfl) (fun _ h => h.elim) En_ok) (rets1 (x := .bool false) (.inl rfl) (by kernel_rfl) (.pure rfl))
            · have h42 := bif_t h19 h40
              obtain ⟨x17, h20, h43⟩ := bind_some h42
              refine AW_drawK En_mixed [⟨[(6, .ptr 3 0)], [(3, some [.int .i64 x2, .int .i64 x3, .int .i64 x4])], .agg [.int .i64 x2, .int .i64 x3, .int .i64 x4], [], true, false⟩, ⟨[(2, .ptr 0 0)], [(0, some [.int .i64 a0, .int .i64 a1, .int .i64 a2])], .agg [.int .i64 a0, .int .i64 a1, .int .i64 a2], [], true, false⟩, ⟨[(1, .ro (fl (eI .i64) a3) a3.length none)], [], .ro (fl (eI .i64) a3) a3.length none, [], true, false⟩, ⟨[(35, .agg [.int .i64 a0, .int .i64 a1, .int .i64 a2]), (36, .ro (fl (eI .i64) a3) a3.length none)], [], .agg [.int .i64 x12, .int .i64 x13, .int .i64 x14], [], true, false⟩, ⟨[(34, .agg [.int .i64 x2, .int .i64 x3, .int .i64 x4]), (37, .agg [.int .i64 x12, .int .i64 x13, .int .i64 x14])], [], .bool true, [], true, false⟩, ⟨[(38, .bool true)], [], .bool true, [], true, false⟩, ⟨[(2, .ptr 0 0)], [(0, some [.int .i64 a0, .int .i64 a1, .int .i64 a2])], .agg [.int .i64 a0, .int .i64 a1, .int .i64 a2], [], true, false⟩, ⟨[(40, .agg [.int .i64 a0, .int .i64 a1, .int .i64 a2])], [], .bool x15, [], true, false⟩, ⟨[(2, .ptr 0 0)], [(0, some [.int .i64 a0, .int .i64 a1, .int .i64 a2])], .agg [.int .i64 a0, .int .i64 a1, .int .i64 a2], [], true, false⟩, ⟨[(42, .agg [.int .i64 a0, .int .i64 a1, .int .i64 a2])], [], .bool x16, [], true, false⟩, ⟨[(41, .bool x15), (43, .bool x16)], [], .bool true, [], true, false⟩, ⟨[(39, .bool true), (44, .bool true)], [], .bool true, [], true, false⟩, ⟨[(45, .bool true)], [], .bool true, [], true, false⟩, ⟨[(6, .ptr 3 0)], [(3, some [.int .i64 x2, .int .i64 x3, .int .i64 x4])], .agg [.int .i64 x2, .int .i64 x3, .int .i64 x4], [], true, false⟩, ⟨[(47, .agg [.int .i64 x2, .int .i64 x3, .int .i64 x4])], [], .bool x17, [], true, false⟩, ⟨[(46, .bool true), (48, .bool x17)], [], .bool x17, [], true, false⟩, ⟨[(49, .bool x17)], [], .bool x17, [], true, false⟩] [4] [(4, .bool x17)] [(3, some [.int .i64 x2, .int .i64 x3, .int .i64 x4]), (0, some [.int .i64 a0, .int .i64 a1, .int .i64 a2])] (.x 4 rfl (by kernel_rfl) (.x 4 rfl (by kernel_rfl) (.x 4 rfl (by kernel_rfl) (.o (AOp_callP En_ok Tryd.call10 (caps := []) (xs := [.agg [.int .i64 a0, .int .i64 a1, .int .i64 a2], .ro (fl (eI .i64) a3) a3.length none]) (by exact rfl) (by exact rfl) (orielref12_Apply_ok h15) (by simp [pureV, within, withinL, fl_pure])) (.xb h16 (by kernel_rfl) rfl (.x 4 rfl (by kernel_rfl) (.x 4 rfl (by kernel_rfl) (.o (AOp_callP En_ok Tryd.call11 (caps := []) (xs := [.agg [.int .i64 a0, .int .i64 a1, .int .i64 a2]]) (by exact rfl) (by exact rfl) (pen_May_ok h17) (by exact rfl)) (.x 4 rfl (by kernel_rfl) (.o (AOp_callP En_ok Tryd.call12 (caps := []) (xs := [.agg [.int .i64 a0, .int .i64 a1, .int .i64 a2]]) (by exact rfl) (by exact rfl) (orielref12_May_ok h18) (by exact rfl)) (.xb h19 (by kernel_rfl) rfl (.x 4 rfl (by kernel_rfl) (.x 4 rfl (by kernel_rfl) (.x 4 rfl (by kernel_rfl) (.o (AOp_callP En_ok Tryd.call11 (caps := []) (xs := [.agg [.int .i64 x2, .int .i64 x3, .int .i64 x4]]) (by exact rfl) (by exact rfl) (pen_May_ok h20) (by exact rfl)) (.x 4 rfl (by kernel_rfl) (.x 4 rfl (by kernel_rfl) .nil))))))))))))))))) (by kernel_rfl) (by kernel_rfl) (by kernel_rfl) (by kernel_rfl) (by kernel_rfl) (by kernel_rfl) ?_
              refine athen_n ?_
              refine AW_ret ?_
              obtain rfl := Option.some.inj h43
              refine RetsW.mk [(4, .bool x17)] [] (Weak.ren [] [] (.cons rfl (.pure rfl) .nil) .nil (by kernel_rfl) (fun _ h => h.elim) En_ok) (rets1 (x := .bool x17) (.inl rfl) (by kernel_rfl) (.pure rfl))
        · rintro e al L ⟨rfl, h35⟩ -
          refine ⟨_, _, h35, ?_⟩
          refine ablock_ret ?_
          refine athen_ret ?_
          obtain rfl := Option.some.inj h26
          refine RetsW.mk [(4, .bool false)] [] (Weak.ren [] [] (.cons rfl (.pure rfl) .nil) .nil (by kernel_rfl) (fun _ h => h.elim) En_ok) (rets1 (x := .bool false) (.inl rfl) (by kernel_rfl) (.pure rfl))
    · have h44 := bif_t h3 h22
      refine AW_condT rfl ?_
      refine AW_seq ?_
      refine AW_region ?_
      refine AWl_xrun 1 _ _ _ [(4, .bool true), (12, .bool true), (2, .ptr 0 0), (1, .ro (fl (eI .i64) a3) a3.length none)] [(0, some [.int .i64 a0, .int .i64 a1, .int .i64 a2])] (by kernel_rfl) ?_
      refine AWl_nilK [4] [(4, .bool true)] (by kernel_rfl) ?_
      refine athen_n ?_
      refine AW_ret ?_
      refine athen_ret ?_
      obtain rfl := Option.some.inj h44
      refine RetsW.mk [(4, .bool true)] [] (Weak.ren [] [] (.cons rfl (.pure rfl) .nil) .nil (by kernel_rfl) (fun _ h => h.elim) En_ok) (rets1 (x := .bool true) (.inl rfl) (by kernel_rfl) (.pure rfl))
  · have h45 := bif_t h2 h21
    refine AW_condT rfl ?_
    refine AW_seq ?_
    refine AW_region ?_
    refine AWl_xrun 1 _ _ _ [(4, .bool false), (9, .bool true), (2, .ptr 0 0), (1, .ro (fl (eI .i64) a3) a3.length none)] [(0, some [.int .i64 a0, .int .i64 a1, .int .i64 a2])] (by kernel_rfl) ?_
    refine AWl_nilK [4] [(4, .bool false)] (by kernel_rfl) ?_
    refine athen_n ?_
    refine AW_ret ?_
    refine athen_ret ?_
    obtain rfl := Option.some.inj h45
    refine RetsW.mk [(4, .bool false)] [] (Weak.ren [] [] (.cons rfl (.pure rfl) .nil) .nil (by kernel_rfl) (fun _ h => h.elim) En_ok) (rets1 (x := .bool false) (.inl rfl) (by kernel_rfl) (.pure rfl))
noncomputable def orielref12_colour (a0 : Int) (a1 : Int) (a2 : Int) (a3 : Int) : Option ((List Int)) :=
  bif (decide (a0 ≤ 8)) then
    (some ([IntKind.i64.wrap ((IntKind.i64.wrap (a1 + a0)) - 1)] : List Int))
  else
    (bif (decide (a0 ≤ 16)) then
      (some ([IntKind.i64.wrap ((IntKind.i64.wrap (a2 + a0)) - 9)] : List Int))
    else
      (some ([a3, 5, IntKind.i64.wrap (a0 - 1)] : List Int)))
theorem orielref12_colour_ok {a0 : Int} {a1 : Int} {a2 : Int} {a3 : Int} {x1 : List Int} (h : orielref12_colour a0 a1 a2 a3 = some x1) : Pure En 27 [.int .i64 a0, .int .i64 a1, .int .i64 a2, .int .i64 a3] (.ro (fl (eI .i64) x1) x1.length none) := by
  unfold orielref12_colour at h
  refine ACalls_pureW En_ok (fn := Tryd.f27) Tryd.func27 rfl (by simp [Tryd.ntmps27]) ?_
  refine AW_seq ?_
  refine AW_region ?_
  refine AWl_xrun 1 _ _ _ [(8, .nils), (0, .int .i64 a0), (1, .int .i64 a1), (2, .int .i64 a2), (3, .int .i64 a3)] [] (by kernel_rfl) ?_
  refine AWl_nilK [0, 1, 2, 3] [(0, .int .i64 a0), (1, .int .i64 a1), (2, .int .i64 a2), (3, .int .i64 a3)] (by kernel_rfl) ?_
  refine athen_n ?_
  refine AW_seq ?_
  refine AW_block ?_
  refine AW_seq ?_
  refine AW_region ?_
  refine AWl_xrun 3 _ _ _ [(9, .bool (decide (a0 ≤ 8))), (11, .bool (decide (a0 ≤ 8))), (10, .int .i64 a0), (0, .int .i64 a0), (1, .int .i64 a1), (2, .int .i64 a2), (3, .int .i64 a3)] [] (by kernel_rfl) ?_
  refine AWl_nilK [9, 0, 1, 2, 3] [(9, .bool (decide (a0 ≤ 8))), (0, .int .i64 a0), (1, .int .i64 a1), (2, .int .i64 a2), (3, .int .i64 a3)] (by kernel_rfl) ?_
  refine athen_n ?_
  cases h1 : (decide (a0 ≤ 8))
  · have h3 := bif_f h1 h
    refine AW_condF rfl ?_
    refine AW_seq ?_
    refine AW_region ?_
    refine AWl_xrun 3 _ _ _ [(17, .bool (decide (a0 ≤ 16))), (19, .bool (decide (a0 ≤ 16))), (18, .int .i64 a0), (9, .bool false), (0, .int .i64 a0), (1, .int .i64 a1), (2, .int .i64 a2), (3, .int .i64 a3)] [] (by kernel_rfl) ?_
    refine AWl_nilK [17, 0, 2, 3] [(17, .bool (decide (a0 ≤ 16))), (0, .int .i64 a0), (2, .int .i64 a2), (3, .int .i64 a3)] (by kernel_rfl) ?_
    refine athen_n ?_
    cases h2 : (decide (a0 ≤ 16))
    · have h4 := bif_f h2 h3
      refine AW_condF rfl ?_
      refine AW_skip ?_
      refine ablock_n ?_
      refine athen_n ?_
      refine AW_seq ?_
      refine AW_region ?_
      refine AWl_xrun 5 _ _ _ [(8, .rw 0 0 3 1 (some 3)), (28, .rw 0 0 3 1 (some 3)), (27, .int .i64 (IntKind.i64.wrap (a0 - 1))), (26, .int .i64 a0), (25, .int .i64 a3), (17, .bool false), (0, .int .i64 a0), (2, .int .i64 a2), (3, .int .i64 a3)] [(0, some [.int .i64 a3, .int .i64 5, .int .i64 (IntKind.i64.wrap (a0 - 1))])] (by kernel_rfl) ?_
      refine AWl_nilK [8] [(8, .rw 0 0 3 1 (some 3))] (by kernel_rfl) ?_
      refine athen_n ?_
      refine AW_ret ?_
      obtain rfl := Option.some.inj h4
      refine RetsW.mk [(8, .rw 0 0 (([a3, 5, IntKind.i64.wrap (a0 - 1)] : List Int).length) 1 none)] [(0, some (fl (eI .i64) ([a3, 5, IntKind.i64.wrap (a0 - 1)] : List Int)))] (Weak.ren [] [] (.cons rfl (.rwCo (l := 0) (l' := 0) rfl rfl) .nil) (.cons rfl (.pure rfl) .nil) (by kernel_rfl) (fun _ h => h.elim) En_ok) (rets1 (x := .rw 0 0 (([a3, 5, IntKind.i64.wrap (a0 - 1)] : List Int).length) 1 none) (.inl rfl) (by kernel_rfl) (Out.fl rfl rfl rfl rfl))
    · have h5 := bif_t h2 h3
      refine AW_condT rfl ?_
      refine AW_seq ?_
      refine AW_region ?_
      refine AWl_xrun 6 _ _ _ [(8, .rw 0 0 1 1 (some 1)), (24, .rw 0 0 1 1 (some 1)), (23, .int .i64 (IntKind.i64.wrap ((IntKind.i64.wrap (a2 + a0)) - 9))), (22, .int .i64 (IntKind.i64.wrap (a2 + a0))), (21, .int .i64 a0), (20, .int .i64 a2), (17, .bool true), (0, .int .i64 a0), (2, .int .i64 a2), (3, .int .i64 a3)] [(0, some [.int .i64 (IntKind.i64.wrap ((IntKind.i64.wrap (a2 + a0)) - 9))])] (by kernel_rfl) ?_
      refine AWl_nilK [8] [(8, .rw 0 0 1 1 (some 1))] (by kernel_rfl) ?_
      refine athen_n ?_
      refine AW_ret ?_
      refine ablock_ret ?_
      refine athen_ret ?_
      obtain rfl := Option.some.inj h5
      refine RetsW.mk [(8, .rw 0 0 (([IntKind.i64.wrap ((IntKind.i64.wrap (a2 + a0)) - 9)] : List Int).length) 1 none)] [(0, some (fl (eI .i64) ([IntKind.i64.wrap ((IntKind.i64.wrap (a2 + a0)) - 9)] : List Int)))] (Weak.ren [] [] (.cons rfl (.rwCo (l := 0) (l' := 0) rfl rfl) .nil) (.cons rfl (.pure rfl) .nil) (by kernel_rfl) (fun _ h => h.elim) En_ok) (rets1 (x := .rw 0 0 (([IntKind.i64.wrap ((IntKind.i64.wrap (a2 + a0)) - 9)] : List Int).length) 1 none) (.inl rfl) (by kernel_rfl) (Out.fl rfl rfl rfl rfl))
  · have h6 := bif_t h1 h
    refine AW_condT rfl ?_
    refine AW_seq ?_
    refine AW_region ?_
    refine AWl_xrun 6 _ _ _ [(8, .rw 0 0 1 1 (some 1)), (16, .rw 0 0 1 1 (some 1)), (15, .int .i64 (IntKind.i64.wrap ((IntKind.i64.wrap (a1 + a0)) - 1))), (14, .int .i64 (IntKind.i64.wrap (a1 + a0))), (13, .int .i64 a0), (12, .int .i64 a1), (9, .bool true), (0, .int .i64 a0), (1, .int .i64 a1), (2, .int .i64 a2), (3, .int .i64 a3)] [(0, some [.int .i64 (IntKind.i64.wrap ((IntKind.i64.wrap (a1 + a0)) - 1))])] (by kernel_rfl) ?_
    refine AWl_nilK [8] [(8, .rw 0 0 1 1 (some 1))] (by kernel_rfl) ?_
    refine athen_n ?_
    refine AW_ret ?_
    refine ablock_ret ?_
    refine athen_ret ?_
    obtain rfl := Option.some.inj h6
    refine RetsW.mk [(8, .rw 0 0 (([IntKind.i64.wrap ((IntKind.i64.wrap (a1 + a0)) - 1)] : List Int).length) 1 none)] [(0, some (fl (eI .i64) ([IntKind.i64.wrap ((IntKind.i64.wrap (a1 + a0)) - 1)] : List Int)))] (Weak.ren [] [] (.cons rfl (.rwCo (l := 0) (l' := 0) rfl rfl) .nil) (.cons rfl (.pure rfl) .nil) (by kernel_rfl) (fun _ h => h.elim) En_ok) (rets1 (x := .rw 0 0 (([IntKind.i64.wrap ((IntKind.i64.wrap (a1 + a0)) - 1)] : List Int).length) 1 none) (.inl rfl) (by kernel_rfl) (Out.fl rfl rfl rfl rfl))
noncomputable def orielref12_Turn_loop1 (x2 : Int) (x6 : Int) (x14 : Int) (x15 : Bool) : Option (Bool ⊕ (Int × Bool)) :=
    bif (decide (x14 < 8)) then
      (((req (0 ≤ (IntKind.u64.wrap x14)) (
          bif (((Int.tmod (Int.fdiv x2 (2 ^ (min (IntKind.u64.wrap x14).toNat 64))) 2) : Int) == 1) then
            (req (0 ≤ (IntKind.u64.wrap x14)) (
            some (((Int.tmod (Int.fdiv x6 (2 ^ (min (IntKind.u64.wrap x14).toNat 64))) 2) : Int) == 0)))
          else
            (some false)) : Option (Bool)).bind fun x16 =>
        bif x16 then
          (some true)
        else
          (some x15) : Option (Bool)).bind fun x18 =>
      some (.inr (IntKind.i64.wrap (x14 + 1), x18)))
    else
      (some (.inl x15))
noncomputable def orielref12_Turn_loop2 (x6 : Int) (x24 : Int) (x33 : Int) (x34 : List Int) : Option ((List Int) ⊕ (Int × (List Int))) :=
    bif (decide (x33 < 8)) then
      (((orielref12_bits x33).bind fun (x35, x36) =>
        (req (0 ≤ (IntKind.u64.wrap x33)) (
          bif (((Int.tmod (Int.fdiv x24 (2 ^ (min (IntKind.u64.wrap x33).toNat 64))) 2) : Int) == 0) then
            (req (0 ≤ (IntKind.u64.wrap x33)) (
            some (((Int.tmod (Int.fdiv x6 (2 ^ (min (IntKind.u64.wrap x33).toNat 64))) 2) : Int) == 1)))
          else
            (some false)) : Option (Bool)).bind fun x37 =>
        bif x37 then
          (req (((x34 ++ ([x36] : List Int)).length : Int) * 8 ≤ 140737488355328) (
          some (x34 ++ ([x36] : List Int))))
        else
          (some x34) : Option ((List Int))).bind fun x39 =>
      some (.inr (IntKind.i64.wrap (x33 + 1), x39)))
    else
      (some (.inl x34))
noncomputable def orielref12_Turn (a0 : Int) (a1 : Int) (a2 : Int) (a3 : Int) (a4 : Int) (a5 : Int) : Option ((List Int)) :=
  ((orielref12_May a0 a1 a2).bind fun x1 =>
    bif (!x1) then
      (some (0, 0, 0))
    else
      (some (a0, a1, a2)) : Option (Int × Int × Int)).bind fun (x2, x3, x4) =>
  ((orielref12_May a3 a4 a5).bind fun x5 =>
    bif (!x5) then
      (some (0, 0, 0))
    else
      (some (a3, a4, a5)) : Option (Int × Int × Int)).bind fun (x6, x7, x8) =>
  bif (((x2 : Int) == x6) && (((x3 : Int) == x7) && (((x4 : Int) == x8) && true))) then
    (some ([] : List Int))
  else
    ((bif ((x3 : Int) != 0) then
        (bif ((x7 : Int) == 0) then
          (some true)
        else
          (bif ((x4 : Int) != 0) then
            (some ((x8 : Int) == 0))
          else
            (some false)))
      else
        (bif ((x4 : Int) != 0) then
          (some ((x8 : Int) == 0))
        else
          (some false)) : Option (Bool)).bind fun x9 =>
    (loopO (fun z => match z with | (x14, x15) => orielref12_Turn_loop1 x2 x6 x14 x15) (0, x9)).bind fun x22 =>
    (bif x22 then
        (req (((([] : List Int) ++ ([0] : List Int)).length : Int) * 8 ≤ 140737488355328) (
        some (([] : List Int) ++ ([0] : List Int), 0, 0, 0)))
      else
        (some (([] : List Int), x2, x3, x4)) : Option ((List Int) × Int × Int × Int)).bind fun (x23, x24, x25, x26) =>
    (loopO (fun z => match z with | (x33, x34) => orielref12_Turn_loop2 x6 x24 x33 x34) (0, x23)).bind fun x43 =>
    (bif ((x25 : Int) != x7) then
        ((orielref12_colour x7 30 90 38).bind fun x44 =>
        req (((x43 ++ x44).length : Int) * 8 ≤ 140737488355328) (
        some (x43 ++ x44)))
      else
        (some x43) : Option ((List Int))).bind fun x45 =>
    (bif ((x26 : Int) != x8) then
        ((orielref12_colour x8 40 100 48).bind fun x46 =>
        req (((x45 ++ x46).length : Int) * 8 ≤ 140737488355328) (
        some (x45 ++ x46)))
      else
        (some x45) : Option ((List Int))).bind fun x47 =>
    some x47)
theorem orielref12_Turn_ok {a0 : Int} {a1 : Int} {a2 : Int} {a3 : Int} {a4 : Int} {a5 : Int} {x54 : List Int} (h : orielref12_Turn a0 a1 a2 a3 a4 a5 = some x54) : Pure En 14 [.agg [.int .i64 a0, .int .i64 a1, .int .i64 a2], .agg [.int .i64 a3, .int .i64 a4, .int .i64 a5]] (.ro (fl (eI .i64) x54) x54.length none) := by
  unfold orielref12_Turn at h
  refine ACalls_pureW En_ok (fn := Tryd.f14) Tryd.func14 rfl (by simp [Tryd.ntmps14]) ?_
  refine AW_seq ?_
  refine AW_region ?_
  refine AWl_xrun 3 _ _ _ [(4, .nils), (3, .ptr 1 0), (2, .ptr 0 0), (0, .agg [.int .i64 a0, .int .i64 a1, .int .i64 a2]), (1, .agg [.int .i64 a3, .int .i64 a4, .int .i64 a5])] [(0, some [.int .i64 a0, .int .i64 a1, .int .i64 a2]), (1, some [.int .i64 a3, .int .i64 a4, .int .i64 a5])] (by kernel_rfl) ?_
  refine AWl_nilK [3, 2] [(3, .ptr 1 0), (2, .ptr 0 0)] (by kernel_rfl) ?_
  refine athen_n ?_
  obtain ⟨⟨x2, x3, x4⟩, h51, h52⟩ := bind_some h
  refine AW_meetN (fun z => match z with | (x2, x3, x4) => [(3, .ptr 1 0), (2, .ptr 0 0)]) (fun z => match z with | (x2, x3, x4) => [(1, some [.int .i64 a3, .int .i64 a4, .int .i64 a5]), (0, some [.int .i64 x2, .int .i64 x3, .int .i64 x4])]) (x2, x3, x4) ?_ ?_
  · skip
    refine AW_seq ?_
    refine AW_region ?_
    refine AWl_xrun 1 _ _ _ [(11, .agg [.int .i64 a0, .int .i64 a1, .int .i64 a2]), (3, .ptr 1 0), (2, .ptr 0 0)] [(0, some [.int .i64 a0, .int .i64 a1, .int .i64 a2]), (1, some [.int .i64 a3, .int .i64 a4, .int .i64 a5])] (by kernel_rfl) ?_
    obtain ⟨x1, h1, h53⟩ := bind_some h51
    refine AWl_o (x := .bool x1) (wl := []) (AOp_callP En_ok Tryd.call12 (caps := []) (xs := [.agg [.int .i64 a0, .int .i64 a1, .int .i64 a2]]) rfl rfl (orielref12_May_ok h1) rfl) (by kernel_rfl) (by kernel_rfl) (by kernel_rfl) ?_
    refine AWl_xrun 1 _ _ _ [(13, .bool (!x1)), (12, .bool x1), (11, .agg [.int .i64 a0, .int .i64 a1, .int .i64 a2]), (3, .ptr 1 0), (2, .ptr 0 0)] [(0, some [.int .i64 a0, .int .i64 a1, .int .i64 a2]), (1, some [.int .i64 a3, .int .i64 a4, .int .i64 a5])] (by kernel_rfl) ?_
    refine AWl_nilK [13, 3, 2] [(13, .bool (!x1)), (3, .ptr 1 0), (2, .ptr 0 0)] (by kernel_rfl) ?_
    refine athen_n ?_
    cases h2 : (!x1)
    · have h54 := bif_f h2 h53
      refine AW_condF rfl ?_
      refine AW_skip ?_
      obtain ⟨rfl, h55⟩ := Prod.mk.inj (Option.some.inj h54)
      obtain ⟨rfl, rfl⟩ := Prod.mk.inj (h55)
      refine Tgt.mk (Weak.ren [] [] (.cons rfl (.ptr (l := 1) (l' := 1) rfl rfl) (.cons rfl (.ptr (l := 0) (l' := 0) rfl rfl) .nil)) (.cons rfl (.pure rfl) (.cons rfl (.pure rfl) .nil)) (by kernel_rfl) (fun _ h => h.elim) En_ok)
    · have h56 := bif_t h2 h53
      refine AW_condT rfl ?_
      refine AW_region ?_
      refine AWl_xrun 2 _ _ _ [(14, .agg [.int .i64 0, .int .i64 0, .int .i64 0]), (13, .bool true), (3, .ptr 1 0), (2, .ptr 0 0)] [(0, some [.int .i64 0, .int .i64 0, .int .i64 0]), (1, some [.int .i64 a3, .int .i64 a4, .int .i64 a5])] (by kernel_rfl) ?_
      refine AWl_nilK [3, 2] [(3, .ptr 1 0), (2, .ptr 0 0)] (by kernel_rfl) ?_
      obtain ⟨rfl, h57⟩ := Prod.mk.inj (Option.some.inj h56)
      obtain ⟨rfl, rfl⟩ := Prod.mk.inj (h57)
      refine Tgt.mk (Weak.ren [] [] (.cons rfl (.ptr (l := 1) (l' := 1) rfl rfl) (.cons rfl (.ptr (l := 0) (l' := 0) rfl rfl) .nil)) (.cons rfl (.pure rfl) (.cons rfl (.pure rfl) .nil)) (by kernel_rfl) (fun _ h => h.elim) En_ok)
  · skip
    obtain ⟨⟨x6, x7, x8⟩, h50, h58⟩ := bind_some h52
    refine AW_meetN (fun z => match z with | (x6, x7, x8) => [(3, .ptr 1 0), (2, .ptr 0 0)]) (fun z => match z with | (x6, x7, x8) => [(1, some [.int .i64 x6, .int .i64 x7, .int .i64 x8]), (0, some [.int .i64 x2, .int .i64 x3, .int .i64 x4])]) (x6, x7, x8) ?_ ?_
    · skip
      refine AW_seq ?_
      refine AW_region ?_
      refine AWl_xrun 1 _ _ _ [(15, .agg [.int .i64 a3, .int .i64 a4, .int .i64 a5]), (3, .ptr 1 0), (2, .ptr 0 0)] [(1, some [.int .i64 a3, .int .i64 a4, .int .i64 a5]), (0, some [.int .i64 x2, .int .i64 x3, .int .i64 x4])] (by kernel_rfl) ?_
      obtain ⟨x5, h3, h59⟩ := bind_some h50
      refine AWl_o (x := .bool x5) (wl := []) (AOp_callP En_ok Tryd.call12 (caps := []) (xs := [.agg [.int .i64 a3, .int .i64 a4, .int .i64 a5]]) rfl rfl (orielref12_May_ok h3) rfl) (by kernel_rfl) (by kernel_rfl) (by kernel_rfl) ?_
      refine AWl_xrun 1 _ _ _ [(17, .bool (!x5)), (16, .bool x5), (15, .agg [.int .i64 a3, .int .i64 a4, .int .i64 a5]), (3, .ptr 1 0), (2, .ptr 0 0)] [(1, some [.int .i64 a3, .int .i64 a4, .int .i64 a5]), (0, some [.int .i64 x2, .int .i64 x3, .int .i64 x4])] (by kernel_rfl) ?_
      refine AWl_nilK [17, 3, 2] [(17, .bool (!x5)), (3, .ptr 1 0), (2, .ptr 0 0)] (by kernel_rfl) ?_
      refine athen_n ?_
      cases h4 : (!x5)
      · have h60 := bif_f h4 h59
        refine AW_condF rfl ?_
        refine AW_skip ?_
        obtain ⟨rfl, h61⟩ := Prod.mk.inj (Option.some.inj h60)
        obtain ⟨rfl, rfl⟩ := Prod.mk.inj (h61)
        refine Tgt.mk (Weak.ren [] [] (.cons rfl (.ptr (l := 1) (l' := 1) rfl rfl) (.cons rfl (.ptr (l := 0) (l' := 0) rfl rfl) .nil)) (.cons rfl (.pure rfl) (.cons rfl (.pure rfl) .nil)) (by kernel_rfl) (fun _ h => h.elim) En_ok)
      · have h62 := bif_t h4 h59
        refine AW_condT rfl ?_
        refine AW_region ?_
        refine AWl_xrun 2 _ _ _ [(18, .agg [.int .i64 0, .int .i64 0, .int .i64 0]), (17, .bool true), (3, .ptr 1 0), (2, .ptr 0 0)] [(1, some [.int .i64 0, .int .i64 0, .int .i64 0]), (0, some [.int .i64 x2, .int .i64 x3, .int .i64 x4])] (by kernel_rfl) ?_
        refine AWl_nilK [3, 2] [(3, .ptr 1 0), (2, .ptr 0 0)] (by kernel_rfl) ?_
        obtain ⟨rfl, h63⟩ := Prod.mk.inj (Option.some.inj h62)
        obtain ⟨rfl, rfl⟩ := Prod.mk.inj (h63)
        refine Tgt.mk (Weak.ren [] [] (.cons rfl (.ptr (l := 1) (l' := 1) rfl rfl) (.cons rfl (.ptr (l := 0) (l' := 0) rfl rfl) .nil)) (.cons rfl (.pure rfl) (.cons rfl (.pure rfl) .nil)) (by kernel_rfl) (fun _ h => h.elim) En_ok)
    · skip
      refine AW_seq ?_
      refine AW_seq ?_
      refine AW_region ?_
      refine AWl_xrun 3 _ _ _ [(21, .bool (((x2 : Int) == x6) && (((x3 : Int) == x7) && (((x4 : Int) == x8) && true)))), (20, .agg [.int .i64 x6, .int .i64 x7, .int .i64 x8]), (19, .agg [.int .i64 x2, .int .i64 x3, .int .i64 x4]), (3, .ptr 1 0), (2, .ptr 0 0)] [(1, some [.int .i64 x6, .int .i64 x7, .int .i64 x8]), (0, some [.int .i64 x2, .int .i64 x3, .int .i64 x4])] (by kernel_rfl) ?_
      refine AWl_nilK [21, 3, 2] [(21, .bool (((x2 : Int) == x6) && (((x3 : Int) == x7) && (((x4 : Int) == x8) && true)))), (3, .ptr 1 0), (2, .ptr 0 0)] (by kernel_rfl) ?_
      refine athen_n ?_
      cases h5 : (((x2 : Int) == x6) && (((x3 : Int) == x7) && (((x4 : Int) == x8) && true)))
      · have h64 := bif_f h5 h58
        refine AW_condF rfl ?_
        refine AW_skip ?_
        refine athen_n ?_
        refine AW_seq ?_
        refine AW_region ?_
        refine AWl_xrun 1 _ _ _ [(5, .nils), (21, .bool false), (3, .ptr 1 0), (2, .ptr 0 0)] [(1, some [.int .i64 x6, .int .i64 x7, .int .i64 x8]), (0, some [.int .i64 x2, .int .i64 x3, .int .i64 x4])] (by kernel_rfl) ?_
        refine AWl_nilK [5, 3, 2] [(5, .nils), (3, .ptr 1 0), (2, .ptr 0 0)] (by kernel_rfl) ?_
        refine athen_n ?_
        obtain ⟨x9, h49, h65⟩ := bind_some h64
        refine AW_meetN (fun x9 => [(6, .bool x9), (5, .nils), (3, .ptr 1 0), (2, .ptr 0 0)]) (fun x9 => [(1, some [.int .i64 x6, .int .i64 x7, .int .i64 x8]), (0, some [.int .i64 x2, .int .i64 x3, .int .i64 x4])]) x9 ?_ ?_
        · skip
          refine AW_region ?_
          refine AWl_xrun 4 _ _ _ [(25, .bool ((x3 : Int) != 0)), (24, .bool ((x3 : Int) != 0)), (23, .int .i64 x3), (22, .ptr 0 1), (5, .nils), (3, .ptr 1 0), (2, .ptr 0 0)] [(1, some [.int .i64 x6, .int .i64 x7, .int .i64 x8]), (0, some [.int .i64 x2, .int .i64 x3, .int .i64 x4])] (by kernel_rfl) ?_
          cases h6 : ((x3 : Int) != 0)
          · have h66 := bif_f h6 h49
            refine AWl_xrun 9 _ _ _ [(34, .bool ((x4 : Int) != 0)), (33, .bool ((x4 : Int) != 0)), (32, .int .i64 x4), (31, .ptr 0 2), (30, .bool false), (29, .bool false), (28, .dead), (27, .dead), (26, .dead), (25, .bool false), (24, .bool false), (23, .int .i64 x3), (22, .ptr 0 1), (5, .nils), (3, .ptr 1 0), (2, .ptr 0 0)] [(1, some [.int .i64 x6, .int .i64 x7, .int .i64 x8]), (0, some [.int .i64 x2, .int .i64 x3, .int .i64 x4])] (by kernel_rfl) ?_
            cases h7 : ((x4 : Int) != 0)
            · have h67 := bif_f h7 h66
              refine AWl_xrun 6 _ _ _ [(6, .bool false), (39, .bool false), (38, .bool false), (37, .dead), (36, .dead), (35, .dead), (34, .bool false), (33, .bool false), (32, .int .i64 x4), (31, .ptr 0 2), (30, .bool false), (29, .bool false), (28, .dead), (27, .dead), (26, .dead), (25, .bool false), (24, .bool false), (23, .int .i64 x3), (22, .ptr 0 1), (5, .nils), (3, .ptr 1 0), (2, .ptr 0 0)] [(1, some [.int .i64 x6, .int .i64 x7, .int .i64 x8]), (0, some [.int .i64 x2, .int .i64 x3, .int .i64 x4])] (by kernel_rfl) ?_
              refine AWl_nilK [6, 5, 3, 2] [(6, .bool false), (5, .nils), (3, .ptr 1 0), (2, .ptr 0 0)] (by kernel_rfl) ?_
              obtain rfl := Option.some.inj h67
              refine Tgt.mk (Weak.ren [] [] (.cons rfl (.pure rfl) (.cons rfl (.pure rfl) (.cons rfl (.ptr (l := 1) (l' := 1) rfl rfl) (.cons rfl (.ptr (l := 0) (l' := 0) rfl rfl) .nil)))) (.cons rfl (.pure rfl) (.cons rfl (.pure rfl) .nil)) (by kernel_rfl) (fun _ h => h.elim) En_ok)
            · have h68 := bif_t h7 h66
              refine AWl_xrun 6 _ _ _ [(6, .bool ((x8 : Int) == 0)), (39, .bool ((x8 : Int) == 0)), (38, .bool ((x8 : Int) == 0)), (37, .bool ((x8 : Int) == 0)), (36, .int .i64 x8), (35, .ptr 1 2), (34, .bool true), (33, .bool true), (32, .int .i64 x4), (31, .ptr 0 2), (30, .bool false), (29, .bool false), (28, .dead), (27, .dead), (26, .dead), (25, .bool false), (24, .bool false), (23, .int .i64 x3), (22, .ptr 0 1), (5, .nils), (3, .ptr 1 0), (2, .ptr 0 0)] [(1, some [.int .i64 x6, .int .i64 x7, .int .i64 x8]), (0, some [.int .i64 x2, .int .i64 x3, .int .i64 x4])] (by kernel_rfl) ?_
              refine AWl_nilK [6, 5, 3, 2] [(6, .bool ((x8 : Int) == 0)), (5, .nils), (3, .ptr 1 0), (2, .ptr 0 0)] (by kernel_rfl) ?_
              obtain rfl := Option.some.inj h68
              refine Tgt.mk (Weak.ren [] [] (.cons rfl (.pure rfl) (.cons rfl (.pure rfl) (.cons rfl (.ptr (l := 1) (l' := 1) rfl rfl) (.cons rfl (.ptr (l := 0) (l' := 0) rfl rfl) .nil)))) (.cons rfl (.pure rfl) (.cons rfl (.pure rfl) .nil)) (by kernel_rfl) (fun _ h => h.elim) En_ok)
          · have h69 := bif_t h6 h49
            refine AWl_xrun 5 _ _ _ [(30, .bool ((x7 : Int) == 0)), (29, .bool ((x7 : Int) == 0)), (28, .bool ((x7 : Int) == 0)), (27, .int .i64 x7), (26, .ptr 1 1), (25, .bool true), (24, .bool true), (23, .int .i64 x3), (22, .ptr 0 1), (5, .nils), (3, .ptr 1 0), (2, .ptr 0 0)] [(1, some [.int .i64 x6, .int .i64 x7, .int .i64 x8]), (0, some [.int .i64 x2, .int .i64 x3, .int .i64 x4])] (by kernel_rfl) ?_
            cases h8 : ((x7 : Int) == 0)
            · have h70 := bif_f h8 h69
              refine AWl_xrun 4 _ _ _ [(34, .bool ((x4 : Int) != 0)), (33, .bool ((x4 : Int) != 0)), (32, .int .i64 x4), (31, .ptr 0 2), (30, .bool false), (29, .bool false), (28, .bool false), (27, .int .i64 x7), (26, .ptr 1 1), (25, .bool true), (24, .bool true), (23, .int .i64 x3), (22, .ptr 0 1), (5, .nils), (3, .ptr 1 0), (2, .ptr 0 0)] [(1, some [.int .i64 x6, .int .i64 x7, .int .i64 x8]), (0, some [.int .i64 x2, .int .i64 x3, .int .i64 x4])] (by kernel_rfl) ?_
              cases h9 : ((x4 : Int) != 0)
              · have h71 := bif_f h9 h70
                refine AWl_xrun 6 _ _ _ [(6, .bool false), (39, .bool false), (38, .bool false), (37, .dead), (36, .dead), (35, .dead), (34, .bool false), (33, .bool false), (32, .int .i64 x4), (31, .ptr 0 2), (30, .bool false), (29, .bool false), (28, .bool false), (27, .int .i64 x7), (26, .ptr 1 1), (25, .bool true), (24, .bool true), (23, .int .i64 x3), (22, .ptr 0 1), (5, .nils), (3, .ptr 1 0), (2, .ptr 0 0)] [(1, some [.int .i64 x6, .int .i64 x7, .int .i64 x8]), (0, some [.int .i64 x2, .int .i64 x3, .int .i64 x4])] (by kernel_rfl) ?_
                refine AWl_nilK [6, 5, 3, 2] [(6, .bool false), (5, .nils), (3, .ptr 1 0), (2, .ptr 0 0)] (by kernel_rfl) ?_
                obtain rfl := Option.some.inj h71
                refine Tgt.mk (Weak.ren [] [] (.cons rfl (.pure rfl) (.cons rfl (.pure rfl) (.cons rfl (.ptr (l := 1) (l' := 1) rfl rfl) (.cons rfl (.ptr (l := 0) (l' := 0) rfl rfl) .nil)))) (.cons rfl (.pure rfl) (.cons rfl (.pure rfl) .nil)) (by kernel_rfl) (fun _ h => h.elim) En_ok)
              · have h72 := bif_t h9 h70
                refine AWl_xrun 6 _ _ _ [(6, .bool ((x8 : Int) == 0)), (39, .bool ((x8 : Int) == 0)), (38, .bool ((x8 : Int) == 0)), (37, .bool ((x8 : Int) == 0)), (36, .int .i64 x8), (35, .ptr 1 2), (34, .bool true), (33, .bool true), (32, .int .i64 x4), (31, .ptr 0 2), (30, .bool false), (29, .bool false), (28, .bool false), (27, .int .i64 x7), (26, .ptr 1 1), (25, .bool true), (24, .bool true), (23, .int .i64 x3), (22, .ptr 0 1), (5, .nils), (3, .ptr 1 0), (2, .ptr 0 0)] [(1, some [.int .i64 x6, .int .i64 x7, .int .i64 x8]), (0, some [.int .i64 x2, .int .i64 x3, .int .i64 x4])] (by kernel_rfl) ?_
                refine AWl_nilK [6, 5, 3, 2] [(6, .bool ((x8 : Int) == 0)), (5, .nils), (3, .ptr 1 0), (2, .ptr 0 0)] (by kernel_rfl) ?_
                obtain rfl := Option.some.inj h72
                refine Tgt.mk (Weak.ren [] [] (.cons rfl (.pure rfl) (.cons rfl (.pure rfl) (.cons rfl (.ptr (l := 1) (l' := 1) rfl rfl) (.cons rfl (.ptr (l := 0) (l' := 0) rfl rfl) .nil)))) (.cons rfl (.pure rfl) (.cons rfl (.pure rfl) .nil)) (by kernel_rfl) (fun _ h => h.elim) En_ok)
            · have h73 := bif_t h8 h69
              refine AWl_xrun 10 _ _ _ [(6, .bool true), (39, .bool true), (38, .dead), (37, .dead), (36, .dead), (35, .dead), (34, .dead), (33, .dead), (32, .dead), (31, .dead), (30, .bool true), (29, .bool true), (28, .bool true), (27, .int .i64 x7), (26, .ptr 1 1), (25, .bool true), (24, .bool true), (23, .int .i64 x3), (22, .ptr 0 1), (5, .nils), (3, .ptr 1 0), (2, .ptr 0 0)] [(1, some [.int .i64 x6, .int .i64 x7, .int .i64 x8]), (0, some [.int .i64 x2, .int .i64 x3, .int .i64 x4])] (by kernel_rfl) ?_
              refine AWl_nilK [6, 5, 3, 2] [(6, .bool true), (5, .nils), (3, .ptr 1 0), (2, .ptr 0 0)] (by kernel_rfl) ?_
              obtain rfl := Option.some.inj h73
              refine Tgt.mk (Weak.ren [] [] (.cons rfl (.pure rfl) (.cons rfl (.pure rfl) (.cons rfl (.ptr (l := 1) (l' := 1) rfl rfl) (.cons rfl (.ptr (l := 0) (l' := 0) rfl rfl) .nil)))) (.cons rfl (.pure rfl) (.cons rfl (.pure rfl) .nil)) (by kernel_rfl) (fun _ h => h.elim) En_ok)
        · skip
          refine AW_seq ?_
          refine AW_seq ?_
          refine AW_region ?_
          refine AWl_xrun 1 _ _ _ [(7, .int .i64 0), (6, .bool x9), (5, .nils), (3, .ptr 1 0), (2, .ptr 0 0)] [(1, some [.int .i64 x6, .int .i64 x7, .int .i64 x8]), (0, some [.int .i64 x2, .int .i64 x3, .int .i64 x4])] (by kernel_rfl) ?_
          refine AWl_nilK [7, 6, 5, 3, 2] [(7, .int .i64 0), (6, .bool x9), (5, .nils), (3, .ptr 1 0), (2, .ptr 0 0)] (by kernel_rfl) ?_
          refine athen_n ?_
          refine AW_block ?_
          obtain ⟨x22, h21, h74⟩ := bind_some h65
          refine AW_loopM _ (fun z => match z with | (x14, x15) => [(7, .int .i64 x14), (6, .bool x15), (5, .nils), (3, .ptr 1 0), (2, .ptr 0 0)]) (fun z => match z with | (x14, x15) => [(1, some [.int .i64 x6, .int .i64 x7, .int .i64 x8]), (0, some [.int .i64 x2, .int .i64 x3, .int .i64 x4])]) (fun z e al L => match z with | x22 => Tgt En (fun _ => False) (.exit 0) [(6, .bool x22), (5, .nils), (3, .ptr 1 0), (2, .ptr 0 0)] [(1, some [.int .i64 x6, .int .i64 x7, .int .i64 x8]), (0, some [.int .i64 x2, .int .i64 x3, .int .i64 x4])] e al L) h21 (Weak.ren [] [] (.cons rfl (.pure rfl) (.cons rfl (.pure rfl) (.cons rfl (.pure rfl) (.cons rfl (.ptr (l := 1) (l' := 1) rfl rfl) (.cons rfl (.ptr (l := 0) (l' := 0) rfl rfl) .nil))))) (.cons rfl (.pure rfl) (.cons rfl (.pure rfl) .nil)) (by kernel_rfl) (fun _ h => h.elim) En_ok) ?_ ?_
          · rintro ⟨x14, x15⟩ x55 h75
            have h76 : orielref12_Turn_loop1 x2 x6 x14 x15 = some _ := h75
            unfold orielref12_Turn_loop1 at h76
            refine AW_seq ?_
            refine AW_seq ?_
            refine AW_region ?_
            refine AWl_xrun 2 _ _ _ [(41, .bool (decide (x14 < 8))), (40, .int .i64 x14), (7, .int .i64 x14), (6, .bool x15), (5, .nils), (3, .ptr 1 0), (2, .ptr 0 0)] [(1, some [.int .i64 x6, .int .i64 x7, .int .i64 x8]), (0, some [.int .i64 x2, .int .i64 x3, .int .i64 x4])] (by kernel_rfl) ?_
            refine AWl_nilK [41, 7, 6, 5, 3, 2] [(41, .bool (decide (x14 < 8))), (7, .int .i64 x14), (6, .bool x15), (5, .nils), (3, .ptr 1 0), (2, .ptr 0 0)] (by kernel_rfl) ?_
            refine athen_n ?_
            cases h14 : (decide (x14 < 8))
            · have h77 := bif_f h14 h76
              refine AW_condF rfl ?_
              refine AW_exit ?_
              refine athen_exit ?_
              obtain rfl := Option.some.inj h77
              refine Round.off (by simp) (Tgt.mk (Weak.ren [] [] (.cons rfl (.pure rfl) (.cons rfl (.pure rfl) (.cons rfl (.ptr (l := 1) (l' := 1) rfl rfl) (.cons rfl (.ptr (l := 0) (l' := 0) rfl rfl) .nil)))) (.cons rfl (.pure rfl) (.cons rfl (.pure rfl) .nil)) (by kernel_rfl) (fun _ h => h.elim) En_ok))
            · have h78 := bif_t h14 h76
              refine AW_condT rfl ?_
              refine AW_skip ?_
              refine athen_n ?_
              obtain ⟨x18, h20, h79⟩ := bind_some h78
              refine AW_meetN (fun x18 => [(7, .int .i64 x14), (6, .bool x18), (5, .nils), (3, .ptr 1 0), (2, .ptr 0 0)]) (fun x18 => [(1, some [.int .i64 x6, .int .i64 x7, .int .i64 x8]), (0, some [.int .i64 x2, .int .i64 x3, .int .i64 x4])]) x18 ?_ ?_
              · skip
                refine AW_block ?_
                obtain ⟨x16, h19, h80⟩ := bind_some h20
                refine AW_meetN (fun x16 => [(59, .bool x16), (7, .int .i64 x14), (6, .bool x15), (5, .nils), (3, .ptr 1 0), (2, .ptr 0 0)]) (fun x16 => [(1, some [.int .i64 x6, .int .i64 x7, .int .i64 x8]), (0, some [.int .i64 x2, .int .i64 x3, .int .i64 x4])]) x16 ?_ ?_
                · skip
                  refine AW_region ?_
                  refine AWl_xrun 4 _ _ _ [(47, .int .u64 (IntKind.u64.wrap x14)), (46, .int .i64 x14), (45, .int .i64 x2), (44, .ptr 0 0), (41, .bool true), (7, .int .i64 x14), (6, .bool x15), (5, .nils), (3, .ptr 1 0), (2, .ptr 0 0)] [(1, some [.int .i64 x6, .int .i64 x7, .int .i64 x8]), (0, some [.int .i64 x2, .int .i64 x3, .int .i64 x4])] (by kernel_rfl) ?_
                  obtain ⟨h15, h81⟩ := req_some h19
                  refine AWl_o (x := .int .i64 (Int.fdiv x2 (2 ^ (min (IntKind.u64.wrap x14).toNat 64)))) (wl := []) (AOp_binOp rfl rfl (xbin_shr h15)) (by kernel_rfl) (by kernel_rfl) (by kernel_rfl) ?_
                  refine AWl_xrun 3 _ _ _ [(51, .bool (((Int.tmod (Int.fdiv x2 (2 ^ (min (IntKind.u64.wrap x14).toNat 64))) 2) : Int) == 1)), (50, .bool (((Int.tmod (Int.fdiv x2 (2 ^ (min (IntKind.u64.wrap x14).toNat 64))) 2) : Int) == 1)), (49, .int .i64 (Int.tmod (Int.fdiv x2 (2 ^ (min (IntKind.u64.wrap x14).toNat 64))) 2)), (48, .int .i64 (Int.fdiv x2 (2 ^ (min (IntKind.u64.wrap x14).toNat 64)))), (47, .int .u64 (IntKind.u64.wrap x14)), (46, .int .i64 x14), (45, .int .i64 x2), (44, .ptr 0 0), (41, .bool true), (7, .int .i64 x14), (6, .bool x15), (5, .nils), (3, .ptr 1 0), (2, .ptr 0 0)] [(1, some [.int .i64 x6, .int .i64 x7, .int .i64 x8]), (0, some [.int .i64 x2, .int .i64 x3, .int .i64 x4])] (by kernel_rfl) ?_
                  cases h16 : (((Int.tmod (Int.fdiv x2 (2 ^ (min (IntKind.u64.wrap x14).toNat 64))) 2) : Int) == 1)
                  · have h82 := bif_f h16 h81
                    refine AWl_xrun 8 _ _ _ [(59, .bool false), (58, .dead), (57, .dead), (56, .dead), (55, .dead), (54, .dead), (53, .dead), (52, .dead), (51, .bool false), (50, .bool false), (49, .int .i64 (Int.tmod (Int.fdiv x2 (2 ^ (min (IntKind.u64.wrap x14).toNat 64))) 2)), (48, .int .i64 (Int.fdiv x2 (2 ^ (min (IntKind.u64.wrap x14).toNat 64)))), (47, .int .u64 (IntKind.u64.wrap x14)), (46, .int .i64 x14), (45, .int .i64 x2), (44, .ptr 0 0), (41, .bool true), (7, .int .i64 x14), (6, .bool x15), (5, .nils), (3, .ptr 1 0), (2, .ptr 0 0)] [(1, some [.int .i64 x6, .int .i64 x7, .int .i64 x8]), (0, some [.int .i64 x2, .int .i64 x3, .int .i64 x4])] (by kernel_rfl) ?_
                    refine AWl_nilK [59, 7, 6, 5, 3, 2] [(59, .bool false), (7, .int .i64 x14), (6, .bool x15), (5, .nils), (3, .ptr 1 0), (2, .ptr 0 0)] (by kernel_rfl) ?_
                    obtain rfl := Option.some.inj h82
                    refine Tgt.mk (Weak.ren [] [] (.cons rfl (.pure rfl) (.cons rfl (.pure rfl) (.cons rfl (.pure rfl) (.cons rfl (.pure rfl) (.cons rfl (.ptr (l := 1) (l' := 1) rfl rfl) (.cons rfl (.ptr (l := 0) (l' := 0) rfl rfl) .nil)))))) (.cons rfl (.pure rfl) (.cons rfl (.pure rfl) .nil)) (by kernel_rfl) (fun _ h => h.elim) En_ok)
                  · have h83 := bif_t h16 h81
                    refine AWl_xrun 4 _ _ _ [(55, .int .u64 (IntKind.u64.wrap x14)), (54, .int .i64 x14), (53, .int .i64 x6), (52, .ptr 1 0), (51, .bool true), (50, .bool true), (49, .int .i64 (Int.tmod (Int.fdiv x2 (2 ^ (min (IntKind.u64.wrap x14).toNat 64))) 2)), (48, .int .i64 (Int.fdiv x2 (2 ^ (min (IntKind.u64.wrap x14).toNat 64)))), (47, .int .u64 (IntKind.u64.wrap x14)), (46, .int .i64 x14), (45, .int .i64 x2), (44, .ptr 0 0), (41, .bool true), (7, .int .i64 x14), (6, .bool x15), (5, .nils), (3, .ptr 1 0), (2, .ptr 0 0)] [(1, some [.int .i64 x6, .int .i64 x7, .int .i64 x8]), (0, some [.int .i64 x2, .int .i64 x3, .int .i64 x4])] (by kernel_rfl) ?_
                    obtain ⟨h17, h84⟩ := req_some h83
                    refine AWl_o (x := .int .i64 (Int.fdiv x6 (2 ^ (min (IntKind.u64.wrap x14).toNat 64)))) (wl := []) (AOp_binOp rfl rfl (xbin_shr h17)) (by kernel_rfl) (by kernel_rfl) (by kernel_rfl) ?_
                    refine AWl_xrun 3 _ _ _ [(59, .bool (((Int.tmod (Int.fdiv x6 (2 ^ (min (IntKind.u64.wrap x14).toNat 64))) 2) : Int) == 0)), (58, .bool (((Int.tmod (Int.fdiv x6 (2 ^ (min (IntKind.u64.wrap x14).toNat 64))) 2) : Int) == 0)), (57, .int .i64 (Int.tmod (Int.fdiv x6 (2 ^ (min (IntKind.u64.wrap x14).toNat 64))) 2)), (56, .int .i64 (Int.fdiv x6 (2 ^ (min (IntKind.u64.wrap x14).toNat 64)))), (55, .int .u64 (IntKind.u64.wrap x14)), (54, .int .i64 x14), (53, .int .i64 x6), (52, .ptr 1 0), (51, .bool true), (50, .bool true), (49, .int .i64 (Int.tmod (Int.fdiv x2 (2 ^ (min (IntKind.u64.wrap x14).toNat 64))) 2)), (48, .int .i64 (Int.fdiv x2 (2 ^ (min (IntKind.u64.wrap x14).toNat 64)))), (47, .int .u64 (IntKind.u64.wrap x14)), (46, .int .i64 x14), (45, .int .i64 x2), (44, .ptr 0 0), (41, .bool true), (7, .int .i64 x14), (6, .bool x15), (5, .nils), (3, .ptr 1 0), (2, .ptr 0 0)] [(1, some [.int .i64 x6, .int .i64 x7, .int .i64 x8]), (0, some [.int .i64 x2, .int .i64 x3, .int .i64 x4])] (by kernel_rfl) ?_
                    refine AWl_nilK [59, 58, 57, 56, 55, 54, 53, 52, 7, 6, 5, 3, 2] [(59, .bool (((Int.tmod (Int.fdiv x6 (2 ^ (min (IntKind.u64.wrap x14).toNat 64))) 2) : Int) == 0)), (58, .bool (((Int.tmod (Int.fdiv x6 (2 ^ (min (IntKind.u64.wrap x14).toNat 64))) 2) : Int) == 0)), (57, .int .i64 (Int.tmod (Int.fdiv x6 (2 ^ (min (IntKind.u64.wrap x14).toNat 64))) 2)), (56, .int .i64 (Int.fdiv x6 (2 ^ (min (IntKind.u64.wrap x14).toNat 64)))), (55, .int .u64 (IntKind.u64.wrap x14)), (54, .int .i64 x14), (53, .int .i64 x6), (52, .ptr 1 0), (7, .int .i64 x14), (6, .bool x15), (5, .nils), (3, .ptr 1 0), (2, .ptr 0 0)] (by kernel_rfl) ?_
                    obtain rfl := Option.some.inj h84
                    refine Tgt.mk (Weak.ren [] [] (.cons rfl (.pure rfl) (.cons rfl (.pure rfl) (.cons rfl (.pure rfl) (.cons rfl (.pure rfl) (.cons rfl (.ptr (l := 1) (l' := 1) rfl rfl) (.cons rfl (.ptr (l := 0) (l' := 0) rfl rfl) .nil)))))) (.cons rfl (.pure rfl) (.cons rfl (.pure rfl) .nil)) (by kernel_rfl) (fun _ h => h.elim) En_ok)
                · skip
                  cases h18 : x16
                  · have h85 := bif_f h18 h80
                    refine AW_condF rfl ?_
                    refine AW_skip ?_
                    refine ablock_n ?_
                    obtain rfl := Option.some.inj h85
                    refine Tgt.mk (Weak.ren [] [] (.cons rfl (.pure rfl) (.cons rfl (.pure rfl) (.cons rfl (.pure rfl) (.cons rfl (.ptr (l := 1) (l' := 1) rfl rfl) (.cons rfl (.ptr (l := 0) (l' := 0) rfl rfl) .nil))))) (.cons rfl (.pure rfl) (.cons rfl (.pure rfl) .nil)) (by kernel_rfl) (fun _ h => h.elim) En_ok)
                  · have h86 := bif_t h18 h80
                    refine AW_condT rfl ?_
                    refine AW_region ?_
                    refine AWl_xrun 1 _ _ _ [(6, .bool true), (59, .bool true), (7, .int .i64 x14), (6, .bool x15), (5, .nils), (3, .ptr 1 0), (2, .ptr 0 0)] [(1, some [.int .i64 x6, .int .i64 x7, .int .i64 x8]), (0, some [.int .i64 x2, .int .i64 x3, .int .i64 x4])] (by kernel_rfl) ?_
                    refine AWl_nilK [6, 7, 5, 3, 2] [(6, .bool true), (7, .int .i64 x14), (5, .nils), (3, .ptr 1 0), (2, .ptr 0 0)] (by kernel_rfl) ?_
                    refine ablock_n ?_
                    obtain rfl := Option.some.inj h86
                    refine Tgt.mk (Weak.ren [] [] (.cons rfl (.pure rfl) (.cons rfl (.pure rfl) (.cons rfl (.pure rfl) (.cons rfl (.ptr (l := 1) (l' := 1) rfl rfl) (.cons rfl (.ptr (l := 0) (l' := 0) rfl rfl) .nil))))) (.cons rfl (.pure rfl) (.cons rfl (.pure rfl) .nil)) (by kernel_rfl) (fun _ h => h.elim) En_ok)
              · skip
                refine AW_region ?_
                refine AWl_xrun 3 _ _ _ [(7, .int .i64 (IntKind.i64.wrap (x14 + 1))), (43, .int .i64 (IntKind.i64.wrap (x14 + 1))), (42, .int .i64 x14), (7, .int .i64 x14), (6, .bool x18), (5, .nils), (3, .ptr 1 0), (2, .ptr 0 0)] [(1, some [.int .i64 x6, .int .i64 x7, .int .i64 x8]), (0, some [.int .i64 x2, .int .i64 x3, .int .i64 x4])] (by kernel_rfl) ?_
                refine AWl_nilK [7, 6, 5, 3, 2] [(7, .int .i64 (IntKind.i64.wrap (x14 + 1))), (6, .bool x18), (5, .nils), (3, .ptr 1 0), (2, .ptr 0 0)] (by kernel_rfl) ?_
                obtain rfl := Option.some.inj h79
                refine Round.on (Weak.ren [] [] (.cons rfl (.pure rfl) (.cons rfl (.pure rfl) (.cons rfl (.pure rfl) (.cons rfl (.ptr (l := 1) (l' := 1) rfl rfl) (.cons rfl (.ptr (l := 0) (l' := 0) rfl rfl) .nil))))) (.cons rfl (.pure rfl) (.cons rfl (.pure rfl) .nil)) (by kernel_rfl) (fun _ h => h.elim) En_ok)
          · skip
            rintro e al L ⟨rfl, h87⟩ -
            refine ⟨_, _, h87, ?_⟩
            refine ablock_eq ?_
            refine athen_n ?_
            obtain ⟨⟨x23, x24, x25, x26⟩, h48, h88⟩ := bind_some h74
            refine AW_meetN (fun z => match z with | (x23, x24, x25, x26) => [(5, .rw 4 0 x23.length 1 none), (3, .ptr 1 0), (2, .ptr 0 0)]) (fun z => match z with | (x23, x24, x25, x26) => [(4, some (fl (eI .i64) x23)), (1, some [.int .i64 x6, .int .i64 x7, .int .i64 x8]), (0, some [.int .i64 x24, .int .i64 x25, .int .i64 x26])]) (x23, x24, x25, x26) ?_ ?_
            · skip
              refine AW_seq ?_
              refine AW_region ?_
              refine AWl_xrun 1 _ _ _ [(60, .bool x22), (6, .bool x22), (5, .nils), (3, .ptr 1 0), (2, .ptr 0 0)] [(1, some [.int .i64 x6, .int .i64 x7, .int .i64 x8]), (0, some [.int .i64 x2, .int .i64 x3, .int .i64 x4])] (by kernel_rfl) ?_
              refine AWl_nilK [60, 5, 3, 2] [(60, .bool x22), (5, .nils), (3, .ptr 1 0), (2, .ptr 0 0)] (by kernel_rfl) ?_
              refine athen_n ?_
              cases h22 : x22
              · have h89 := bif_f h22 h48
                refine AW_condF rfl ?_
                refine AW_skip ?_
                obtain ⟨rfl, h90⟩ := Prod.mk.inj (Option.some.inj h89)
                obtain ⟨rfl, h91⟩ := Prod.mk.inj (h90)
                obtain ⟨rfl, rfl⟩ := Prod.mk.inj (h91)
                refine Tgt.mk (Weak.ren [(4, 52)] [] (.cons rfl (.nilsRw rfl) (.cons rfl (.ptr (l := 1) (l' := 1) rfl rfl) (.cons rfl (.ptr (l := 0) (l' := 0) rfl rfl) .nil))) (.fresh rfl (.cons rfl (.pure rfl) (.cons rfl (.pure rfl) .nil))) (by kernel_rfl) (fun _ h => h.elim) En_ok)
              · have h92 := bif_t h22 h48
                refine AW_condT rfl ?_
                refine AW_seq ?_
                refine AW_region ?_
                refine AWl_xrun 2 _ _ _ [(62, .rw 2 0 1 1 (some 1)), (61, .nils), (60, .bool true), (5, .nils), (3, .ptr 1 0), (2, .ptr 0 0)] [(1, some [.int .i64 x6, .int .i64 x7, .int .i64 x8]), (0, some [.int .i64 x2, .int .i64 x3, .int .i64 x4]), (2, some [.int .i64 0])] (by kernel_rfl) ?_
                obtain ⟨h23, h93⟩ := req_some h92
                refine AWl_o (x := .rw 3 0 ((([] : List Int) ++ ([0] : List Int)).length) 1 none) (wl := [(3, some (fl (eI .i64) (([] : List Int) ++ ([0] : List Int))))]) (AOp_appendL (e := (eI .i64)) (l := ([] : List Int)) (m := ([0] : List Int)) 3 1 rfl rfl .nils (Src.ok (.rwL rfl rfl rfl rfl rfl)) rfl rfl rfl rfl rfl rfl h23 (by decide) rfl) (by kernel_rfl) (by kernel_rfl) (by kernel_rfl) ?_
                refine AWl_xrun 1 _ _ _ [(5, .rw 3 0 ((([] : List Int) ++ ([0] : List Int)).length) 1 none), (63, .rw 3 0 ((([] : List Int) ++ ([0] : List Int)).length) 1 none), (62, .rw 2 0 1 1 (some 1)), (61, .nils), (60, .bool true), (5, .nils), (3, .ptr 1 0), (2, .ptr 0 0)] [(1, some [.int .i64 x6, .int .i64 x7, .int .i64 x8]), (0, some [.int .i64 x2, .int .i64 x3, .int .i64 x4]), (2, some [.int .i64 0]), (3, some (fl (eI .i64) (([] : List Int) ++ ([0] : List Int))))] (by kernel_rfl) ?_
                refine AWl_nilK [5, 3, 2] [(5, .rw 3 0 ((([] : List Int) ++ ([0] : List Int)).length) 1 none), (3, .ptr 1 0), (2, .ptr 0 0)] (by kernel_rfl) ?_
                refine athen_n ?_
                refine AW_region ?_
                refine AWl_xrun 2 _ _ _ [(64, .agg [.int .i64 0, .int .i64 0, .int .i64 0]), (5, .rw 3 0 ((([] : List Int) ++ ([0] : List Int)).length) 1 none), (3, .ptr 1 0), (2, .ptr 0 0)] [(1, some [.int .i64 x6, .int .i64 x7, .int .i64 x8]), (0, some [.int .i64 0, .int .i64 0, .int .i64 0]), (2, some [.int .i64 0]), (3, some (fl (eI .i64) (([] : List Int) ++ ([0] : List Int))))] (by kernel_rfl) ?_
                refine AWl_nilK [5, 3, 2] [(5, .rw 3 0 ((([] : List Int) ++ ([0] : List Int)).length) 1 none), (3, .ptr 1 0), (2, .ptr 0 0)] (by kernel_rfl) ?_
                obtain ⟨rfl, h94⟩ := Prod.mk.inj (Option.some.inj h93)
                obtain ⟨rfl, h95⟩ := Prod.mk.inj (h94)
                obtain ⟨rfl, rfl⟩ := Prod.mk.inj (h95)
                refine Tgt.mk (Weak.ren [(4, 3)] [] (.cons rfl (.rw (l := 3) (l' := 4) rfl rfl) (.cons rfl (.ptr (l := 1) (l' := 1) rfl rfl) (.cons rfl (.ptr (l := 0) (l' := 0) rfl rfl) .nil))) (.cons rfl (.pure (fl_pure _)) (.cons rfl (.pure rfl) (.cons rfl (.pure rfl) .nil))) (by kernel_rfl) (fun _ h => h.elim) En_ok)
            · skip
              refine AW_seq ?_
              refine AW_seq ?_
              refine AW_region ?_
              refine AWl_xrun 1 _ _ _ [(8, .int .i64 0), (5, .rw 4 0 x23.length 1 none), (3, .ptr 1 0), (2, .ptr 0 0)] [(4, some (fl (eI .i64) x23)), (1, some [.int .i64 x6, .int .i64 x7, .int .i64 x8]), (0, some [.int .i64 x24, .int .i64 x25, .int .i64 x26])] (by kernel_rfl) ?_
              refine AWl_nilK [8, 5, 3, 2] [(8, .int .i64 0), (5, .rw 4 0 x23.length 1 none), (3, .ptr 1 0), (2, .ptr 0 0)] (by kernel_rfl) ?_
              refine athen_n ?_
              refine AW_block ?_
              obtain ⟨x43, h39, h96⟩ := bind_some h88
              refine AW_loopM _ (fun z => match z with | (x33, x34) => [(8, .int .i64 x33), (5, .rw 3 0 x34.length 1 none), (3, .ptr 1 0), (2, .ptr 0 0)]) (fun z => match z with | (x33, x34) => [(3, some (fl (eI .i64) x34)), (1, some [.int .i64 x6, .int .i64 x7, .int .i64 x8]), (0, some [.int .i64 x24, .int .i64 x25, .int .i64 x26])]) (fun z e al L => match z with | x43 => Tgt En (fun _ => False) (.exit 2) [(5, .rw 3 0 x43.length 1 none), (3, .ptr 1 0), (2, .ptr 0 0)] [(3, some (fl (eI .i64) x43)), (1, some [.int .i64 x6, .int .i64 x7, .int .i64 x8]), (0, some [.int .i64 x24, .int .i64 x25, .int .i64 x26])] e al L) h39 (Weak.ren [(3, 4)] [] (.cons rfl (.pure rfl) (.cons rfl (.rw (l := 4) (l' := 3) rfl rfl) (.cons rfl (.ptr (l := 1) (l' := 1) rfl rfl) (.cons rfl (.ptr (l := 0) (l' := 0) rfl rfl) .nil)))) (.cons rfl (.pure (fl_pure _)) (.cons rfl (.pure rfl) (.cons rfl (.pure rfl) .nil))) (by kernel_rfl) (fun _ h => h.elim) En_ok) ?_ ?_
              · rintro ⟨x33, x34⟩ x56 h97
                have h98 : orielref12_Turn_loop2 x6 x24 x33 x34 = some _ := h97
                unfold orielref12_Turn_loop2 at h98
                refine AW_seq ?_
                refine AW_seq ?_
                refine AW_region ?_
                refine AWl_xrun 2 _ _ _ [(66, .bool (decide (x33 < 8))), (65, .int .i64 x33), (8, .int .i64 x33), (5, .rw 3 0 x34.length 1 none), (3, .ptr 1 0), (2, .ptr 0 0)] [(3, some (fl (eI .i64) x34)), (1, some [.int .i64 x6, .int .i64 x7, .int .i64 x8]), (0, some [.int .i64 x24, .int .i64 x25, .int .i64 x26])] (by kernel_rfl) ?_
                refine AWl_nilK [66, 8, 5, 3, 2] [(66, .bool (decide (x33 < 8))), (8, .int .i64 x33), (5, .rw 3 0 x34.length 1 none), (3, .ptr 1 0), (2, .ptr 0 0)] (by kernel_rfl) ?_
                refine athen_n ?_
                cases h30 : (decide (x33 < 8))
                · have h99 := bif_f h30 h98
                  refine AW_condF rfl ?_
                  refine AW_exit ?_
                  refine athen_exit ?_
                  obtain rfl := Option.some.inj h99
                  refine Round.off (by simp) (Tgt.mk (Weak.ren [] [] (.cons rfl (.rw (l := 3) (l' := 3) rfl rfl) (.cons rfl (.ptr (l := 1) (l' := 1) rfl rfl) (.cons rfl (.ptr (l := 0) (l' := 0) rfl rfl) .nil))) (.cons rfl (.pure (fl_pure _)) (.cons rfl (.pure rfl) (.cons rfl (.pure rfl) .nil))) (by kernel_rfl) (fun _ h => h.elim) En_ok))
                · have h100 := bif_t h30 h98
                  refine AW_condT rfl ?_
                  refine AW_skip ?_
                  refine athen_n ?_
                  obtain ⟨x39, h38, h101⟩ := bind_some h100
                  refine AW_meetN (fun x39 => [(8, .int .i64 x33), (5, .rw 2 0 x39.length 1 none), (3, .ptr 1 0), (2, .ptr 0 0)]) (fun x39 => [(2, some (fl (eI .i64) x39)), (1, some [.int .i64 x6, .int .i64 x7, .int .i64 x8]), (0, some [.int .i64 x24, .int .i64 x25, .int .i64 x26])]) x39 ?_ ?_
                  · skip
                    refine AW_block ?_
                    refine AW_seq ?_
                    refine AW_region ?_
                    refine AWl_xrun 1 _ _ _ [(70, .int .i64 x33), (66, .bool true), (8, .int .i64 x33), (5, .rw 3 0 x34.length 1 none), (3, .ptr 1 0), (2, .ptr 0 0)] [(3, some (fl (eI .i64) x34)), (1, some [.int .i64 x6, .int .i64 x7, .int .i64 x8]), (0, some [.int .i64 x24, .int .i64 x25, .int .i64 x26])] (by kernel_rfl) ?_
                    obtain ⟨⟨x35, x36⟩, h31, h102⟩ := bind_some h38
                    refine AWl_o (x := .tup [.int .i64 x36, .int .i64 x35]) (wl := []) (AOp_callP En_ok Tryd.call22 (caps := []) (xs := [.int .i64 x33]) rfl rfl (orielref12_bits_ok h31) rfl) (by kernel_rfl) (by kernel_rfl) (by kernel_rfl) ?_
                    refine AWl_xrun 5 _ _ _ [(10, .int .i64 x35), (9, .int .i64 x36), (73, .int .i64 x35), (72, .int .i64 x36), (69, .tup [.int .i64 x36, .int .i64 x35]), (71, .tup [.int .i64 x36, .int .i64 x35]), (70, .int .i64 x33), (66, .bool true), (8, .int .i64 x33), (5, .rw 3 0 x34.length 1 none), (3, .ptr 1 0), (2, .ptr 0 0)] [(3, some (fl (eI .i64) x34)), (1, some [.int .i64 x6, .int .i64 x7, .int .i64 x8]), (0, some [.int .i64 x24, .int .i64 x25, .int .i64 x26])] (by kernel_rfl) ?_
                    refine AWl_nilK [9, 8, 5, 3, 2] [(9, .int .i64 x36), (8, .int .i64 x33), (5, .rw 3 0 x34.length 1 none), (3, .ptr 1 0), (2, .ptr 0 0)] (by kernel_rfl) ?_
                    refine athen_n ?_
                    obtain ⟨x37, h37, h103⟩ := bind_some h102
                    refine AW_meetN (fun x37 => [(89, .bool x37), (9, .int .i64 x36), (8, .int .i64 x33), (5, .rw 3 0 x34.length 1 none), (3, .ptr 1 0), (2, .ptr 0 0)]) (fun x37 => [(3, some (fl (eI .i64) x34)), (1, some [.int .i64 x6, .int .i64 x7, .int .i64 x8]), (0, some [.int .i64 x24, .int .i64 x25, .int .i64 x26])]) x37 ?_ ?_
                    · skip
                      refine AW_region ?_
                      refine AWl_xrun 4 _ _ _ [(77, .int .u64 (IntKind.u64.wrap x33)), (76, .int .i64 x33), (75, .int .i64 x24), (74, .ptr 0 0), (9, .int .i64 x36), (8, .int .i64 x33), (5, .rw 3 0 x34.length 1 none), (3, .ptr 1 0), (2, .ptr 0 0)] [(3, some (fl (eI .i64) x34)), (1, some [.int .i64 x6, .int .i64 x7, .int .i64 x8]), (0, some [.int .i64 x24, .int .i64 x25, .int .i64 x26])] (by kernel_rfl) ?_
                      obtain ⟨h32, h104⟩ := req_some h37
                      refine AWl_o (x := .int .i64 (Int.fdiv x24 (2 ^ (min (IntKind.u64.wrap x33).toNat 64)))) (wl := []) (AOp_binOp rfl rfl (xbin_shr h32)) (by kernel_rfl) (by kernel_rfl) (by kernel_rfl) ?_
                      refine AWl_xrun 3 _ _ _ [(81, .bool (((Int.tmod (Int.fdiv x24 (2 ^ (min (IntKind.u64.wrap x33).toNat 64))) 2) : Int) == 0)), (80, .bool (((Int.tmod (Int.fdiv x24 (2 ^ (min (IntKind.u64.wrap x33).toNat 64))) 2) : Int) == 0)), (79, .int .i64 (Int.tmod (Int.fdiv x24 (2 ^ (min (IntKind.u64.wrap x33).toNat 64))) 2)), (78, .int .i64 (Int.fdiv x24 (2 ^ (min (IntKind.u64.wrap x33).toNat 64)))), (77, .int .u64 (IntKind.u64.wrap x33)), (76, .int .i64 x33), (75, .int .i64 x24), (74, .ptr 0 0), (9, .int .i64 x36), (8, .int .i64 x33), (5, .rw 3 0 x34.length 1 none), (3, .ptr 1 0), (2, .ptr 0 0)] [(3, some (fl (eI .i64) x34)), (1, some [.int .i64 x6, .int .i64 x7, .int .i64 x8]), (0, some [.int .i64 x24, .int .i64 x25, .int .i64 x26])] (by kernel_rfl) ?_
                      cases h33 : (((Int.tmod (Int.fdiv x24 (2 ^ (min (IntKind.u64.wrap x33).toNat 64))) 2) : Int) == 0)
                      · have h105 := bif_f h33 h104
                        refine AWl_xrun 8 _ _ _ [(89, .bool false), (88, .dead), (87, .dead), (86, .dead), (85, .dead), (84, .dead), (83, .dead), (82, .dead), (81, .bool false), (80, .bool false), (79, .int .i64 (Int.tmod (Int.fdiv x24 (2 ^ (min (IntKind.u64.wrap x33).toNat 64))) 2)), (78, .int .i64 (Int.fdiv x24 (2 ^ (min (IntKind.u64.wrap x33).toNat 64)))), (77, .int .u64 (IntKind.u64.wrap x33)), (76, .int .i64 x33), (75, .int .i64 x24), (74, .ptr 0 0), (9, .int .i64 x36), (8, .int .i64 x33), (5, .rw 3 0 x34.length 1 none), (3, .ptr 1 0), (2, .ptr 0 0)] [(3, some (fl (eI .i64) x34)), (1, some [.int .i64 x6, .int .i64 x7, .int .i64 x8]), (0, some [.int .i64 x24, .int .i64 x25, .int .i64 x26])] (by kernel_rfl) ?_
                        refine AWl_nilK [89, 9, 8, 5, 3, 2] [(89, .bool false), (9, .int .i64 x36), (8, .int .i64 x33), (5, .rw 3 0 x34.length 1 none), (3, .ptr 1 0), (2, .ptr 0 0)] (by kernel_rfl) ?_
                        obtain rfl := Option.some.inj h105
                        refine Tgt.mk (Weak.ren [] [] (.cons rfl (.pure rfl) (.cons rfl (.pure rfl) (.cons rfl (.pure rfl) (.cons rfl (.rw (l := 3) (l' := 3) rfl rfl) (.cons rfl (.ptr (l := 1) (l' := 1) rfl rfl) (.cons rfl (.ptr (l := 0) (l' := 0) rfl rfl) .nil)))))) (.cons rfl (.pure (fl_pure _)) (.cons rfl (.pure rfl) (.cons rfl (.pure rfl) .nil))) (by kernel_rfl) (fun _ h => h.elim) En_ok)
                      · have h106 := bif_t h33 h104
                        refine AWl_xrun 4 _ _ _ [(85, .int .u64 (IntKind.u64.wrap x33)), (84, .int .i64 x33), (83, .int .i64 x6), (82, .ptr 1 0), (81, .bool true), (80, .bool true), (79, .int .i64 (Int.tmod (Int.fdiv x24 (2 ^ (min (IntKind.u64.wrap x33).toNat 64))) 2)), (78, .int .i64 (Int.fdiv x24 (2 ^ (min (IntKind.u64.wrap x33).toNat 64)))), (77, .int .u64 (IntKind.u64.wrap x33)), (76, .int .i64 x33), (75, .int .i64 x24), (74, .ptr 0 0), (9, .int .i64 x36), (8, .int .i64 x33), (5, .rw 3 0 x34.length 1 none), (3, .ptr 1 0), (2, .ptr 0 0)] [(3, some (fl (eI .i64) x34)), (1, some [.int .i64 x6, .int .i64 x7, .int .i64 x8]), (0, some [.int .i64 x24, .int .i64 x25, .int .i64 x26])] (by kernel_rfl) ?_
                        obtain ⟨h34, h107⟩ := req_some h106
                        refine AWl_o (x := .int .i64 (Int.fdiv x6 (2 ^ (min (IntKind.u64.wrap x33).toNat 64)))) (wl := []) (AOp_binOp rfl rfl (xbin_shr h34)) (by kernel_rfl) (by kernel_rfl) (by kernel_rfl) ?_
                        refine AWl_xrun 3 _ _ _ [(89, .bool (((Int.tmod (Int.fdiv x6 (2 ^ (min (IntKind.u64.wrap x33).toNat 64))) 2) : Int) == 1)), (88, .bool (((Int.tmod (Int.fdiv x6 (2 ^ (min (IntKind.u64.wrap x33).toNat 64))) 2) : Int) == 1)), (87, .int .i64 (Int.tmod (Int.fdiv x6 (2 ^ (min (IntKind.u64.wrap x33).toNat 64))) 2)), (86, .int .i64 (Int.fdiv x6 (2 ^ (min (IntKind.u64.wrap x33).toNat 64)))), (85, .int .u64 (IntKind.u64.wrap x33)), (84, .int .i64 x33), (83, .int .i64 x6), (82, .ptr 1 0), (81, .bool true), (80, .bool true), (79, .int .i64 (Int.tmod (Int.fdiv x24 (2 ^ (min (IntKind.u64.wrap x33).toNat 64))) 2)), (78, .int .i64 (Int.fdiv x24 (2 ^ (min (IntKind.u64.wrap x33).toNat 64)))), (77, .int .u64 (IntKind.u64.wrap x33)), (76, .int .i64 x33), (75, .int .i64 x24), (74, .ptr 0 0), (9, .int .i64 x36), (8, .int .i64 x33), (5, .rw 3 0 x34.length 1 none), (3, .ptr 1 0), (2, .ptr 0 0)] [(3, some (fl (eI .i64) x34)), (1, some [.int .i64 x6, .int .i64 x7, .int .i64 x8]), (0, some [.int .i64 x24, .int .i64 x25, .int .i64 x26])] (by kernel_rfl) ?_
                        refine AWl_nilK [89, 88, 87, 86, 85, 84, 83, 82, 9, 8, 5, 3, 2] [(89, .bool (((Int.tmod (Int.fdiv x6 (2 ^ (min (IntKind.u64.wrap x33).toNat 64))) 2) : Int) == 1)), (88, .bool (((Int.tmod (Int.fdiv x6 (2 ^ (min (IntKind.u64.wrap x33).toNat 64))) 2) : Int) == 1)), (87, .int .i64 (Int.tmod (Int.fdiv x6 (2 ^ (min (IntKind.u64.wrap x33).toNat 64))) 2)), (86, .int .i64 (Int.fdiv x6 (2 ^ (min (IntKind.u64.wrap x33).toNat 64)))), (85, .int .u64 (IntKind.u64.wrap x33)), (84, .int .i64 x33), (83, .int .i64 x6), (82, .ptr 1 0), (9, .int .i64 x36), (8, .int .i64 x33), (5, .rw 3 0 x34.length 1 none), (3, .ptr 1 0), (2, .ptr 0 0)] (by kernel_rfl) ?_
                        obtain rfl := Option.some.inj h107
                        refine Tgt.mk (Weak.ren [] [] (.cons rfl (.pure rfl) (.cons rfl (.pure rfl) (.cons rfl (.pure rfl) (.cons rfl (.rw (l := 3) (l' := 3) rfl rfl) (.cons rfl (.ptr (l := 1) (l' := 1) rfl rfl) (.cons rfl (.ptr (l := 0) (l' := 0) rfl rfl) .nil)))))) (.cons rfl (.pure (fl_pure _)) (.cons rfl (.pure rfl) (.cons rfl (.pure rfl) .nil))) (by kernel_rfl) (fun _ h => h.elim) En_ok)
                    · skip
                      cases h35 : x37
                      · have h108 := bif_f h35 h103
                        refine AW_condF rfl ?_
                        refine AW_skip ?_
                        refine ablock_n ?_
                        obtain rfl := Option.some.inj h108
                        refine Tgt.mk (Weak.ren [(2, 3)] [] (.cons rfl (.pure rfl) (.cons rfl (.rw (l := 3) (l' := 2) rfl rfl) (.cons rfl (.ptr (l := 1) (l' := 1) rfl rfl) (.cons rfl (.ptr (l := 0) (l' := 0) rfl rfl) .nil)))) (.cons rfl (.pure (fl_pure _)) (.cons rfl (.pure rfl) (.cons rfl (.pure rfl) .nil))) (by kernel_rfl) (fun _ h => h.elim) En_ok)
                      · have h109 := bif_t h35 h103
                        refine AW_condT rfl ?_
                        refine AW_region ?_
                        refine AWl_xrun 3 _ _ _ [(92, .rw 4 0 1 1 (some 1)), (91, .int .i64 x36), (90, .rw 3 0 x34.length 1 none), (89, .bool true), (9, .int .i64 x36), (8, .int .i64 x33), (5, .rw 3 0 x34.length 1 none), (3, .ptr 1 0), (2, .ptr 0 0)] [(3, some (fl (eI .i64) x34)), (1, some [.int .i64 x6, .int .i64 x7, .int .i64 x8]), (0, some [.int .i64 x24, .int .i64 x25, .int .i64 x26]), (4, some [.int .i64 x36])] (by kernel_rfl) ?_
                        obtain ⟨h36, h110⟩ := req_some h109
                        refine AWl_o (x := .rw 5 0 ((x34 ++ ([x36] : List Int)).length) 1 none) (wl := [(3, none), (5, some (fl (eI .i64) (x34 ++ ([x36] : List Int))))]) (AOp_appendL (e := (eI .i64)) (l := x34) (m := ([x36] : List Int)) 5 1 rfl rfl (.own rfl rfl rfl rfl) (Src.ok (.rwL rfl rfl rfl rfl rfl)) rfl rfl rfl rfl rfl rfl h36 (by decide) rfl) (by kernel_rfl) (by kernel_rfl) (by kernel_rfl) ?_
                        refine AWl_xrun 1 _ _ _ [(5, .rw 5 0 ((x34 ++ ([x36] : List Int)).length) 1 none), (93, .rw 5 0 ((x34 ++ ([x36] : List Int)).length) 1 none), (92, .rw 4 0 1 1 (some 1)), (91, .int .i64 x36), (90, .rw 3 0 x34.length 1 none), (89, .bool true), (9, .int .i64 x36), (8, .int .i64 x33), (5, .rw 3 0 x34.length 1 none), (3, .ptr 1 0), (2, .ptr 0 0)] [(3, none), (1, some [.int .i64 x6, .int .i64 x7, .int .i64 x8]), (0, some [.int .i64 x24, .int .i64 x25, .int .i64 x26]), (4, some [.int .i64 x36]), (5, some (fl (eI .i64) (x34 ++ ([x36] : List Int))))] (by kernel_rfl) ?_
                        refine AWl_nilK [5, 8, 3, 2] [(5, .rw 5 0 ((x34 ++ ([x36] : List Int)).length) 1 none), (8, .int .i64 x33), (3, .ptr 1 0), (2, .ptr 0 0)] (by kernel_rfl) ?_
                        refine ablock_n ?_
                        obtain rfl := Option.some.inj h110
                        refine Tgt.mk (Weak.ren [(2, 5)] [] (.cons rfl (.pure rfl) (.cons rfl (.rw (l := 5) (l' := 2) rfl rfl) (.cons rfl (.ptr (l := 1) (l' := 1) rfl rfl) (.cons rfl (.ptr (l := 0) (l' := 0) rfl rfl) .nil)))) (.cons rfl (.pure (fl_pure _)) (.cons rfl (.pure rfl) (.cons rfl (.pure rfl) .nil))) (by kernel_rfl) (fun _ h => h.elim) En_ok)
                  · skip
                    refine AW_region ?_
                    refine AWl_xrun 3 _ _ _ [(8, .int .i64 (IntKind.i64.wrap (x33 + 1))), (68, .int .i64 (IntKind.i64.wrap (x33 + 1))), (67, .int .i64 x33), (8, .int .i64 x33), (5, .rw 2 0 x39.length 1 none), (3, .ptr 1 0), (2, .ptr 0 0)] [(2, some (fl (eI .i64) x39)), (1, some [.int .i64 x6, .int .i64 x7, .int .i64 x8]), (0, some [.int .i64 x24, .int .i64 x25, .int .i64 x26])] (by kernel_rfl) ?_
                    refine AWl_nilK [8, 5, 3, 2] [(8, .int .i64 (IntKind.i64.wrap (x33 + 1))), (5, .rw 2 0 x39.length 1 none), (3, .ptr 1 0), (2, .ptr 0 0)] (by kernel_rfl) ?_
                    obtain rfl := Option.some.inj h101
                    refine Round.on (Weak.ren [(3, 2)] [] (.cons rfl (.pure rfl) (.cons rfl (.rw (l := 2) (l' := 3) rfl rfl) (.cons rfl (.ptr (l := 1) (l' := 1) rfl rfl) (.cons rfl (.ptr (l := 0) (l' := 0) rfl rfl) .nil)))) (.cons rfl (.pure (fl_pure _)) (.cons rfl (.pure rfl) (.cons rfl (.pure rfl) .nil))) (by kernel_rfl) (fun _ h => h.elim) En_ok)
              · skip
                rintro e al L ⟨rfl, h111⟩ -
                refine ⟨_, _, h111, ?_⟩
                refine ablock_eq ?_
                refine athen_n ?_
                obtain ⟨x45, h47, h112⟩ := bind_some h96
                refine AW_meetN (fun x45 => [(5, .rw 2 0 x45.length 1 none), (3, .ptr 1 0), (2, .ptr 0 0)]) (fun x45 => [(2, some (fl (eI .i64) x45)), (1, some [.int .i64 x6, .int .i64 x7, .int .i64 x8]), (0, some [.int .i64 x24, .int .i64 x25, .int .i64 x26])]) x45 ?_ ?_
                · skip
                  refine AW_seq ?_
                  refine AW_region ?_
                  refine AWl_xrun 5 _ _ _ [(98, .bool ((x25 : Int) != x7)), (97, .int .i64 x7), (96, .ptr 1 1), (95, .int .i64 x25), (94, .ptr 0 1), (5, .rw 3 0 x43.length 1 none), (3, .ptr 1 0), (2, .ptr 0 0)] [(3, some (fl (eI .i64) x43)), (1, some [.int .i64 x6, .int .i64 x7, .int .i64 x8]), (0, some [.int .i64 x24, .int .i64 x25, .int .i64 x26])] (by kernel_rfl) ?_
                  refine AWl_nilK [98, 5, 3, 2] [(98, .bool ((x25 : Int) != x7)), (5, .rw 3 0 x43.length 1 none), (3, .ptr 1 0), (2, .ptr 0 0)] (by kernel_rfl) ?_
                  refine athen_n ?_
                  cases h40 : ((x25 : Int) != x7)
                  · have h113 := bif_f h40 h47
                    refine AW_condF rfl ?_
                    refine AW_skip ?_
                    obtain rfl := Option.some.inj h113
                    refine Tgt.mk (Weak.ren [(2, 3)] [] (.cons rfl (.rw (l := 3) (l' := 2) rfl rfl) (.cons rfl (.ptr (l := 1) (l' := 1) rfl rfl) (.cons rfl (.ptr (l := 0) (l' := 0) rfl rfl) .nil))) (.cons rfl (.pure (fl_pure _)) (.cons rfl (.pure rfl) (.cons rfl (.pure rfl) .nil))) (by kernel_rfl) (fun _ h => h.elim) En_ok)
                  · have h114 := bif_t h40 h47
                    refine AW_condT rfl ?_
                    refine AW_region ?_
                    refine AWl_xrun 3 _ _ _ [(101, .int .i64 x7), (100, .ptr 1 1), (99, .rw 3 0 x43.length 1 none), (98, .bool true), (5, .rw 3 0 x43.length 1 none), (3, .ptr 1 0), (2, .ptr 0 0)] [(3, some (fl (eI .i64) x43)), (1, some [.int .i64 x6, .int .i64 x7, .int .i64 x8]), (0, some [.int .i64 x24, .int .i64 x25, .int .i64 x26])] (by kernel_rfl) ?_
                    obtain ⟨x44, h41, h115⟩ := bind_some h114
                    refine AWl_o (x := .ro (fl (eI .i64) x44) x44.length none) (wl := []) (AOp_callP En_ok Tryd.call27 (caps := []) (xs := [.int .i64 x7, .int .i64 30, .int .i64 90, .int .i64 38]) rfl rfl (orielref12_colour_ok h41) rfl) (by kernel_rfl) (by kernel_rfl) (by kernel_rfl) ?_
                    obtain ⟨h42, h116⟩ := req_some h115
                    refine AWl_o (x := .rw 4 0 ((x43 ++ x44).length) 1 none) (wl := [(3, none), (4, some (fl (eI .i64) (x43 ++ x44)))]) (AOp_appendL (e := (eI .i64)) (l := x43) (m := x44) 4 1 rfl rfl (.own rfl rfl rfl rfl) (Src.ok (.ro rfl rfl)) rfl rfl rfl rfl rfl rfl h42 (by decide) rfl) (by kernel_rfl) (by kernel_rfl) (by kernel_rfl) ?_
                    refine AWl_xrun 1 _ _ _ [(5, .rw 4 0 ((x43 ++ x44).length) 1 none), (103, .rw 4 0 ((x43 ++ x44).length) 1 none), (102, .ro (fl (eI .i64) x44) x44.length none), (101, .int .i64 x7), (100, .ptr 1 1), (99, .rw 3 0 x43.length 1 none), (98, .bool true), (5, .rw 3 0 x43.length 1 none), (3, .ptr 1 0), (2, .ptr 0 0)] [(3, none), (1, some [.int .i64 x6, .int .i64 x7, .int .i64 x8]), (0, some [.int .i64 x24, .int .i64 x25, .int .i64 x26]), (4, some (fl (eI .i64) (x43 ++ x44)))] (by kernel_rfl) ?_
                    refine AWl_nilK [5, 3, 2] [(5, .rw 4 0 ((x43 ++ x44).length) 1 none), (3, .ptr 1 0), (2, .ptr 0 0)] (by kernel_rfl) ?_
                    obtain rfl := Option.some.inj h116
                    refine Tgt.mk (Weak.ren [(2, 4)] [] (.cons rfl (.rw (l := 4) (l' := 2) rfl rfl) (.cons rfl (.ptr (l := 1) (l' := 1) rfl rfl) (.cons rfl (.ptr (l := 0) (l' := 0) rfl rfl) .nil))) (.cons rfl (.pure (fl_pure _)) (.cons rfl (.pure rfl) (.cons rfl (.pure rfl) .nil))) (by kernel_rfl) (fun _ h => h.elim) En_ok)
                · skip
                  obtain ⟨x47, h46, h117⟩ := bind_some h112
                  refine AW_meetN (fun x47 => [(5, .rw 4 0 x47.length 1 none)]) (fun x47 => [(4, some (fl (eI .i64) x47))]) x47 ?_ ?_
                  · skip
                    refine AW_seq ?_
                    refine AW_region ?_
                    refine AWl_xrun 5 _ _ _ [(108, .bool ((x26 : Int) != x8)), (107, .int .i64 x8), (106, .ptr 1 2), (105, .int .i64 x26), (104, .ptr 0 2), (5, .rw 2 0 x45.length 1 none), (3, .ptr 1 0), (2, .ptr 0 0)] [(2, some (fl (eI .i64) x45)), (1, some [.int .i64 x6, .int .i64 x7, .int .i64 x8]), (0, some [.int .i64 x24, .int .i64 x25, .int .i64 x26])] (by kernel_rfl) ?_
                    refine AWl_nilK [108, 5, 3] [(108, .bool ((x26 : Int) != x8)), (5, .rw 2 0 x45.length 1 none), (3, .ptr 1 0)] (by kernel_rfl) ?_
                    refine athen_n ?_
                    cases h43 : ((x26 : Int) != x8)
                    · have h118 := bif_f h43 h46
                      refine AW_condF rfl ?_
                      refine AW_skip ?_
                      obtain rfl := Option.some.inj h118
                      refine Tgt.mk (Weak.ren [(4, 2)] [] (.cons rfl (.rw (l := 2) (l' := 4) rfl rfl) .nil) (.cons rfl (.pure (fl_pure _)) .nil) (by kernel_rfl) (fun _ h => h.elim) En_ok)
                    · have h119 := bif_t h43 h46
                      refine AW_condT rfl ?_
                      refine AW_region ?_
                      refine AWl_xrun 3 _ _ _ [(111, .int .i64 x8), (110, .ptr 1 2), (109, .rw 2 0 x45.length 1 none), (108, .bool true), (5, .rw 2 0 x45.length 1 none), (3, .ptr 1 0)] [(2, some (fl (eI .i64) x45)), (1, some [.int .i64 x6, .int .i64 x7, .int .i64 x8]), (0, some [.int .i64 x24, .int .i64 x25, .int .i64 x26])] (by kernel_rfl) ?_
                      obtain ⟨x46, h44, h120⟩ := bind_some h119
                      refine AWl_o (x := .ro (fl (eI .i64) x46) x46.length none) (wl := []) (AOp_callP En_ok Tryd.call27 (caps := []) (xs := [.int .i64 x8, .int .i64 40, .int .i64 100, .int .i64 48]) rfl rfl (orielref12_colour_ok h44) rfl) (by kernel_rfl) (by kernel_rfl) (by kernel_rfl) ?_
                      obtain ⟨h45, h121⟩ := req_some h120
                      refine AWl_o (x := .rw 3 0 ((x45 ++ x46).length) 1 none) (wl := [(2, none), (3, some (fl (eI .i64) (x45 ++ x46)))]) (AOp_appendL (e := (eI .i64)) (l := x45) (m := x46) 3 1 rfl rfl (.own rfl rfl rfl rfl) (Src.ok (.ro rfl rfl)) rfl rfl rfl rfl rfl rfl h45 (by decide) rfl) (by kernel_rfl) (by kernel_rfl) (by kernel_rfl) ?_
                      refine AWl_xrun 1 _ _ _ [(5, .rw 3 0 ((x45 ++ x46).length) 1 none), (113, .rw 3 0 ((x45 ++ x46).length) 1 none), (112, .ro (fl (eI .i64) x46) x46.length none), (111, .int .i64 x8), (110, .ptr 1 2), (109, .rw 2 0 x45.length 1 none), (108, .bool true), (5, .rw 2 0 x45.length 1 none), (3, .ptr 1 0)] [(2, none), (1, some [.int .i64 x6, .int .i64 x7, .int .i64 x8]), (0, some [.int .i64 x24, .int .i64 x25, .int .i64 x26]), (3, some (fl (eI .i64) (x45 ++ x46)))] (by kernel_rfl) ?_
                      refine AWl_nilK [5] [(5, .rw 3 0 ((x45 ++ x46).length) 1 none)] (by kernel_rfl) ?_
                      obtain rfl := Option.some.inj h121
                      refine Tgt.mk (Weak.ren [(4, 3)] [] (.cons rfl (.rw (l := 3) (l' := 4) rfl rfl) .nil) (.cons rfl (.pure (fl_pure _)) .nil) (by kernel_rfl) (fun _ h => h.elim) En_ok)
                  · skip
                    refine AW_seq ?_
                    refine AW_region ?_
                    refine AWl_xrun 2 _ _ _ [(4, .rw 4 0 x47.length 1 none), (114, .rw 4 0 x47.length 1 none), (5, .rw 4 0 x47.length 1 none)] [(4, some (fl (eI .i64) x47))] (by kernel_rfl) ?_
                    refine AWl_nilK [4] [(4, .rw 4 0 x47.length 1 none)] (by kernel_rfl) ?_
                    refine athen_n ?_
                    refine AW_ret ?_
                    obtain rfl := Option.some.inj h117
                    refine RetsW.mk [(4, .rw 2 0 x47.length 1 none)] [(2, some (fl (eI .i64) x47))] (Weak.ren [(2, 4)] [] (.cons rfl (.rw (l := 4) (l' := 2) rfl rfl) .nil) (.cons rfl (.pure (fl_pure _)) .nil) (by kernel_rfl) (fun _ h => h.elim) En_ok) (rets1 (x := .rw 2 0 x47.length 1 none) (.inl rfl) (by kernel_rfl) (Out.fl rfl rfl rfl rfl))
      · have h122 := bif_t h5 h58
        refine AW_condT rfl ?_
        refine AW_seq ?_
        refine AW_region ?_
        refine AWl_xrun 1 _ _ _ [(4, .nils), (21, .bool true), (3, .ptr 1 0), (2, .ptr 0 0)] [(1, some [.int .i64 x6, .int .i64 x7, .int .i64 x8]), (0, some [.int .i64 x2, .int .i64 x3, .int .i64 x4])] (by kernel_rfl) ?_
        refine AWl_nilK [4] [(4, .nils)] (by kernel_rfl) ?_
        refine athen_n ?_
        refine AW_ret ?_
        refine athen_ret ?_
        obtain rfl := Option.some.inj h122
        refine RetsW.mk [(4, .rw 2 0 (([] : List Int).length) 1 none)] [(2, some (fl (eI .i64) ([] : List Int)))] (Weak.ren [(2, 52)] [] (.cons rfl (.nilsRw rfl) .nil) (.fresh rfl .nil) (by kernel_rfl) (fun _ h => h.elim) En_ok) (rets1 (x := .rw 2 0 (([] : List Int).length) 1 none) (.inl rfl) (by kernel_rfl) (Out.fl rfl rfl rfl rfl))
noncomputable def orielref12_Digits_loop1  (x1 : List UInt8) (x2 : Int) : Option (((List UInt8) × Int) ⊕ ((List UInt8) × Int)) :=
    bif (decide (x2 > 9)) then
      (req (([(UInt8.ofInt (IntKind.i64.wrap (48 + (Int.tmod x2 10))))] : List UInt8).length + x1.length ≤ 9223372036854775807) (
      some (.inr ((([(UInt8.ofInt (IntKind.i64.wrap (48 + (Int.tmod x2 10))))] : List UInt8) ++ x1), IntKind.i64.wrap (Int.tdiv x2 10)))))
    else
      (some (.inl (x1, x2)))
noncomputable def orielref12_Digits (a0 : Int) : Option ((List UInt8)) :=
  (loopO (fun z => match z with | (x1, x2) => orielref12_Digits_loop1 x1 x2) ([], a0)).bind fun (x5, x6) =>
  req (([(UInt8.ofInt (IntKind.i64.wrap (48 + x6)))] : List UInt8).length + x5.length ≤ 9223372036854775807) (
  some (([(UInt8.ofInt (IntKind.i64.wrap (48 + x6)))] : List UInt8) ++ x5))
theorem orielref12_Digits_ok {a0 : Int} {x8 : List UInt8} (h : orielref12_Digits a0 = some x8) : Pure En 29 [.int .i64 a0] (.str x8) := by
  unfold orielref12_Digits at h
  refine ACalls_pureW En_ok (fn := Tryd.f29) Tryd.func29 rfl (by simp [Tryd.ntmps29]) ?_
  refine AW_seq ?_
  refine AW_region ?_
  refine AWl_xrun 1 _ _ _ [(2, .str []), (0, .int .i64 a0)] [] (by kernel_rfl) ?_
  refine AWl_nilK [0] [(0, .int .i64 a0)] (by kernel_rfl) ?_
  refine athen_n ?_
  refine AW_seq ?_
  refine AW_region ?_
  refine AWl_xrun 1 _ _ _ [(3, .str []), (0, .int .i64 a0)] [] (by kernel_rfl) ?_
  refine AWl_nilK [3, 0] [(3, .str []), (0, .int .i64 a0)] (by kernel_rfl) ?_
  refine athen_n ?_
  refine AW_seq ?_
  refine AW_block ?_
  obtain ⟨x7, h5, h7⟩ := bind_some h
  refine AW_loopM _ (fun z => match z with | (x1, x2) => [(3, .str x1), (0, .int .i64 x2)]) (fun z => match z with | (x1, x2) => []) (fun z e al L => match z with | (x5, x6) => Tgt En (fun _ => False) (.exit 0) [(3, .str x5), (0, .int .i64 x6)] [] e al L) h5 (Weak.ren [] [] (.cons rfl (.pure rfl) (.cons rfl (.pure rfl) .nil)) .nil (by kernel_rfl) (fun _ h => h.elim) En_ok) ?_ ?_
  · rintro ⟨x1, x2⟩ x9 h8
    have h9 : orielref12_Digits_loop1 x1 x2 = some _ := h8
    unfold orielref12_Digits_loop1 at h9
    refine AW_seq ?_
    refine AW_seq ?_
    refine AW_region ?_
    refine AWl_xrun 2 _ _ _ [(5, .bool (decide (x2 > 9))), (4, .int .i64 x2), (3, .str x1), (0, .int .i64 x2)] [] (by kernel_rfl) ?_
    refine AWl_nilK [5, 3, 0] [(5, .bool (decide (x2 > 9))), (3, .str x1), (0, .int .i64 x2)] (by kernel_rfl) ?_
    refine athen_n ?_
    cases h3 : (decide (x2 > 9))
    · have h10 := bif_f h3 h9
      refine AW_condF rfl ?_
      refine AW_exit ?_
      refine athen_exit ?_
      obtain rfl := Option.some.inj h10
      refine Round.off (by simp) (Tgt.mk (Weak.ren [] [] (.cons rfl (.pure rfl) (.cons rfl (.pure rfl) .nil)) .nil (by kernel_rfl) (fun _ h => h.elim) En_ok))
    · have h11 := bif_t h3 h9
      refine AW_condT rfl ?_
      refine AW_skip ?_
      refine athen_n ?_
      refine AW_block ?_
      refine AW_seq ?_
      refine AW_region ?_
      refine AWl_xrun 3 _ _ _ [(8, .int .i64 (IntKind.i64.wrap (48 + (Int.tmod x2 10)))), (7, .int .i64 (Int.tmod x2 10)), (6, .int .i64 x2), (5, .bool true), (3, .str x1), (0, .int .i64 x2)] [] (by kernel_rfl) ?_
      refine AWl_o (x := .int .u8 ((UInt8.ofInt (IntKind.i64.wrap (48 + (Int.tmod x2 10)))).toNat : Int)) (wl := []) (AOp_x (x' := .int .u8 (IntKind.u8.wrap (IntKind.i64.wrap (48 + (Int.tmod x2 10))))) 0 rfl (by kernel_rfl) (by rw [wrap_u8])) (by kernel_rfl) (by kernel_rfl) (by kernel_rfl) ?_
      refine AWl_xrun 1 _ _ _ [(10, .rw 0 0 1 1 (some 1)), (9, .int .u8 ((UInt8.ofInt (IntKind.i64.wrap (48 + (Int.tmod x2 10)))).toNat : Int)), (8, .int .i64 (IntKind.i64.wrap (48 + (Int.tmod x2 10)))), (7, .int .i64 (Int.tmod x2 10)), (6, .int .i64 x2), (5, .bool true), (3, .str x1), (0, .int .i64 x2)] [(0, some [.int .u8 ((UInt8.ofInt (IntKind.i64.wrap (48 + (Int.tmod x2 10)))).toNat : Int)])] (by kernel_rfl) ?_
      refine AWl_o (x := .str ([(UInt8.ofInt (IntKind.i64.wrap (48 + (Int.tmod x2 10))))] : List UInt8)) (wl := []) (AOp_bytesL rfl rfl rfl rfl (.rwL rfl rfl rfl rfl rfl)) (by kernel_rfl) (by kernel_rfl) (by kernel_rfl) ?_
      refine AWl_xrun 1 _ _ _ [(12, .str x1), (11, .str ([(UInt8.ofInt (IntKind.i64.wrap (48 + (Int.tmod x2 10))))] : List UInt8)), (10, .rw 0 0 1 1 (some 1)), (9, .int .u8 ((UInt8.ofInt (IntKind.i64.wrap (48 + (Int.tmod x2 10)))).toNat : Int)), (8, .int .i64 (IntKind.i64.wrap (48 + (Int.tmod x2 10)))), (7, .int .i64 (Int.tmod x2 10)), (6, .int .i64 x2), (5, .bool true), (3, .str x1), (0, .int .i64 x2)] [(0, some [.int .u8 ((UInt8.ofInt (IntKind.i64.wrap (48 + (Int.tmod x2 10)))).toNat : Int)])] (by kernel_rfl) ?_
      obtain ⟨h4, h12⟩ := req_some h11
      refine AWl_o (x := .str (([(UInt8.ofInt (IntKind.i64.wrap (48 + (Int.tmod x2 10))))] : List UInt8) ++ x1)) (wl := []) (AOp_strAdd rfl rfl h4) (by kernel_rfl) (by kernel_rfl) (by kernel_rfl) ?_
      refine AWl_xrun 1 _ _ _ [(3, .str (([(UInt8.ofInt (IntKind.i64.wrap (48 + (Int.tmod x2 10))))] : List UInt8) ++ x1)), (13, .str (([(UInt8.ofInt (IntKind.i64.wrap (48 + (Int.tmod x2 10))))] : List UInt8) ++ x1)), (12, .str x1), (11, .str ([(UInt8.ofInt (IntKind.i64.wrap (48 + (Int.tmod x2 10))))] : List UInt8)), (10, .rw 0 0 1 1 (some 1)), (9, .int .u8 ((UInt8.ofInt (IntKind.i64.wrap (48 + (Int.tmod x2 10)))).toNat : Int)), (8, .int .i64 (IntKind.i64.wrap (48 + (Int.tmod x2 10)))), (7, .int .i64 (Int.tmod x2 10)), (6, .int .i64 x2), (5, .bool true), (3, .str x1), (0, .int .i64 x2)] [(0, some [.int .u8 ((UInt8.ofInt (IntKind.i64.wrap (48 + (Int.tmod x2 10)))).toNat : Int)])] (by kernel_rfl) ?_
      refine AWl_nilK [3, 0] [(3, .str (([(UInt8.ofInt (IntKind.i64.wrap (48 + (Int.tmod x2 10))))] : List UInt8) ++ x1)), (0, .int .i64 x2)] (by kernel_rfl) ?_
      refine athen_n ?_
      refine AW_region ?_
      refine AWl_xrun 3 _ _ _ [(0, .int .i64 (IntKind.i64.wrap (Int.tdiv x2 10))), (15, .int .i64 (IntKind.i64.wrap (Int.tdiv x2 10))), (14, .int .i64 x2), (3, .str (([(UInt8.ofInt (IntKind.i64.wrap (48 + (Int.tmod x2 10))))] : List UInt8) ++ x1)), (0, .int .i64 x2)] [(0, some [.int .u8 ((UInt8.ofInt (IntKind.i64.wrap (48 + (Int.tmod x2 10)))).toNat : Int)])] (by kernel_rfl) ?_
      refine AWl_nilK [0, 3] [(0, .int .i64 (IntKind.i64.wrap (Int.tdiv x2 10))), (3, .str (([(UInt8.ofInt (IntKind.i64.wrap (48 + (Int.tmod x2 10))))] : List UInt8) ++ x1))] (by kernel_rfl) ?_
      refine ablock_n ?_
      obtain rfl := Option.some.inj h12
      refine Round.on (Weak.ren [] [] (.cons rfl (.pure rfl) (.cons rfl (.pure rfl) .nil)) .nil (by kernel_rfl) (fun _ h => h.elim) En_ok)
  · obtain ⟨x5, x6⟩ := x7
    rintro e al L ⟨rfl, h13⟩ -
    refine ⟨_, _, h13, ?_⟩
    refine ablock_eq ?_
    refine athen_n ?_
    refine AW_seq ?_
    refine AW_region ?_
    refine AWl_xrun 2 _ _ _ [(17, .int .i64 (IntKind.i64.wrap (48 + x6))), (16, .int .i64 x6), (3, .str x5), (0, .int .i64 x6)] [] (by kernel_rfl) ?_
    refine AWl_o (x := .int .u8 ((UInt8.ofInt (IntKind.i64.wrap (48 + x6))).toNat : Int)) (wl := []) (AOp_x (x' := .int .u8 (IntKind.u8.wrap (IntKind.i64.wrap (48 + x6)))) 0 rfl (by kernel_rfl) (by rw [wrap_u8])) (by kernel_rfl) (by kernel_rfl) (by kernel_rfl) ?_
    refine AWl_xrun 1 _ _ _ [(19, .rw 0 0 1 1 (some 1)), (18, .int .u8 ((UInt8.ofInt (IntKind.i64.wrap (48 + x6))).toNat : Int)), (17, .int .i64 (IntKind.i64.wrap (48 + x6))), (16, .int .i64 x6), (3, .str x5), (0, .int .i64 x6)] [(0, some [.int .u8 ((UInt8.ofInt (IntKind.i64.wrap (48 + x6))).toNat : Int)])] (by kernel_rfl) ?_
    refine AWl_o (x := .str ([(UInt8.ofInt (IntKind.i64.wrap (48 + x6)))] : List UInt8)) (wl := []) (AOp_bytesL rfl rfl rfl rfl (.rwL rfl rfl rfl rfl rfl)) (by kernel_rfl) (by kernel_rfl) (by kernel_rfl) ?_
    refine AWl_xrun 1 _ _ _ [(21, .str x5), (20, .str ([(UInt8.ofInt (IntKind.i64.wrap (48 + x6)))] : List UInt8)), (19, .rw 0 0 1 1 (some 1)), (18, .int .u8 ((UInt8.ofInt (IntKind.i64.wrap (48 + x6))).toNat : Int)), (17, .int .i64 (IntKind.i64.wrap (48 + x6))), (16, .int .i64 x6), (3, .str x5), (0, .int .i64 x6)] [(0, some [.int .u8 ((UInt8.ofInt (IntKind.i64.wrap (48 + x6))).toNat : Int)])] (by kernel_rfl) ?_
    obtain ⟨h6, h14⟩ := req_some h7
    refine AWl_o (x := .str (([(UInt8.ofInt (IntKind.i64.wrap (48 + x6)))] : List UInt8) ++ x5)) (wl := []) (AOp_strAdd rfl rfl h6) (by kernel_rfl) (by kernel_rfl) (by kernel_rfl) ?_
    refine AWl_xrun 1 _ _ _ [(2, .str (([(UInt8.ofInt (IntKind.i64.wrap (48 + x6)))] : List UInt8) ++ x5)), (22, .str (([(UInt8.ofInt (IntKind.i64.wrap (48 + x6)))] : List UInt8) ++ x5)), (21, .str x5), (20, .str ([(UInt8.ofInt (IntKind.i64.wrap (48 + x6)))] : List UInt8)), (19, .rw 0 0 1 1 (some 1)), (18, .int .u8 ((UInt8.ofInt (IntKind.i64.wrap (48 + x6))).toNat : Int)), (17, .int .i64 (IntKind.i64.wrap (48 + x6))), (16, .int .i64 x6), (3, .str x5), (0, .int .i64 x6)] [(0, some [.int .u8 ((UInt8.ofInt (IntKind.i64.wrap (48 + x6))).toNat : Int)])] (by kernel_rfl) ?_
    refine AWl_nilK [2] [(2, .str (([(UInt8.ofInt (IntKind.i64.wrap (48 + x6)))] : List UInt8) ++ x5))] (by kernel_rfl) ?_
    refine athen_n ?_
    refine AW_ret ?_
    obtain rfl := Option.some.inj h14
    refine RetsW.mk [(2, .str (([(UInt8.ofInt (IntKind.i64.wrap (48 + x6)))] : List UInt8) ++ x5))] [] (Weak.ren [] [] (.cons rfl (.pure rfl) .nil) .nil (by kernel_rfl) (fun _ h => h.elim) En_ok) (rets1 (x := .str (([(UInt8.ofInt (IntKind.i64.wrap (48 + x6)))] : List UInt8) ++ x5)) (.inl rfl) (by kernel_rfl) (.pure rfl))
noncomputable def orielref12_Form_loop1 (x1 : List Int) (x4 : Int) (x5 : List UInt8) : Option ((List UInt8) ⊕ (Int × (List UInt8))) :=
    bif (decide (x4 < (x1.length : Int))) then
      ((bif (decide (x4 > 0)) then
          (req (x5.length + ([59]).length ≤ 9223372036854775807) (
          some (x5 ++ [59])))
        else
          (some x5) : Option ((List UInt8))).bind fun x6 =>
      (getI x1 x4).bind fun x7 =>
      (orielref12_Digits x7).bind fun x8 =>
      req (x6.length + x8.length ≤ 9223372036854775807) (
      some (.inr (IntKind.i64.wrap (x4 + 1), (x6 ++ x8)))))
    else
      (some (.inl x5))
noncomputable def orielref12_Form (a0 : Int) (a1 : Int) (a2 : Int) (a3 : Int) (a4 : Int) (a5 : Int) : Option ((List UInt8)) :=
  (orielref12_Turn a0 a1 a2 a3 a4 a5).bind fun x1 =>
  (loopO (fun z => match z with | (x4, x5) => orielref12_Form_loop1 x1 x4 x5) (0, [])).bind fun x12 =>
  bif ((x12 : List UInt8) == []) then
    (some ([]))
  else
    (req (([27, 91]).length + x12.length ≤ 9223372036854775807) (
    req (([27, 91] ++ x12).length + ([109]).length ≤ 9223372036854775807) (
    some (([27, 91] ++ x12) ++ [109]))))
theorem orielref12_Form_ok {a0 : Int} {a1 : Int} {a2 : Int} {a3 : Int} {a4 : Int} {a5 : Int} {x13 : List UInt8} (h : orielref12_Form a0 a1 a2 a3 a4 a5 = some x13) : Pure En 16 [.agg [.int .i64 a0, .int .i64 a1, .int .i64 a2], .agg [.int .i64 a3, .int .i64 a4, .int .i64 a5]] (.str x13) := by
  unfold orielref12_Form at h
  refine ACalls_pureW En_ok (fn := Tryd.f16) Tryd.func16 rfl (by simp [Tryd.ntmps16]) ?_
  refine AW_seq ?_
  refine AW_region ?_
  refine AWl_xrun 3 _ _ _ [(4, .str []), (3, .ptr 1 0), (2, .ptr 0 0), (0, .agg [.int .i64 a0, .int .i64 a1, .int .i64 a2]), (1, .agg [.int .i64 a3, .int .i64 a4, .int .i64 a5])] [(0, some [.int .i64 a0, .int .i64 a1, .int .i64 a2]), (1, some [.int .i64 a3, .int .i64 a4, .int .i64 a5])] (by kernel_rfl) ?_
  refine AWl_nilK [3, 2] [(3, .ptr 1 0), (2, .ptr 0 0)] (by kernel_rfl) ?_
  refine athen_n ?_
  refine AW_seq ?_
  refine AW_region ?_
  refine AWl_xrun 2 _ _ _ [(9, .agg [.int .i64 a3, .int .i64 a4, .int .i64 a5]), (8, .agg [.int .i64 a0, .int .i64 a1, .int .i64 a2]), (3, .ptr 1 0), (2, .ptr 0 0)] [(0, some [.int .i64 a0, .int .i64 a1, .int .i64 a2]), (1, some [.int .i64 a3, .int .i64 a4, .int .i64 a5])] (by kernel_rfl) ?_
  obtain ⟨x1, h1, h17⟩ := bind_some h
  refine AWl_o (x := .ro (fl (eI .i64) x1) x1.length none) (wl := []) (AOp_callP En_ok Tryd.call14 (caps := []) (xs := [.agg [.int .i64 a0, .int .i64 a1, .int .i64 a2], .agg [.int .i64 a3, .int .i64 a4, .int .i64 a5]]) rfl rfl (orielref12_Turn_ok h1) rfl) (by kernel_rfl) (by kernel_rfl) (by kernel_rfl) ?_
  refine AWl_xrun 1 _ _ _ [(5, .ro (fl (eI .i64) x1) x1.length none), (10, .ro (fl (eI .i64) x1) x1.length none), (9, .agg [.int .i64 a3, .int .i64 a4, .int .i64 a5]), (8, .agg [.int .i64 a0, .int .i64 a1, .int .i64 a2]), (3, .ptr 1 0), (2, .ptr 0 0)] [(0, some [.int .i64 a0, .int .i64 a1, .int .i64 a2]), (1, some [.int .i64 a3, .int .i64 a4, .int .i64 a5])] (by kernel_rfl) ?_
  refine AWl_nilK [5] [(5, .ro (fl (eI .i64) x1) x1.length none)] (by kernel_rfl) ?_
  refine athen_n ?_
  refine AW_seq ?_
  refine AW_region ?_
  refine AWl_xrun 1 _ _ _ [(6, .str []), (5, .ro (fl (eI .i64) x1) x1.length none)] [(0, some [.int .i64 a0, .int .i64 a1, .int .i64 a2]), (1, some [.int .i64 a3, .int .i64 a4, .int .i64 a5])] (by kernel_rfl) ?_
  refine AWl_nilK [6, 5] [(6, .str []), (5, .ro (fl (eI .i64) x1) x1.length none)] (by kernel_rfl) ?_
  refine athen_n ?_
  refine AW_seq ?_
  refine AW_seq ?_
  refine AW_region ?_
  refine AWl_xrun 1 _ _ _ [(7, .int .i64 0), (6, .str []), (5, .ro (fl (eI .i64) x1) x1.length none)] [(0, some [.int .i64 a0, .int .i64 a1, .int .i64 a2]), (1, some [.int .i64 a3, .int .i64 a4, .int .i64 a5])] (by kernel_rfl) ?_
  refine AWl_nilK [7, 6, 5] [(7, .int .i64 0), (6, .str []), (5, .ro (fl (eI .i64) x1) x1.length none)] (by kernel_rfl) ?_
  refine athen_n ?_
  refine AW_block ?_
  obtain ⟨x12, h13, h18⟩ := bind_some h17
  refine AW_loopM _ (fun z => match z with | (x4, x5) => [(7, .int .i64 x4), (6, .str x5), (5, .ro (fl (eI .i64) x1) x1.length none)]) (fun z => match z with | (x4, x5) => []) (fun z e al L => match z with | x12 => Tgt En (fun _ => False) (.exit 0) [(6, .str x12)] [] e al L) h13 (Weak.ren [] [] (.cons rfl (.pure rfl) (.cons rfl (.pure rfl) (.cons rfl (.pure (by simp [pureV, within, withinL, fl_pure])) .nil))) .nil (by kernel_rfl) (fun _ h => h.elim) En_ok) ?_ ?_
  · rintro ⟨x4, x5⟩ x14 h19
    have h20 : orielref12_Form_loop1 x1 x4 x5 = some _ := h19
    unfold orielref12_Form_loop1 at h20
    refine AW_seq ?_
    refine AW_seq ?_
    refine AW_region ?_
    refine AWl_xrun 4 _ _ _ [(14, .bool (decide (x4 < (x1.length : Int)))), (13, .int .i64 (x1.length : Int)), (12, .ro (fl (eI .i64) x1) x1.length none), (11, .int .i64 x4), (7, .int .i64 x4), (6, .str x5), (5, .ro (fl (eI .i64) x1) x1.length none)] [] (by kernel_rfl) ?_
    refine AWl_nilK [14, 7, 6, 5] [(14, .bool (decide (x4 < (x1.length : Int)))), (7, .int .i64 x4), (6, .str x5), (5, .ro (fl (eI .i64) x1) x1.length none)] (by kernel_rfl) ?_
    refine athen_n ?_
    cases h6 : (decide (x4 < (x1.length : Int)))
    · have h21 := bif_f h6 h20
      refine AW_condF rfl ?_
      refine AW_exit ?_
      refine athen_exit ?_
      obtain rfl := Option.some.inj h21
      refine Round.off (by simp) (Tgt.mk (Weak.ren [] [] (.cons rfl (.pure rfl) .nil) .nil (by kernel_rfl) (fun _ h => h.elim) En_ok))
    · have h22 := bif_t h6 h20
      refine AW_condT rfl ?_
      refine AW_skip ?_
      refine athen_n ?_
      refine AW_seq ?_
      refine AW_block ?_
      obtain ⟨x6, h12, h23⟩ := bind_some h22
      refine AW_meetN (fun x6 => [(7, .int .i64 x4), (6, .str x6), (5, .ro (fl (eI .i64) x1) x1.length none)]) (fun x6 => []) x6 ?_ ?_
      · skip
        refine AW_seq ?_
        refine AW_region ?_
        refine AWl_xrun 2 _ _ _ [(18, .bool (decide (x4 > 0))), (17, .int .i64 x4), (14, .bool true), (7, .int .i64 x4), (6, .str x5), (5, .ro (fl (eI .i64) x1) x1.length none)] [] (by kernel_rfl) ?_
        refine AWl_nilK [18, 7, 6, 5] [(18, .bool (decide (x4 > 0))), (7, .int .i64 x4), (6, .str x5), (5, .ro (fl (eI .i64) x1) x1.length none)] (by kernel_rfl) ?_
        refine athen_n ?_
        cases h7 : (decide (x4 > 0))
        · have h24 := bif_f h7 h12
          refine AW_condF rfl ?_
          refine AW_skip ?_
          obtain rfl := Option.some.inj h24
          refine Tgt.mk (Weak.ren [] [] (.cons rfl (.pure rfl) (.cons rfl (.pure rfl) (.cons rfl (.pure (by simp [pureV, within, withinL, fl_pure])) .nil))) .nil (by kernel_rfl) (fun _ h => h.elim) En_ok)
        · have h25 := bif_t h7 h12
          refine AW_condT rfl ?_
          refine AW_region ?_
          refine AWl_xrun 1 _ _ _ [(19, .str x5), (18, .bool true), (7, .int .i64 x4), (6, .str x5), (5, .ro (fl (eI .i64) x1) x1.length none)] [] (by kernel_rfl) ?_
          obtain ⟨h8, h26⟩ := req_some h25
          refine AWl_o (x := .str (x5 ++ [59])) (wl := []) (AOp_strAdd rfl rfl h8) (by kernel_rfl) (by kernel_rfl) (by kernel_rfl) ?_
          refine AWl_xrun 1 _ _ _ [(6, .str (x5 ++ [59])), (20, .str (x5 ++ [59])), (19, .str x5), (18, .bool true), (7, .int .i64 x4), (6, .str x5), (5, .ro (fl (eI .i64) x1) x1.length none)] [] (by kernel_rfl) ?_
          refine AWl_nilK [6, 7, 5] [(6, .str (x5 ++ [59])), (7, .int .i64 x4), (5, .ro (fl (eI .i64) x1) x1.length none)] (by kernel_rfl) ?_
          obtain rfl := Option.some.inj h26
          refine Tgt.mk (Weak.ren [] [] (.cons rfl (.pure rfl) (.cons rfl (.pure rfl) (.cons rfl (.pure (by simp [pureV, within, withinL, fl_pure])) .nil))) .nil (by kernel_rfl) (fun _ h => h.elim) En_ok)
      · skip
        refine AW_region ?_
        refine AWl_xrun 3 _ _ _ [(23, .int .i64 x4), (22, .ro (fl (eI .i64) x1) x1.length none), (21, .str x6), (7, .int .i64 x4), (6, .str x6), (5, .ro (fl (eI .i64) x1) x1.length none)] [] (by kernel_rfl) ?_
        obtain ⟨x7, h9, h27⟩ := bind_some h23
        refine AWl_o (x := .rop (fl (eI .i64) x1) (x4.toNat * 1)) (wl := []) (AOp_idxRo (e := (eI .i64)) (l := x1) 1 rfl rfl rfl rfl rfl rfl h9) (by kernel_rfl) (by kernel_rfl) (by kernel_rfl) ?_
        refine AWl_o (x := .int .i64 x7) (wl := []) (AOp_loadEl (e := (eI .i64)) (l := x1) (i := x4) 0 1 1 rfl rfl rfl rfl rfl h9 rfl (by kernel_rfl) (by kernel_rfl)) (by kernel_rfl) (by kernel_rfl) (by kernel_rfl) ?_
        obtain ⟨x8, h10, h28⟩ := bind_some h27
        refine AWl_o (x := .str x8) (wl := []) (AOp_callP En_ok Tryd.call29 (caps := []) (xs := [.int .i64 x7]) rfl rfl (orielref12_Digits_ok h10) rfl) (by kernel_rfl) (by kernel_rfl) (by kernel_rfl) ?_
        obtain ⟨h11, h29⟩ := req_some h28
        refine AWl_o (x := .str (x6 ++ x8)) (wl := []) (AOp_strAdd rfl rfl h11) (by kernel_rfl) (by kernel_rfl) (by kernel_rfl) ?_
        refine AWl_xrun 1 _ _ _ [(6, .str (x6 ++ x8)), (27, .str (x6 ++ x8)), (26, .str x8), (25, .int .i64 x7), (24, .rop (fl (eI .i64) x1) (x4.toNat * 1)), (23, .int .i64 x4), (22, .ro (fl (eI .i64) x1) x1.length none), (21, .str x6), (7, .int .i64 x4), (6, .str x6), (5, .ro (fl (eI .i64) x1) x1.length none)] [] (by kernel_rfl) ?_
        refine AWl_nilK [6, 7, 5] [(6, .str (x6 ++ x8)), (7, .int .i64 x4), (5, .ro (fl (eI .i64) x1) x1.length none)] (by kernel_rfl) ?_
        refine ablock_n ?_
        refine athen_n ?_
        refine AW_region ?_
        refine AWl_xrun 3 _ _ _ [(7, .int .i64 (IntKind.i64.wrap (x4 + 1))), (16, .int .i64 (IntKind.i64.wrap (x4 + 1))), (15, .int .i64 x4), (6, .str (x6 ++ x8)), (7, .int .i64 x4), (5, .ro (fl (eI .i64) x1) x1.length none)] [] (by kernel_rfl) ?_
        refine AWl_nilK [7, 6, 5] [(7, .int .i64 (IntKind.i64.wrap (x4 + 1))), (6, .str (x6 ++ x8)), (5, .ro (fl (eI .i64) x1) x1.length none)] (by kernel_rfl) ?_
        obtain rfl := Option.some.inj h29
        refine Round.on (Weak.ren [] [] (.cons rfl (.pure rfl) (.cons rfl (.pure rfl) (.cons rfl (.pure (by simp [pureV, within, withinL, fl_pure])) .nil))) .nil (by kernel_rfl) (fun _ h => h.elim) En_ok)
  · skip
    rintro e al L ⟨rfl, h30⟩ -
    refine ⟨_, _, h30, ?_⟩
    refine ablock_eq ?_
    refine athen_n ?_
    refine AW_seq ?_
    refine AW_seq ?_
    refine AW_region ?_
    refine AWl_xrun 2 _ _ _ [(29, .bool ((x12 : List UInt8) == [])), (28, .str x12), (6, .str x12)] [] (by kernel_rfl) ?_
    refine AWl_nilK [29, 6] [(29, .bool ((x12 : List UInt8) == [])), (6, .str x12)] (by kernel_rfl) ?_
    refine athen_n ?_
    cases h14 : ((x12 : List UInt8) == [])
    · have h31 := bif_f h14 h18
      refine AW_condF rfl ?_
      refine AW_skip ?_
      refine athen_n ?_
      refine AW_seq ?_
      refine AW_region ?_
      refine AWl_xrun 1 _ _ _ [(30, .str x12), (29, .bool false), (6, .str x12)] [] (by kernel_rfl) ?_
      obtain ⟨h15, h32⟩ := req_some h31
      refine AWl_o (x := .str ([27, 91] ++ x12)) (wl := []) (AOp_strAdd rfl rfl h15) (by kernel_rfl) (by kernel_rfl) (by kernel_rfl) ?_
      obtain ⟨h16, h33⟩ := req_some h32
      refine AWl_o (x := .str (([27, 91] ++ x12) ++ [109])) (wl := []) (AOp_strAdd rfl rfl h16) (by kernel_rfl) (by kernel_rfl) (by kernel_rfl) ?_
      refine AWl_xrun 1 _ _ _ [(4, .str (([27, 91] ++ x12) ++ [109])), (32, .str (([27, 91] ++ x12) ++ [109])), (31, .str ([27, 91] ++ x12)), (30, .str x12), (29, .bool false), (6, .str x12)] [] (by kernel_rfl) ?_
      refine AWl_nilK [4] [(4, .str (([27, 91] ++ x12) ++ [109]))] (by kernel_rfl) ?_
      refine athen_n ?_
      refine AW_ret ?_
      obtain rfl := Option.some.inj h33
      refine RetsW.mk [(4, .str (([27, 91] ++ x12) ++ [109]))] [] (Weak.ren [] [] (.cons rfl (.pure rfl) .nil) .nil (by kernel_rfl) (fun _ h => h.elim) En_ok) (rets1 (x := .str (([27, 91] ++ x12) ++ [109])) (.inl rfl) (by kernel_rfl) (.pure rfl))
    · have h34 := bif_t h14 h18
      refine AW_condT rfl ?_
      refine AW_seq ?_
      refine AW_region ?_
      refine AWl_xrun 1 _ _ _ [(4, .str []), (29, .bool true), (6, .str x12)] [] (by kernel_rfl) ?_
      refine AWl_nilK [4] [(4, .str [])] (by kernel_rfl) ?_
      refine athen_n ?_
      refine AW_ret ?_
      refine athen_ret ?_
      obtain rfl := Option.some.inj h34
      refine RetsW.mk [(4, .str ([]))] [] (Weak.ren [] [] (.cons rfl (.pure rfl) .nil) .nil (by kernel_rfl) (fun _ h => h.elim) En_ok) (rets1 (x := .str ([])) (.inl rfl) (by kernel_rfl) (.pure rfl))
noncomputable def oriellaw12_PenTurns_loop1 (x1 : List Int) (x2 : List Int) (x5 : Int) : Option ((Unit ⊕ Unit) ⊕ (Int)) :=
    bif (decide (x5 < (x1.length : Int))) then
      ((getI x1 x5).bind fun x6 =>
      (getI x2 x5).bind fun x7 =>
      bif ((x6 : Int) != x7) then
        (some (.inl (.inr ())))
      else
        (some (.inr (IntKind.i64.wrap (x5 + 1)))))
    else
      (some (.inl (.inl ())))
noncomputable def oriellaw12_PenTurns (a0 : Int) (a1 : Int) (a2 : Int) (a3 : Int) (a4 : Int) (a5 : Int) : Option (Bool) :=
  (pen_Turn a0 a1 a2 a3 a4 a5).bind fun x1 =>
  (orielref12_Turn a0 a1 a2 a3 a4 a5).bind fun x2 =>
  bif (((x1.length : Int) : Int) != (x2.length : Int)) then
    (some false)
  else
    ((loopO (fun x5 => oriellaw12_PenTurns_loop1 x1 x2 x5) 0).bind fun z => match z with
    | (.inl _) =>
      (pen_Form a0 a1 a2 a3 a4 a5).bind fun x10 =>
    (orielref12_Form a0 a1 a2 a3 a4 a5).bind fun x11 =>
    bif ((x10 : List UInt8) == x11) then
      ((oriellaw12_known).bind fun x12 =>
      some x12)
    else
      (some false)
    | (.inr _) =>
      some false)
theorem oriellaw12_PenTurns_ok {a0 : Int} {a1 : Int} {a2 : Int} {a3 : Int} {a4 : Int} {a5 : Int} {x13 : Bool} (h : oriellaw12_PenTurns a0 a1 a2 a3 a4 a5 = some x13) : Pure En 4 [.agg [.int .i64 a0, .int .i64 a1, .int .i64 a2], .agg [.int .i64 a3, .int .i64 a4, .int .i64 a5]] (.bool x13) := by
  unfold oriellaw12_PenTurns at h
  refine ACalls_pureW En_ok (fn := Tryd.f4) Tryd.func4 rfl (by simp [Tryd.ntmps4]) ?_
  refine AW_seq ?_
  refine AW_region ?_
  refine AWl_xrun 3 _ _ _ [(4, .bool false), (3, .ptr 1 0), (2, .ptr 0 0), (0, .agg [.int .i64 a0, .int .i64 a1, .int .i64 a2]), (1, .agg [.int .i64 a3, .int .i64 a4, .int .i64 a5])] [(0, some [.int .i64 a0, .int .i64 a1, .int .i64 a2]), (1, some [.int .i64 a3, .int .i64 a4, .int .i64 a5])] (by kernel_rfl) ?_
  refine AWl_nilK [3, 2] [(3, .ptr 1 0), (2, .ptr 0 0)] (by kernel_rfl) ?_
  refine athen_n ?_
  refine AW_seq ?_
  obtain ⟨x1, h1, h17⟩ := bind_some h
  obtain ⟨x2, h2, h18⟩ := bind_some h17
  refine AW_drawK En_mixed [⟨[(2, .ptr 0 0)], [(0, some [.int .i64 a0, .int .i64 a1, .int .i64 a2])], .agg [.int .i64 a0, .int .i64 a1, .int .i64 a2], [], true, false⟩, ⟨[(3, .ptr 1 0)], [(1, some [.int .i64 a3, .int .i64 a4, .int .i64 a5])], .agg [.int .i64 a3, .int .i64 a4, .int .i64 a5], [], true, false⟩, ⟨[(8, .agg [.int .i64 a0, .int .i64 a1, .int .i64 a2]), (9, .agg [.int .i64 a3, .int .i64 a4, .int .i64 a5])], [], .ro (fl (eI .i64) x1) x1.length none, [], true, false⟩, ⟨[(2, .ptr 0 0)], [(0, some [.int .i64 a0, .int .i64 a1, .int .i64 a2])], .agg [.int .i64 a0, .int .i64 a1, .int .i64 a2], [], true, false⟩, ⟨[(3, .ptr 1 0)], [(1, some [.int .i64 a3, .int .i64 a4, .int .i64 a5])], .agg [.int .i64 a3, .int .i64 a4, .int .i64 a5], [], true, false⟩, ⟨[(11, .agg [.int .i64 a0, .int .i64 a1, .int .i64 a2]), (12, .agg [.int .i64 a3, .int .i64 a4, .int .i64 a5])], [], .ro (fl (eI .i64) x2) x2.length none, [], true, false⟩, ⟨[(10, .ro (fl (eI .i64) x1) x1.length none)], [], .ro (fl (eI .i64) x1) x1.length none, [], true, false⟩, ⟨[(13, .ro (fl (eI .i64) x2) x2.length none)], [], .ro (fl (eI .i64) x2) x2.length none, [], true, false⟩] [6, 5, 3, 2] [(6, .ro (fl (eI .i64) x2) x2.length none), (5, .ro (fl (eI .i64) x1) x1.length none), (3, .ptr 1 0), (2, .ptr 0 0)] [(0, some [.int .i64 a0, .int .i64 a1, .int .i64 a2]), (1, some [.int .i64 a3, .int .i64 a4, .int .i64 a5])] (.x 2 rfl (by kernel_rfl) (.x 2 rfl (by kernel_rfl) (.o (AOp_callP En_ok Tryd.call13 (caps := []) (xs := [.agg [.int .i64 a0, .int .i64 a1, .int .i64 a2], .agg [.int .i64 a3, .int .i64 a4, .int .i64 a5]]) (by exact rfl) (by exact rfl) (pen_Turn_ok h1) (by exact rfl)) (.x 2 rfl (by kernel_rfl) (.x 2 rfl (by kernel_rfl) (.o (AOp_callP En_ok Tryd.call14 (caps := []) (xs := [.agg [.int .i64 a0, .int .i64 a1, .int .i64 a2], .agg [.int .i64 a3, .int .i64 a4, .int .i64 a5]]) (by exact rfl) (by exact rfl) (orielref12_Turn_ok h2) (by exact rfl)) (.x 2 rfl (by kernel_rfl) (.x 2 rfl (by kernel_rfl) .nil)))))))) (by kernel_rfl) (by kernel_rfl) (by kernel_rfl) (by kernel_rfl) (by kernel_rfl) (by kernel_rfl) ?_
  refine athen_n ?_
  refine AW_seq ?_
  refine AW_seq ?_
  refine AW_region ?_
  refine AWl_xrun 5 _ _ _ [(18, .bool (((x1.length : Int) : Int) != (x2.length : Int))), (17, .int .i64 (x2.length : Int)), (16, .ro (fl (eI .i64) x2) x2.length none), (15, .int .i64 (x1.length : Int)), (14, .ro (fl (eI .i64) x1) x1.length none), (6, .ro (fl (eI .i64) x2) x2.length none), (5, .ro (fl (eI .i64) x1) x1.length none), (3, .ptr 1 0), (2, .ptr 0 0)] [(0, some [.int .i64 a0, .int .i64 a1, .int .i64 a2]), (1, some [.int .i64 a3, .int .i64 a4, .int .i64 a5])] (by kernel_rfl) ?_
  refine AWl_nilK [18, 6, 5, 3, 2] [(18, .bool (((x1.length : Int) : Int) != (x2.length : Int))), (6, .ro (fl (eI .i64) x2) x2.length none), (5, .ro (fl (eI .i64) x1) x1.length none), (3, .ptr 1 0), (2, .ptr 0 0)] (by kernel_rfl) ?_
  refine athen_n ?_
  cases h3 : (((x1.length : Int) : Int) != (x2.length : Int))
  · have h19 := bif_f h3 h18
    refine AW_condF rfl ?_
    refine AW_skip ?_
    refine athen_n ?_
    refine AW_seq ?_
    refine AW_seq ?_
    refine AW_region ?_
    refine AWl_xrun 1 _ _ _ [(7, .int .i64 0), (18, .bool false), (6, .ro (fl (eI .i64) x2) x2.length none), (5, .ro (fl (eI .i64) x1) x1.length none), (3, .ptr 1 0), (2, .ptr 0 0)] [(0, some [.int .i64 a0, .int .i64 a1, .int .i64 a2]), (1, some [.int .i64 a3, .int .i64 a4, .int .i64 a5])] (by kernel_rfl) ?_
    refine AWl_nilK [7, 6, 5, 3, 2] [(7, .int .i64 0), (6, .ro (fl (eI .i64) x2) x2.length none), (5, .ro (fl (eI .i64) x1) x1.length none), (3, .ptr 1 0), (2, .ptr 0 0)] (by kernel_rfl) ?_
    refine athen_n ?_
    refine AW_block ?_
    obtain ⟨x9, h12, h20⟩ := bind_some h19
    refine AW_loopM _ (fun x5 => [(7, .int .i64 x5), (6, .ro (fl (eI .i64) x2) x2.length none), (5, .ro (fl (eI .i64) x1) x1.length none), (3, .ptr 1 0), (2, .ptr 0 0)]) (fun x5 => [(1, some [.int .i64 a3, .int .i64 a4, .int .i64 a5]), (0, some [.int .i64 a0, .int .i64 a1, .int .i64 a2])]) (fun z e al L => match z with | (.inl _) => Tgt En (fun _ => False) (.exit 0) [(3, .ptr 1 0), (2, .ptr 0 0)] [(1, some [.int .i64 a3, .int .i64 a4, .int .i64 a5]), (0, some [.int .i64 a0, .int .i64 a1, .int .i64 a2])] e al L | (.inr _) => Tgt En (fun _ => False) .ret [(4, .bool false)] [] e al L) h12 (Weak.ren [] [] (.cons rfl (.pure rfl) (.cons rfl (.pure (by simp [pureV, within, withinL, fl_pure])) (.cons rfl (.pure (by simp [pureV, within, withinL, fl_pure])) (.cons rfl (.ptr (l := 1) (l' := 1) rfl rfl) (.cons rfl (.ptr (l := 0) (l' := 0) rfl rfl) .nil))))) (.cons rfl (.pure rfl) (.cons rfl (.pure rfl) .nil)) (by kernel_rfl) (fun _ h => h.elim) En_ok) ?_ ?_
    · rintro x5 x14 h21
      have h22 : oriellaw12_PenTurns_loop1 x1 x2 x5 = some _ := h21
      unfold oriellaw12_PenTurns_loop1 at h22
      refine AW_seq ?_
      refine AW_seq ?_
      refine AW_region ?_
      refine AWl_xrun 4 _ _ _ [(22, .bool (decide (x5 < (x1.length : Int)))), (21, .int .i64 (x1.length : Int)), (20, .ro (fl (eI .i64) x1) x1.length none), (19, .int .i64 x5), (7, .int .i64 x5), (6, .ro (fl (eI .i64) x2) x2.length none), (5, .ro (fl (eI .i64) x1) x1.length none), (3, .ptr 1 0), (2, .ptr 0 0)] [(1, some [.int .i64 a3, .int .i64 a4, .int .i64 a5]), (0, some [.int .i64 a0, .int .i64 a1, .int .i64 a2])] (by kernel_rfl) ?_
      refine AWl_nilK [22, 7, 6, 5, 3, 2] [(22, .bool (decide (x5 < (x1.length : Int)))), (7, .int .i64 x5), (6, .ro (fl (eI .i64) x2) x2.length none), (5, .ro (fl (eI .i64) x1) x1.length none), (3, .ptr 1 0), (2, .ptr 0 0)] (by kernel_rfl) ?_
      refine athen_n ?_
      cases h8 : (decide (x5 < (x1.length : Int)))
      · have h23 := bif_f h8 h22
        refine AW_condF rfl ?_
        refine AW_exit ?_
        refine athen_exit ?_
        obtain rfl := Option.some.inj h23
        refine Round.off (by simp) (Tgt.mk (Weak.ren [] [] (.cons rfl (.ptr (l := 1) (l' := 1) rfl rfl) (.cons rfl (.ptr (l := 0) (l' := 0) rfl rfl) .nil)) (.cons rfl (.pure rfl) (.cons rfl (.pure rfl) .nil)) (by kernel_rfl) (fun _ h => h.elim) En_ok))
      · have h24 := bif_t h8 h22
        refine AW_condT rfl ?_
        refine AW_skip ?_
        refine athen_n ?_
        refine AW_seq ?_
        refine AW_block ?_
        refine AW_seq ?_
        obtain ⟨x6, h9, h25⟩ := bind_some h24
        obtain ⟨x7, h10, h26⟩ := bind_some h25
        refine AW_drawK En_mixed [⟨[(5, .ro (fl (eI .i64) x1) x1.length none)], [], .ro (fl (eI .i64) x1) x1.length none, [], true, false⟩, ⟨[(7, .int .i64 x5)], [], .int .i64 x5, [], true, false⟩, ⟨[(25, .ro (fl (eI .i64) x1) x1.length none), (26, .int .i64 x5)], [], .rop (fl (eI .i64) x1) (x5.toNat * 1), [], true, false⟩, ⟨[(27, .rop (fl (eI .i64) x1) (x5.toNat * 1))], [], .int .i64 x6, [], true, false⟩, ⟨[(6, .ro (fl (eI .i64) x2) x2.length none)], [], .ro (fl (eI .i64) x2) x2.length none, [], true, false⟩, ⟨[(7, .int .i64 x5)], [], .int .i64 x5, [], true, false⟩, ⟨[(29, .ro (fl (eI .i64) x2) x2.length none), (30, .int .i64 x5)], [], .rop (fl (eI .i64) x2) (x5.toNat * 1), [], true, false⟩, ⟨[(31, .rop (fl (eI .i64) x2) (x5.toNat * 1))], [], .int .i64 x7, [], true, false⟩, ⟨[(28, .int .i64 x6), (32, .int .i64 x7)], [], .bool ((x6 : Int) != x7), [], true, false⟩] [33, 7, 6, 5, 3, 2] [(33, .bool ((x6 : Int) != x7)), (7, .int .i64 x5), (6, .ro (fl (eI .i64) x2) x2.length none), (5, .ro (fl (eI .i64) x1) x1.length none), (3, .ptr 1 0), (2, .ptr 0 0)] [(1, some [.int .i64 a3, .int .i64 a4, .int .i64 a5]), (0, some [.int .i64 a0, .int .i64 a1, .int .i64 a2])] (.x 2 rfl (by kernel_rfl) (.x 2 rfl (by kernel_rfl) (.o (AOp_idxRo (e := (eI .i64)) (l := x1) 1 (by exact rfl) (by exact rfl) (by exact rfl) (by exact rfl) (by exact rfl) (by exact rfl) h9) (.o (AOp_loadEl (e := (eI .i64)) (l := x1) (i := x5) 0 1 1 (by exact rfl) (by exact rfl) (by exact rfl) (by exact rfl) (by exact rfl) h9 (by exact rfl) (by kernel_rfl) (by kernel_rfl)) (.x 2 rfl (by kernel_rfl) (.x 2 rfl (by kernel_rfl) (.o (AOp_idxRo (e := (eI .i64)) (l := x2) 1 (by exact rfl) (by exact rfl) (by exact rfl) (by exact rfl) (by exact rfl) (by exact rfl) h10) (.o (AOp_loadEl (e := (eI .i64)) (l := x2) (i := x5) 0 1 1 (by exact rfl) (by exact rfl) (by exact rfl) (by exact rfl) (by exact rfl) h10 (by exact rfl) (by kernel_rfl) (by kernel_rfl)) (.x 2 rfl (by kernel_rfl) .nil))))))))) (by kernel_rfl) (by kernel_rfl) (by kernel_rfl) (by kernel_rfl) (by kernel_rfl) (by kernel_rfl) ?_
        refine athen_n ?_
        cases h11 : ((x6 : Int) != x7)
        · have h27 := bif_f h11 h26
          refine AW_condF rfl ?_
          refine AW_skip ?_
          refine ablock_n ?_
          refine athen_n ?_
          refine AW_region ?_
          refine AWl_xrun 3 _ _ _ [(7, .int .i64 (IntKind.i64.wrap (x5 + 1))), (24, .int .i64 (IntKind.i64.wrap (x5 + 1))), (23, .int .i64 x5), (33, .bool false), (7, .int .i64 x5), (6, .ro (fl (eI .i64) x2) x2.length none), (5, .ro (fl (eI .i64) x1) x1.length none), (3, .ptr 1 0), (2, .ptr 0 0)] [(1, some [.int .i64 a3, .int .i64 a4, .int .i64 a5]), (0, some [.int .i64 a0, .int .i64 a1, .int .i64 a2])] (by kernel_rfl) ?_
          refine AWl_nilK [7, 6, 5, 3, 2] [(7, .int .i64 (IntKind.i64.wrap (x5 + 1))), (6, .ro (fl (eI .i64) x2) x2.length none), (5, .ro (fl (eI .i64) x1) x1.length none), (3, .ptr 1 0), (2, .ptr 0 0)] (by kernel_rfl) ?_
          obtain rfl := Option.some.inj h27
          refine Round.on (Weak.ren [] [] (.cons rfl (.pure rfl) (.cons rfl (.pure (by simp [pureV, within, withinL, fl_pure])) (.cons rfl (.pure (by simp [pureV, within, withinL, fl_pure])) (.cons rfl (.ptr (l := 1) (l' := 1) rfl rfl) (.cons rfl (.ptr (l := 0) (l' := 0) rfl rfl) .nil))))) (.cons rfl (.pure rfl) (.cons rfl (.pure rfl) .nil)) (by kernel_rfl) (fun _ h => h.elim) En_ok)
        · have h28 := bif_t h11 h26
          refine AW_condT rfl ?_
          refine AW_seq ?_
          refine AW_region ?_
          refine AWl_xrun 1 _ _ _ [(4, .bool false), (33, .bool true), (7, .int .i64 x5), (6, .ro (fl (eI .i64) x2) x2.length none), (5, .ro (fl (eI .i64) x1) x1.length none), (3, .ptr 1 0), (2, .ptr 0 0)] [(1, some [.int .i64 a3, .int .i64 a4, .int .i64 a5]), (0, some [.int .i64 a0, .int .i64 a1, .int .i64 a2])] (by kernel_rfl) ?_
          refine AWl_nilK [4] [(4, .bool false)] (by kernel_rfl) ?_
          refine athen_n ?_
          refine AW_ret ?_
          refine ablock_ret ?_
          refine athen_ret ?_
          obtain rfl := Option.some.inj h28
          refine Round.off (by simp) (Tgt.mk (Weak.ren [] [] (.cons rfl (.pure rfl) .nil) .nil (by kernel_rfl) (fun _ h => h.elim) En_ok))
    · rcases x9 with ⟨⟩ | ⟨⟩
      · rintro e al L ⟨rfl, h29⟩ -
        refine ⟨_, _, h29, ?_⟩
        refine ablock_eq ?_
        refine athen_n ?_
        refine AW_seq ?_
        obtain ⟨x10, h13, h30⟩ := bind_some h20
        obtain ⟨x11, h14, h31⟩ := bind_some h30
        cases h15 : ((x10 : List UInt8) == x11)
        · have h32 := bif_f h15 h31
          refine AW_drawK En_mixed [⟨[(2, .ptr 0 0)], [(0, some [.int .i64 a0, .int .i64 a1, .int .i64 a2])], .agg [.int .i64 a0, .int .i64 a1, .int .i64 a2], [], true, false⟩, ⟨[(3, .ptr 1 0)], [(1, some [.int .i64 a3, .int .i64 a4, .int .i64 a5])], .agg [.int .i64 a3, .int .i64 a4, .int .i64 a5], [], true, false⟩, ⟨[(34, .agg [.int .i64 a0, .int .i64 a1, .int .i64 a2]), (35, .agg [.int .i64 a3, .int .i64 a4, .int .i64 a5])], [], .ro (fl eU8 x10) x10.length none, [], true, false⟩, ⟨[(36, .ro (fl eU8 x10) x10.length none)], [], .str x10, [], true, false⟩, ⟨[(2, .ptr 0 0)], [(0, some [.int .i64 a0, .int .i64 a1, .int .i64 a2])], .agg [.int .i64 a0, .int .i64 a1, .int .i64 a2], [], true, false⟩, ⟨[(3, .ptr 1 0)], [(1, some [.int .i64 a3, .int .i64 a4, .int .i64 a5])], .agg [.int .i64 a3, .int .i64 a4, .int .i64 a5], [], true, false⟩, ⟨[(38, .agg [.int .i64 a0, .int .i64 a1, .int .i64 a2]), (39, .agg [.int .i64 a3, .int .i64 a4, .int .i64 a5])], [], .str x11, [], true, false⟩, ⟨[(37, .str x10), (40, .str x11)], [], .bool false, [], true, false⟩, ⟨[(41, .bool false)], [], .bool false, [], true, false⟩, ⟨[], [], .dead, [], false, false⟩, ⟨[(42, .bool false), (43, .dead)], [], .bool false, [], true, false⟩, ⟨[(44, .bool false)], [], .bool false, [], true, false⟩] [4] [(4, .bool false)] [(1, some [.int .i64 a3, .int .i64 a4, .int .i64 a5]), (0, some [.int .i64 a0, .int .i64 a1, .int .i64 a2])] (.x 2 rfl (by kernel_rfl) (.x 2 rfl (by kernel_rfl) (.o (AOp_callP En_ok Tryd.call15 (caps := []) (xs := [.agg [.int .i64 a0, .int .i64 a1, .int .i64 a2], .agg [.int .i64 a3, .int .i64 a4, .int .i64 a5]]) (by exact rfl) (by exact rfl) (pen_Form_ok h13) (by exact rfl)) (.o (AOp_bytesL (by exact rfl) (by exact rfl) (by exact rfl) (by exact rfl) (.ro (by exact rfl) (by exact rfl))) (.x 2 rfl (by kernel_rfl) (.x 2 rfl (by kernel_rfl) (.o (AOp_callP En_ok Tryd.call16 (caps := []) (xs := [.agg [.int .i64 a0, .int .i64 a1, .int .i64 a2], .agg [.int .i64 a3, .int .i64 a4, .int .i64 a5]]) (by exact rfl) (by exact rfl) (orielref12_Form_ok h14) (by exact rfl)) (.xb h15 (by kernel_rfl) rfl (.x 2 rfl (by kernel_rfl) (.skip rfl (.x 2 rfl (by kernel_rfl) (.x 2 rfl (by kernel_rfl) .nil)))))))))))) (by kernel_rfl) (by kernel_rfl) (by kernel_rfl) (by kernel_rfl) (by kernel_rfl) (by kernel_rfl) ?_
          refine athen_n ?_
          refine AW_ret ?_
          obtain rfl := Option.some.inj h32
          refine RetsW.mk [(4, .bool false)] [] (Weak.ren [] [] (.cons rfl (.pure rfl) .nil) .nil (by kernel_rfl) (fun _ h => h.elim) En_ok) (rets1 (x := .bool false) (.inl rfl) (by kernel_rfl) (.pure rfl))
        · have h33 := bif_t h15 h31
          obtain ⟨x12, h16, h34⟩ := bind_some h33
          refine AW_drawK En_mixed [⟨[(2, .ptr 0 0)], [(0, some [.int .i64 a0, .int .i64 a1, .int .i64 a2])], .agg [.int .i64 a0, .int .i64 a1, .int .i64 a2], [], true, false⟩, ⟨[(3, .ptr 1 0)], [(1, some [.int .i64 a3, .int .i64 a4, .int .i64 a5])], .agg [.int .i64 a3, .int .i64 a4, .int .i64 a5], [], true, false⟩, ⟨[(34, .agg [.int .i64 a0, .int .i64 a1, .int .i64 a2]), (35, .agg [.int .i64 a3, .int .i64 a4, .int .i64 a5])], [], .ro (fl eU8 x10) x10.length none, [], true, false⟩, ⟨[(36, .ro (fl eU8 x10) x10.length none)], [], .str x10, [], true, false⟩, ⟨[(2, .ptr 0 0)], [(0, some [.int .i64 a0, .int .i64 a1, .int .i64 a2])], .agg [.int .i64 a0, .int .i64 a1, .int .i64 a2], [], true, false⟩, ⟨[(3, .ptr 1 0)], [(1, some [.int .i64 a3, .int .i64 a4, .int .i64 a5])], .agg [.int .i64 a3, .int .i64 a4, .int .i64 a5], [], true, false⟩, ⟨[(38, .agg [.int .i64 a0, .int .i64 a1, .int .i64 a2]), (39, .agg [.int .i64 a3, .int .i64 a4, .int .i64 a5])], [], .str x11, [], true, false⟩, ⟨[(37, .str x10), (40, .str x11)], [], .bool true, [], true, false⟩, ⟨[(41, .bool true)], [], .bool true, [], true, false⟩, ⟨[], [], .bool x12, [], true, false⟩, ⟨[(42, .bool true), (43, .bool x12)], [], .bool x12, [], true, false⟩, ⟨[(44, .bool x12)], [], .bool x12, [], true, false⟩] [4] [(4, .bool x12)] [(1, some [.int .i64 a3, .int .i64 a4, .int .i64 a5]), (0, some [.int .i64 a0, .int .i64 a1, .int .i64 a2])] (.x 2 rfl (by kernel_rfl) (.x 2 rfl (by kernel_rfl) (.o (AOp_callP En_ok Tryd.call15 (caps := []) (xs := [.agg [.int .i64 a0, .int .i64 a1, .int .i64 a2], .agg [.int .i64 a3, .int .i64 a4, .int .i64 a5]]) (by exact rfl) (by exact rfl) (pen_Form_ok h13) (by exact rfl)) (.o (AOp_bytesL (by exact rfl) (by exact rfl) (by exact rfl) (by exact rfl) (.ro (by exact rfl) (by exact rfl))) (.x 2 rfl (by kernel_rfl) (.x 2 rfl (by kernel_rfl) (.o (AOp_callP En_ok Tryd.call16 (caps := []) (xs := [.agg [.int .i64 a0, .int .i64 a1, .int .i64 a2], .agg [.int .i64 a3, .int .i64 a4, .int .i64 a5]]) (by exact rfl) (by exact rfl) (orielref12_Form_ok h14) (by exact rfl)) (.xb h15 (by kernel_rfl) rfl (.x 2 rfl (by kernel_rfl) (.o (AOp_callP En_ok Tryd.call8 (caps := []) (xs := []) (by exact rfl) (by exact rfl) (oriellaw12_known_ok h16) (by exact rfl)) (.x 2 rfl (by kernel_rfl) (.x 2 rfl (by kernel_rfl) .nil)))))))))))) (by kernel_rfl) (by kernel_rfl) (by kernel_rfl) (by kernel_rfl) (by kernel_rfl) (by kernel_rfl) ?_
          refine athen_n ?_
          refine AW_ret ?_
          obtain rfl := Option.some.inj h34
          refine RetsW.mk [(4, .bool x12)] [] (Weak.ren [] [] (.cons rfl (.pure rfl) .nil) .nil (by kernel_rfl) (fun _ h => h.elim) En_ok) (rets1 (x := .bool x12) (.inl rfl) (by kernel_rfl) (.pure rfl))
      · rintro e al L ⟨rfl, h29⟩ -
        refine ⟨_, _, h29, ?_⟩
        refine ablock_ret ?_
        refine athen_ret ?_
        obtain rfl := Option.some.inj h20
        refine RetsW.mk [(4, .bool false)] [] (Weak.ren [] [] (.cons rfl (.pure rfl) .nil) .nil (by kernel_rfl) (fun _ h => h.elim) En_ok) (rets1 (x := .bool false) (.inl rfl) (by kernel_rfl) (.pure rfl))
  · have h35 := bif_t h3 h18
    refine AW_condT rfl ?_
    refine AW_seq ?_
    refine AW_region ?_
    refine AWl_xrun 1 _ _ _ [(4, .bool false), (18, .bool true), (6, .ro (fl (eI .i64) x2) x2.length none), (5, .ro (fl (eI .i64) x1) x1.length none), (3, .ptr 1 0), (2, .ptr 0 0)] [(0, some [.int .i64 a0, .int .i64 a1, .int .i64 a2]), (1, some [.int .i64 a3, .int .i64 a4, .int .i64 a5])] (by kernel_rfl) ?_
    refine AWl_nilK [4] [(4, .bool false)] (by kernel_rfl) ?_
    refine athen_n ?_
    refine AW_ret ?_
    refine athen_ret ?_
    obtain rfl := Option.some.inj h35
    refine RetsW.mk [(4, .bool false)] [] (Weak.ren [] [] (.cons rfl (.pure rfl) .nil) .nil (by kernel_rfl) (fun _ h => h.elim) En_ok) (rets1 (x := .bool false) (.inl rfl) (by kernel_rfl) (.pure rfl))
noncomputable def oriellaw12_PenBack (a0 : Int) (a1 : Int) (a2 : Int) (a3 : Int) (a4 : Int) (a5 : Int) : Option (Bool) :=
  (oriellaw12_known).bind fun x1 =>
  bif (!x1) then
    (some false)
  else
    (((pen_May a0 a1 a2).bind fun x2 =>
      bif (!x2) then
        (some true)
      else
        ((pen_May a3 a4 a5).bind fun x3 =>
        some (!x3)) : Option (Bool)).bind fun x4 =>
    bif x4 then
      (some true)
    else
      ((pen_Turn a0 a1 a2 a3 a4 a5).bind fun x6 =>
      (bif (decide ((x6.length : Int) > 15)) then
          (some true)
        else
          (some (!(((((x6.length : Int) : Int) == 0) == (((a0 : Int) == a3) && (((a1 : Int) == a4) && (((a2 : Int) == a5) && true))))))) : Option (Bool)).bind fun x7 =>
      bif x7 then
        (some false)
      else
        (bif (((x6.length : Int) : Int) == 0) then
          (some true)
        else
          ((pen_Apply a0 a1 a2 x6).bind fun (x9, x10, x11) =>
          some (((x9 : Int) == a3) && (((x10 : Int) == a4) && (((x11 : Int) == a5) && true)))))))
theorem oriellaw12_PenBack_ok {a0 : Int} {a1 : Int} {a2 : Int} {a3 : Int} {a4 : Int} {a5 : Int} {x12 : Bool} (h : oriellaw12_PenBack a0 a1 a2 a3 a4 a5 = some x12) : Pure En 5 [.agg [.int .i64 a0, .int .i64 a1, .int .i64 a2], .agg [.int .i64 a3, .int .i64 a4, .int .i64 a5]] (.bool x12) := by
  unfold oriellaw12_PenBack at h
  refine ACalls_pureW En_ok (fn := Tryd.f5) Tryd.func5 rfl (by simp [Tryd.ntmps5]) ?_
  refine AW_seq ?_
  refine AW_region ?_
  refine AWl_xrun 3 _ _ _ [(4, .bool false), (3, .ptr 1 0), (2, .ptr 0 0), (0, .agg [.int .i64 a0, .int .i64 a1, .int .i64 a2]), (1, .agg [.int .i64 a3, .int .i64 a4, .int .i64 a5])] [(0, some [.int .i64 a0, .int .i64 a1, .int .i64 a2]), (1, some [.int .i64 a3, .int .i64 a4, .int .i64 a5])] (by kernel_rfl) ?_
  refine AWl_nilK [3, 2] [(3, .ptr 1 0), (2, .ptr 0 0)] (by kernel_rfl) ?_
  refine athen_n ?_
  refine AW_seq ?_
  refine AW_seq ?_
  refine AW_region ?_
  obtain ⟨x1, h1, h14⟩ := bind_some h
  refine AWl_o (x := .bool x1) (wl := []) (AOp_callP En_ok Tryd.call8 (caps := []) (xs := []) rfl rfl (oriellaw12_known_ok h1) rfl) (by kernel_rfl) (by kernel_rfl) (by kernel_rfl) ?_
  refine AWl_xrun 1 _ _ _ [(7, .bool (!x1)), (6, .bool x1), (3, .ptr 1 0), (2, .ptr 0 0)] [(0, some [.int .i64 a0, .int .i64 a1, .int .i64 a2]), (1, some [.int .i64 a3, .int .i64 a4, .int .i64 a5])] (by kernel_rfl) ?_
  refine AWl_nilK [7, 3, 2] [(7, .bool (!x1)), (3, .ptr 1 0), (2, .ptr 0 0)] (by kernel_rfl) ?_
  refine athen_n ?_
  cases h2 : (!x1)
  · have h15 := bif_f h2 h14
    refine AW_condF rfl ?_
    refine AW_skip ?_
    refine athen_n ?_
    refine AW_seq ?_
    obtain ⟨x4, h7, h16⟩ := bind_some h15
    refine AW_meetN (fun x4 => [(15, .bool x4), (3, .ptr 1 0), (2, .ptr 0 0)]) (fun x4 => [(1, some [.int .i64 a3, .int .i64 a4, .int .i64 a5]), (0, some [.int .i64 a0, .int .i64 a1, .int .i64 a2])]) x4 ?_ ?_
    · skip
      refine AW_region ?_
      refine AWl_xrun 1 _ _ _ [(8, .agg [.int .i64 a0, .int .i64 a1, .int .i64 a2]), (7, .bool false), (3, .ptr 1 0), (2, .ptr 0 0)] [(0, some [.int .i64 a0, .int .i64 a1, .int .i64 a2]), (1, some [.int .i64 a3, .int .i64 a4, .int .i64 a5])] (by kernel_rfl) ?_
      obtain ⟨x2, h3, h17⟩ := bind_some h7
      refine AWl_o (x := .bool x2) (wl := []) (AOp_callP En_ok Tryd.call11 (caps := []) (xs := [.agg [.int .i64 a0, .int .i64 a1, .int .i64 a2]]) rfl rfl (pen_May_ok h3) rfl) (by kernel_rfl) (by kernel_rfl) (by kernel_rfl) ?_
      refine AWl_xrun 2 _ _ _ [(11, .bool (!x2)), (10, .bool (!x2)), (9, .bool x2), (8, .agg [.int .i64 a0, .int .i64 a1, .int .i64 a2]), (7, .bool false), (3, .ptr 1 0), (2, .ptr 0 0)] [(0, some [.int .i64 a0, .int .i64 a1, .int .i64 a2]), (1, some [.int .i64 a3, .int .i64 a4, .int .i64 a5])] (by kernel_rfl) ?_
      cases h4 : (!x2)
      · have h18 := bif_f h4 h17
        refine AWl_xrun 1 _ _ _ [(12, .agg [.int .i64 a3, .int .i64 a4, .int .i64 a5]), (11, .bool false), (10, .bool false), (9, .bool x2), (8, .agg [.int .i64 a0, .int .i64 a1, .int .i64 a2]), (7, .bool false), (3, .ptr 1 0), (2, .ptr 0 0)] [(0, some [.int .i64 a0, .int .i64 a1, .int .i64 a2]), (1, some [.int .i64 a3, .int .i64 a4, .int .i64 a5])] (by kernel_rfl) ?_
        obtain ⟨x3, h5, h19⟩ := bind_some h18
        refine AWl_o (x := .bool x3) (wl := []) (AOp_callP En_ok Tryd.call11 (caps := []) (xs := [.agg [.int .i64 a3, .int .i64 a4, .int .i64 a5]]) rfl rfl (pen_May_ok h5) rfl) (by kernel_rfl) (by kernel_rfl) (by kernel_rfl) ?_
        refine AWl_xrun 2 _ _ _ [(15, .bool (!x3)), (14, .bool (!x3)), (13, .bool x3), (12, .agg [.int .i64 a3, .int .i64 a4, .int .i64 a5]), (11, .bool false), (10, .bool false), (9, .bool x2), (8, .agg [.int .i64 a0, .int .i64 a1, .int .i64 a2]), (7, .bool false), (3, .ptr 1 0), (2, .ptr 0 0)] [(0, some [.int .i64 a0, .int .i64 a1, .int .i64 a2]), (1, some [.int .i64 a3, .int .i64 a4, .int .i64 a5])] (by kernel_rfl) ?_
        refine AWl_nilK [15, 3, 2] [(15, .bool (!x3)), (3, .ptr 1 0), (2, .ptr 0 0)] (by kernel_rfl) ?_
        obtain rfl := Option.some.inj h19
        refine Tgt.mk (Weak.ren [] [] (.cons rfl (.pure rfl) (.cons rfl (.ptr (l := 1) (l' := 1) rfl rfl) (.cons rfl (.ptr (l := 0) (l' := 0) rfl rfl) .nil))) (.cons rfl (.pure rfl) (.cons rfl (.pure rfl) .nil)) (by kernel_rfl) (fun _ h => h.elim) En_ok)
      · have h20 := bif_t h4 h17
        refine AWl_xrun 4 _ _ _ [(15, .bool true), (14, .dead), (13, .dead), (12, .dead), (11, .bool true), (10, .bool true), (9, .bool x2), (8, .agg [.int .i64 a0, .int .i64 a1, .int .i64 a2]), (7, .bool false), (3, .ptr 1 0), (2, .ptr 0 0)] [(0, some [.int .i64 a0, .int .i64 a1, .int .i64 a2]), (1, some [.int .i64 a3, .int .i64 a4, .int .i64 a5])] (by kernel_rfl) ?_
        refine AWl_nilK [15, 3, 2] [(15, .bool true), (3, .ptr 1 0), (2, .ptr 0 0)] (by kernel_rfl) ?_
        obtain rfl := Option.some.inj h20
        refine Tgt.mk (Weak.ren [] [] (.cons rfl (.pure rfl) (.cons rfl (.ptr (l := 1) (l' := 1) rfl rfl) (.cons rfl (.ptr (l := 0) (l' := 0) rfl rfl) .nil))) (.cons rfl (.pure rfl) (.cons rfl (.pure rfl) .nil)) (by kernel_rfl) (fun _ h => h.elim) En_ok)
    · skip
      cases h6 : x4
      · have h21 := bif_f h6 h16
        refine AW_condF rfl ?_
        refine AW_skip ?_
        refine athen_n ?_
        refine AW_seq ?_
        refine AW_region ?_
        refine AWl_xrun 2 _ _ _ [(17, .agg [.int .i64 a3, .int .i64 a4, .int .i64 a5]), (16, .agg [.int .i64 a0, .int .i64 a1, .int .i64 a2]), (15, .bool false), (3, .ptr 1 0), (2, .ptr 0 0)] [(1, some [.int .i64 a3, .int .i64 a4, .int .i64 a5]), (0, some [.int .i64 a0, .int .i64 a1, .int .i64 a2])] (by kernel_rfl) ?_
        obtain ⟨x6, h8, h22⟩ := bind_some h21
        refine AWl_o (x := .ro (fl (eI .i64) x6) x6.length none) (wl := []) (AOp_callP En_ok Tryd.call13 (caps := []) (xs := [.agg [.int .i64 a0, .int .i64 a1, .int .i64 a2], .agg [.int .i64 a3, .int .i64 a4, .int .i64 a5]]) rfl rfl (pen_Turn_ok h8) rfl) (by kernel_rfl) (by kernel_rfl) (by kernel_rfl) ?_
        refine AWl_xrun 1 _ _ _ [(5, .ro (fl (eI .i64) x6) x6.length none), (18, .ro (fl (eI .i64) x6) x6.length none), (17, .agg [.int .i64 a3, .int .i64 a4, .int .i64 a5]), (16, .agg [.int .i64 a0, .int .i64 a1, .int .i64 a2]), (15, .bool false), (3, .ptr 1 0), (2, .ptr 0 0)] [(1, some [.int .i64 a3, .int .i64 a4, .int .i64 a5]), (0, some [.int .i64 a0, .int .i64 a1, .int .i64 a2])] (by kernel_rfl) ?_
        refine AWl_nilK [5, 3, 2] [(5, .ro (fl (eI .i64) x6) x6.length none), (3, .ptr 1 0), (2, .ptr 0 0)] (by kernel_rfl) ?_
        refine athen_n ?_
        refine AW_seq ?_
        obtain ⟨x7, h11, h23⟩ := bind_some h22
        refine AW_meetN (fun x7 => [(30, .bool x7), (5, .ro (fl (eI .i64) x6) x6.length none), (3, .ptr 1 0), (2, .ptr 0 0)]) (fun x7 => [(1, some [.int .i64 a3, .int .i64 a4, .int .i64 a5]), (0, some [.int .i64 a0, .int .i64 a1, .int .i64 a2])]) x7 ?_ ?_
        · skip
          refine AW_region ?_
          refine AWl_xrun 4 _ _ _ [(22, .bool (decide ((x6.length : Int) > 15))), (21, .bool (decide ((x6.length : Int) > 15))), (20, .int .i64 (x6.length : Int)), (19, .ro (fl (eI .i64) x6) x6.length none), (5, .ro (fl (eI .i64) x6) x6.length none), (3, .ptr 1 0), (2, .ptr 0 0)] [(1, some [.int .i64 a3, .int .i64 a4, .int .i64 a5]), (0, some [.int .i64 a0, .int .i64 a1, .int .i64 a2])] (by kernel_rfl) ?_
          cases h9 : (decide ((x6.length : Int) > 15))
          · have h24 := bif_f h9 h11
            refine AWl_xrun 8 _ _ _ [(30, .bool (!(((((x6.length : Int) : Int) == 0) == (((a0 : Int) == a3) && (((a1 : Int) == a4) && (((a2 : Int) == a5) && true))))))), (29, .bool (!(((((x6.length : Int) : Int) == 0) == (((a0 : Int) == a3) && (((a1 : Int) == a4) && (((a2 : Int) == a5) && true))))))), (28, .bool (((a0 : Int) == a3) && (((a1 : Int) == a4) && (((a2 : Int) == a5) && true)))), (27, .agg [.int .i64 a3, .int .i64 a4, .int .i64 a5]), (26, .agg [.int .i64 a0, .int .i64 a1, .int .i64 a2]), (25, .bool (((x6.length : Int) : Int) == 0)), (24, .int .i64 (x6.length : Int)), (23, .ro (fl (eI .i64) x6) x6.length none), (22, .bool false), (21, .bool false), (20, .int .i64 (x6.length : Int)), (19, .ro (fl (eI .i64) x6) x6.length none), (5, .ro (fl (eI .i64) x6) x6.length none), (3, .ptr 1 0), (2, .ptr 0 0)] [(1, some [.int .i64 a3, .int .i64 a4, .int .i64 a5]), (0, some [.int .i64 a0, .int .i64 a1, .int .i64 a2])] (by kernel_rfl) ?_
            refine AWl_nilK [30, 5, 3, 2] [(30, .bool (!(((((x6.length : Int) : Int) == 0) == (((a0 : Int) == a3) && (((a1 : Int) == a4) && (((a2 : Int) == a5) && true))))))), (5, .ro (fl (eI .i64) x6) x6.length none), (3, .ptr 1 0), (2, .ptr 0 0)] (by kernel_rfl) ?_
            obtain rfl := Option.some.inj h24
            refine Tgt.mk (Weak.ren [] [] (.cons rfl (.pure rfl) (.cons rfl (.pure (by simp [pureV, within, withinL, fl_pure])) (.cons rfl (.ptr (l := 1) (l' := 1) rfl rfl) (.cons rfl (.ptr (l := 0) (l' := 0) rfl rfl) .nil)))) (.cons rfl (.pure rfl) (.cons rfl (.pure rfl) .nil)) (by kernel_rfl) (fun _ h => h.elim) En_ok)
          · have h25 := bif_t h9 h11
            refine AWl_xrun 8 _ _ _ [(30, .bool true), (29, .dead), (28, .dead), (27, .dead), (26, .dead), (25, .dead), (24, .dead), (23, .dead), (22, .bool true), (21, .bool true), (20, .int .i64 (x6.length : Int)), (19, .ro (fl (eI .i64) x6) x6.length none), (5, .ro (fl (eI .i64) x6) x6.length none), (3, .ptr 1 0), (2, .ptr 0 0)] [(1, some [.int .i64 a3, .int .i64 a4, .int .i64 a5]), (0, some [.int .i64 a0, .int .i64 a1, .int .i64 a2])] (by kernel_rfl) ?_
            refine AWl_nilK [30, 5, 3, 2] [(30, .bool true), (5, .ro (fl (eI .i64) x6) x6.length none), (3, .ptr 1 0), (2, .ptr 0 0)] (by kernel_rfl) ?_
            obtain rfl := Option.some.inj h25
            refine Tgt.mk (Weak.ren [] [] (.cons rfl (.pure rfl) (.cons rfl (.pure (by simp [pureV, within, withinL, fl_pure])) (.cons rfl (.ptr (l := 1) (l' := 1) rfl rfl) (.cons rfl (.ptr (l := 0) (l' := 0) rfl rfl) .nil)))) (.cons rfl (.pure rfl) (.cons rfl (.pure rfl) .nil)) (by kernel_rfl) (fun _ h => h.elim) En_ok)
        · skip
          cases h10 : x7
          · have h26 := bif_f h10 h23
            refine AW_condF rfl ?_
            refine AW_skip ?_
            refine athen_n ?_
            refine AW_seq ?_
            cases h12 : (((x6.length : Int) : Int) == 0)
            · have h27 := bif_f h12 h26
              obtain ⟨⟨x9, x10, x11⟩, h13, h28⟩ := bind_some h27
              refine AW_drawK En_mixed [⟨[(5, .ro (fl (eI .i64) x6) x6.length none)], [], .ro (fl (eI .i64) x6) x6.length none, [], true, false⟩, ⟨[(31, .ro (fl (eI .i64) x6) x6.length none)], [], .int .i64 (x6.length : Int), [], true, false⟩, ⟨[(32, .int .i64 (x6.length : Int))], [], .bool false, [], true, false⟩, ⟨[(33, .bool false)], [], .bool false, [], true, false⟩, ⟨[(2, .ptr 0 0)], [(0, some [.int .i64 a0, .int .i64 a1, .int .i64 a2])], .agg [.int .i64 a0, .int .i64 a1, .int .i64 a2], [], true, false⟩, ⟨[(5, .ro (fl (eI .i64) x6) x6.length none)], [], .ro (fl (eI .i64) x6) x6.length none, [], true, false⟩, ⟨[(35, .agg [.int .i64 a0, .int .i64 a1, .int .i64 a2]), (36, .ro (fl (eI .i64) x6) x6.length none)], [], .agg [.int .i64 x9, .int .i64 x10, .int .i64 x11], [], true, false⟩, ⟨[(3, .ptr 1 0)], [(1, some [.int .i64 a3, .int .i64 a4, .int .i64 a5])], .agg [.int .i64 a3, .int .i64 a4, .int .i64 a5], [], true, false⟩, ⟨[(37, .agg [.int .i64 x9, .int .i64 x10, .int .i64 x11]), (38, .agg [.int .i64 a3, .int .i64 a4, .int .i64 a5])], [], .bool (((x9 : Int) == a3) && (((x10 : Int) == a4) && (((x11 : Int) == a5) && true))), [], true, false⟩, ⟨[(34, .bool false), (39, .bool (((x9 : Int) == a3) && (((x10 : Int) == a4) && (((x11 : Int) == a5) && true))))], [], .bool (((x9 : Int) == a3) && (((x10 : Int) == a4) && (((x11 : Int) == a5) && true))), [], true, false⟩, ⟨[(40, .bool (((x9 : Int) == a3) && (((x10 : Int) == a4) && (((x11 : Int) == a5) && true))))], [], .bool (((x9 : Int) == a3) && (((x10 : Int) == a4) && (((x11 : Int) == a5) && true))), [], true, false⟩] [4] [(4, .bool (((x9 : Int) == a3) && (((x10 : Int) == a4) && (((x11 : Int) == a5) && true))))] [(1, some [.int .i64 a3, .int .i64 a4, .int .i64 a5]), (0, some [.int .i64 a0, .int .i64 a1, .int .i64 a2])] (.x 2 rfl (by kernel_rfl) (.x 2 rfl (by kernel_rfl) (.xb h12 (by kernel_rfl) rfl (.x 2 rfl (by kernel_rfl) (.x 2 rfl (by kernel_rfl) (.x 2 rfl (by kernel_rfl) (.o (AOp_callP En_ok Tryd.call9 (caps := []) (xs := [.agg [.int .i64 a0, .int .i64 a1, .int .i64 a2], .ro (fl (eI .i64) x6) x6.length none]) (by exact rfl) (by exact rfl) (pen_Apply_ok h13) (by simp [pureV, within, withinL, fl_pure])) (.x 2 rfl (by kernel_rfl) (.x 2 rfl (by kernel_rfl) (.x 2 rfl (by kernel_rfl) (.x 2 rfl (by kernel_rfl) .nil))))))))))) (by kernel_rfl) (by kernel_rfl) (by kernel_rfl) (by kernel_rfl) (by kernel_rfl) (by kernel_rfl) ?_
              refine athen_n ?_
              refine AW_ret ?_
              obtain rfl := Option.some.inj h28
              refine RetsW.mk [(4, .bool (((x9 : Int) == a3) && (((x10 : Int) == a4) && (((x11 : Int) == a5) && true))))] [] (Weak.ren [] [] (.cons rfl (.pure rfl) .nil) .nil (by kernel_rfl) (fun _ h => h.elim) En_ok) (rets1 (x := .bool (((x9 : Int) == a3) && (((x10 : Int) == a4) && (((x11 : Int) == a5) && true)))) (.inl rfl) (by kernel_rfl) (.pure rfl))
            · have h29 := bif_t h12 h26
              refine AW_drawK En_mixed [⟨[(5, .ro (fl (eI .i64) x6) x6.length none)], [], .ro (fl (eI .i64) x6) x6.length none, [], true, false⟩, ⟨[(31, .ro (fl (eI .i64) x6) x6.length none)], [], .int .i64 (x6.length : Int), [], true, false⟩, ⟨[(32, .int .i64 (x6.length : Int))], [], .bool true, [], true, false⟩, ⟨[(33, .bool true)], [], .bool true, [], true, false⟩, ⟨[], [], .dead, [], false, false⟩, ⟨[], [], .dead, [], false, false⟩, ⟨[], [], .dead, [], false, false⟩, ⟨[], [], .dead, [], false, false⟩, ⟨[], [], .dead, [], false, false⟩, ⟨[(34, .bool true), (39, .dead)], [], .bool true, [], true, false⟩, ⟨[(40, .bool true)], [], .bool true, [], true, false⟩] [4] [(4, .bool true)] [(1, some [.int .i64 a3, .int .i64 a4, .int .i64 a5]), (0, some [.int .i64 a0, .int .i64 a1, .int .i64 a2])] (.x 2 rfl (by kernel_rfl) (.x 2 rfl (by kernel_rfl) (.xb h12 (by kernel_rfl) rfl (.x 2 rfl (by kernel_rfl) (.skip rfl (.skip rfl (.skip rfl (.skip rfl (.skip rfl (.x 2 rfl (by kernel_rfl) (.x 2 rfl (by kernel_rfl) .nil))))))))))) (by kernel_rfl) (by kernel_rfl) (by kernel_rfl) (by kernel_rfl) (by kernel_rfl) (by kernel_rfl) ?_
              refine athen_n ?_
              refine AW_ret ?_
              obtain rfl := Option.some.inj h29
              refine RetsW.mk [(4, .bool true)] [] (Weak.ren [] [] (.cons rfl (.pure rfl) .nil) .nil (by kernel_rfl) (fun _ h => h.elim) En_ok) (rets1 (x := .bool true) (.inl rfl) (by kernel_rfl) (.pure rfl))
          · have h30 := bif_t h10 h23
            refine AW_condT rfl ?_
            refine AW_seq ?_
            refine AW_region ?_
            refine AWl_xrun 1 _ _ _ [(4, .bool false), (30, .bool true), (5, .ro (fl (eI .i64) x6) x6.length none), (3, .ptr 1 0), (2, .ptr 0 0)] [(1, some [.int .i64 a3, .int .i64 a4, .int .i64 a5]), (0, some [.int .i64 a0, .int .i64 a1, .int .i64 a2])] (by kernel_rfl) ?_
            refine AWl_nilK [4] [(4, .bool false)] (by kernel_rfl) ?_
            refine athen_n ?_
            refine AW_ret ?_
            refine athen_ret ?_
            obtain rfl := Option.some.inj h30
            refine RetsW.mk [(4, .bool false)] [] (Weak.ren [] [] (.cons rfl (.pure rfl) .nil) .nil (by kernel_rfl) (fun _ h => h.elim) En_ok) (rets1 (x := .bool false) (.inl rfl) (by kernel_rfl) (.pure rfl))
      · have h31 := bif_t h6 h16
        refine AW_condT rfl ?_
        refine AW_seq ?_
        refine AW_region ?_
        refine AWl_xrun 1 _ _ _ [(4, .bool true), (15, .bool true), (3, .ptr 1 0), (2, .ptr 0 0)] [(1, some [.int .i64 a3, .int .i64 a4, .int .i64 a5]), (0, some [.int .i64 a0, .int .i64 a1, .int .i64 a2])] (by kernel_rfl) ?_
        refine AWl_nilK [4] [(4, .bool true)] (by kernel_rfl) ?_
        refine athen_n ?_
        refine AW_ret ?_
        refine athen_ret ?_
        obtain rfl := Option.some.inj h31
        refine RetsW.mk [(4, .bool true)] [] (Weak.ren [] [] (.cons rfl (.pure rfl) .nil) .nil (by kernel_rfl) (fun _ h => h.elim) En_ok) (rets1 (x := .bool true) (.inl rfl) (by kernel_rfl) (.pure rfl))
  · have h32 := bif_t h2 h14
    refine AW_condT rfl ?_
    refine AW_seq ?_
    refine AW_region ?_
    refine AWl_xrun 1 _ _ _ [(4, .bool false), (7, .bool true), (3, .ptr 1 0), (2, .ptr 0 0)] [(0, some [.int .i64 a0, .int .i64 a1, .int .i64 a2]), (1, some [.int .i64 a3, .int .i64 a4, .int .i64 a5])] (by kernel_rfl) ?_
    refine AWl_nilK [4] [(4, .bool false)] (by kernel_rfl) ?_
    refine athen_n ?_
    refine AW_ret ?_
    refine athen_ret ?_
    obtain rfl := Option.some.inj h32
    refine RetsW.mk [(4, .bool false)] [] (Weak.ren [] [] (.cons rfl (.pure rfl) .nil) .nil (by kernel_rfl) (fun _ h => h.elim) En_ok) (rets1 (x := .bool false) (.inl rfl) (by kernel_rfl) (.pure rfl))
end Go.SH
