/- Twins of functions, and that the code does what they say: written by gen.py. -/
import Derived.Test.YtlickgoakjldoaaDoorPenTw5
set_option linter.unusedVariables false
set_option linter.unusedSimpArgs false
namespace Go.SH
open Go.Proofs
noncomputable def oriellaw12_PenFresh_loop1 (a6 : List Int) (x13 : Int) : Option ((Unit ⊕ Unit) ⊕ (Int)) :=
    bif (decide (x13 < (a6.length : Int))) then
      (((getI a6 x13).bind fun x14 =>
        bif ((x14 : Int) == 38) then
          (some true)
        else
          (some ((x14 : Int) == 48)) : Option (Bool)).bind fun x15 =>
      bif x15 then
        (some (.inl (.inr ())))
      else
        (some (.inr (IntKind.i64.wrap (x13 + 1)))))
    else
      (some (.inl (.inl ())))
noncomputable def oriellaw12_PenFresh (a0 : Int) (a1 : Int) (a2 : Int) (a3 : Int) (a4 : Int) (a5 : Int) (a6 : List Int) (a7 : List Int) : Option (Bool) :=
  (oriellaw12_known).bind fun x1 =>
  bif (!x1) then
    (some false)
  else
    ((bif (decide ((a6.length : Int) > 500)) then
        (some true)
      else
        (some (decide ((a7.length : Int) > 500))) : Option (Bool)).bind fun x2 =>
    bif x2 then
      (some true)
    else
      (req (((([0] : List Int) ++ a6).length : Int) * 8 ≤ 140737488355328) (
      (pen_Apply a0 a1 a2 (([0] : List Int) ++ a6)).bind fun (x4, x5, x6) =>
      (pen_Apply a3 a4 a5 (([0] : List Int) ++ a6)).bind fun (x7, x8, x9) =>
      bif (!((((x4 : Int) == x7) && (((x5 : Int) == x8) && (((x6 : Int) == x9) && true))))) then
        (some false)
      else
        ((loopO (fun x13 => oriellaw12_PenFresh_loop1 a6 x13) 0).bind fun z => match z with
        | (.inl _) =>
          (bif (((a6.length : Int) : Int) == 0) then
            (some true)
          else
            (some (((a7.length : Int) : Int) == 0)) : Option (Bool)).bind fun x19 =>
        bif x19 then
          ((pen_Apply_v2 a0 a1 a2).bind fun _ =>
          some (((0 : Int) == 0) && (((0 : Int) == 0) && (((0 : Int) == 0) && true))))
        else
          ((pen_Apply a0 a1 a2 a6).bind fun (x21, x22, x23) =>
          (pen_Apply x21 x22 x23 a7).bind fun (x24, x25, x26) =>
          req (((([] : List Int) ++ a6).length : Int) * 8 ≤ 140737488355328) (
          req (((([] : List Int) ++ a6 ++ a7).length : Int) * 8 ≤ 140737488355328) (
          (pen_Apply a0 a1 a2 (([] : List Int) ++ a6 ++ a7)).bind fun (x27, x28, x29) =>
          some (((x24 : Int) == x27) && (((x25 : Int) == x28) && (((x26 : Int) == x29) && true))))))
        | (.inr _) =>
          some true))))
theorem oriellaw12_PenFresh_ok {a0 : Int} {a1 : Int} {a2 : Int} {a3 : Int} {a4 : Int} {a5 : Int} {a6 : List Int} {a7 : List Int} {x30 : Bool} (h : oriellaw12_PenFresh a0 a1 a2 a3 a4 a5 a6 a7 = some x30) : Pure En 6 [.agg [.int .i64 a0, .int .i64 a1, .int .i64 a2], .agg [.int .i64 a3, .int .i64 a4, .int .i64 a5], .ro (fl (eI .i64) a6) a6.length none, .ro (fl (eI .i64) a7) a7.length none] (.bool x30) := by
  unfold oriellaw12_PenFresh at h
  refine ACalls_pureW En_ok (fn := Tryd.f6) Tryd.func6 rfl (by simp [Tryd.ntmps6]) ?_
  refine AW_seq ?_
  refine AW_region ?_
  refine AWl_xrun 3 _ _ _ [(8, .bool false), (5, .ptr 1 0), (4, .ptr 0 0), (0, .agg [.int .i64 a0, .int .i64 a1, .int .i64 a2]), (1, .agg [.int .i64 a3, .int .i64 a4, .int .i64 a5]), (2, .ro (fl (eI .i64) a6) a6.length none), (3, .ro (fl (eI .i64) a7) a7.length none)] [(0, some [.int .i64 a0, .int .i64 a1, .int .i64 a2]), (1, some [.int .i64 a3, .int .i64 a4, .int .i64 a5])] (by kernel_rfl) ?_
  refine AWl_nilK [5, 4, 2, 3] [(5, .ptr 1 0), (4, .ptr 0 0), (2, .ro (fl (eI .i64) a6) a6.length none), (3, .ro (fl (eI .i64) a7) a7.length none)] (by kernel_rfl) ?_
  refine athen_n ?_
  refine AW_seq ?_
  refine AW_seq ?_
  refine AW_region ?_
  obtain ⟨x1, h1, h30⟩ := bind_some h
  refine AWl_o (x := .bool x1) (wl := []) (AOp_callP En_ok Tryd.call8 (caps := []) (xs := []) rfl rfl (oriellaw12_known_ok h1) rfl) (by kernel_rfl) (by kernel_rfl) (by kernel_rfl) ?_
  refine AWl_xrun 1 _ _ _ [(12, .bool (!x1)), (11, .bool x1), (5, .ptr 1 0), (4, .ptr 0 0), (2, .ro (fl (eI .i64) a6) a6.length none), (3, .ro (fl (eI .i64) a7) a7.length none)] [(0, some [.int .i64 a0, .int .i64 a1, .int .i64 a2]), (1, some [.int .i64 a3, .int .i64 a4, .int .i64 a5])] (by kernel_rfl) ?_
  refine AWl_nilK [12, 5, 4, 2, 3] [(12, .bool (!x1)), (5, .ptr 1 0), (4, .ptr 0 0), (2, .ro (fl (eI .i64) a6) a6.length none), (3, .ro (fl (eI .i64) a7) a7.length none)] (by kernel_rfl) ?_
  refine athen_n ?_
  cases h2 : (!x1)
  · have h31 := bif_f h2 h30
    refine AW_condF rfl ?_
    refine AW_skip ?_
    refine athen_n ?_
    refine AW_seq ?_
    obtain ⟨x2, h5, h32⟩ := bind_some h31
    refine AW_meetN (fun x2 => [(20, .bool x2), (5, .ptr 1 0), (4, .ptr 0 0), (2, .ro (fl (eI .i64) a6) a6.length none), (3, .ro (fl (eI .i64) a7) a7.length none)]) (fun x2 => [(1, some [.int .i64 a3, .int .i64 a4, .int .i64 a5]), (0, some [.int .i64 a0, .int .i64 a1, .int .i64 a2])]) x2 ?_ ?_
    · skip
      refine AW_region ?_
      refine AWl_xrun 4 _ _ _ [(16, .bool (decide ((a6.length : Int) > 500))), (15, .bool (decide ((a6.length : Int) > 500))), (14, .int .i64 (a6.length : Int)), (13, .ro (fl (eI .i64) a6) a6.length none), (12, .bool false), (5, .ptr 1 0), (4, .ptr 0 0), (2, .ro (fl (eI .i64) a6) a6.length none), (3, .ro (fl (eI .i64) a7) a7.length none)] [(0, some [.int .i64 a0, .int .i64 a1, .int .i64 a2]), (1, some [.int .i64 a3, .int .i64 a4, .int .i64 a5])] (by kernel_rfl) ?_
      cases h3 : (decide ((a6.length : Int) > 500))
      · have h33 := bif_f h3 h5
        refine AWl_xrun 4 _ _ _ [(20, .bool (decide ((a7.length : Int) > 500))), (19, .bool (decide ((a7.length : Int) > 500))), (18, .int .i64 (a7.length : Int)), (17, .ro (fl (eI .i64) a7) a7.length none), (16, .bool false), (15, .bool false), (14, .int .i64 (a6.length : Int)), (13, .ro (fl (eI .i64) a6) a6.length none), (12, .bool false), (5, .ptr 1 0), (4, .ptr 0 0), (2, .ro (fl (eI .i64) a6) a6.length none), (3, .ro (fl (eI .i64) a7) a7.length none)] [(0, some [.int .i64 a0, .int .i64 a1, .int .i64 a2]), (1, some [.int .i64 a3, .int .i64 a4, .int .i64 a5])] (by kernel_rfl) ?_
        refine AWl_nilK [20, 5, 4, 2, 3] [(20, .bool (decide ((a7.length : Int) > 500))), (5, .ptr 1 0), (4, .ptr 0 0), (2, .ro (fl (eI .i64) a6) a6.length none), (3, .ro (fl (eI .i64) a7) a7.length none)] (by kernel_rfl) ?_
        obtain rfl := Option.some.inj h33
        refine Tgt.mk (Weak.ren [] [] (.cons rfl (.pure rfl) (.cons rfl (.ptr (l := 1) (l' := 1) rfl rfl) (.cons rfl (.ptr (l := 0) (l' := 0) rfl rfl) (.cons rfl (.pure (by simp [pureV, within, withinL, fl_pure])) (.cons rfl (.pure (by simp [pureV, within, withinL, fl_pure])) .nil))))) (.cons rfl (.pure rfl) (.cons rfl (.pure rfl) .nil)) (by kernel_rfl) (fun _ h => h.elim) En_ok)
      · have h34 := bif_t h3 h5
        refine AWl_xrun 4 _ _ _ [(20, .bool true), (19, .dead), (18, .dead), (17, .dead), (16, .bool true), (15, .bool true), (14, .int .i64 (a6.length : Int)), (13, .ro (fl (eI .i64) a6) a6.length none), (12, .bool false), (5, .ptr 1 0), (4, .ptr 0 0), (2, .ro (fl (eI .i64) a6) a6.length none), (3, .ro (fl (eI .i64) a7) a7.length none)] [(0, some [.int .i64 a0, .int .i64 a1, .int .i64 a2]), (1, some [.int .i64 a3, .int .i64 a4, .int .i64 a5])] (by kernel_rfl) ?_
        refine AWl_nilK [20, 5, 4, 2, 3] [(20, .bool true), (5, .ptr 1 0), (4, .ptr 0 0), (2, .ro (fl (eI .i64) a6) a6.length none), (3, .ro (fl (eI .i64) a7) a7.length none)] (by kernel_rfl) ?_
        obtain rfl := Option.some.inj h34
        refine Tgt.mk (Weak.ren [] [] (.cons rfl (.pure rfl) (.cons rfl (.ptr (l := 1) (l' := 1) rfl rfl) (.cons rfl (.ptr (l := 0) (l' := 0) rfl rfl) (.cons rfl (.pure (by simp [pureV, within, withinL, fl_pure])) (.cons rfl (.pure (by simp [pureV, within, withinL, fl_pure])) .nil))))) (.cons rfl (.pure rfl) (.cons rfl (.pure rfl) .nil)) (by kernel_rfl) (fun _ h => h.elim) En_ok)
    · skip
      cases h4 : x2
      · have h35 := bif_f h4 h32
        refine AW_condF rfl ?_
        refine AW_skip ?_
        refine athen_n ?_
        refine AW_seq ?_
        refine AW_region ?_
        refine AWl_xrun 2 _ _ _ [(22, .ro (fl (eI .i64) a6) a6.length none), (21, .rw 2 0 1 1 (some 1)), (20, .bool false), (5, .ptr 1 0), (4, .ptr 0 0), (2, .ro (fl (eI .i64) a6) a6.length none), (3, .ro (fl (eI .i64) a7) a7.length none)] [(1, some [.int .i64 a3, .int .i64 a4, .int .i64 a5]), (0, some [.int .i64 a0, .int .i64 a1, .int .i64 a2]), (2, some [.int .i64 0])] (by kernel_rfl) ?_
        obtain ⟨h6, h36⟩ := req_some h35
        refine AWl_o (x := .rw 3 0 ((([0] : List Int) ++ a6).length) 1 none) (wl := [(2, none), (3, some (fl (eI .i64) (([0] : List Int) ++ a6)))]) (AOp_appendL (e := (eI .i64)) (l := ([0] : List Int)) (m := a6) 3 1 rfl rfl (.own rfl rfl rfl rfl) (Src.ok (.ro rfl rfl)) rfl rfl rfl rfl rfl rfl h6 (by decide) rfl) (by kernel_rfl) (by kernel_rfl) (by kernel_rfl) ?_
        refine AWl_xrun 1 _ _ _ [(9, .rw 3 0 ((([0] : List Int) ++ a6).length) 1 none), (23, .rw 3 0 ((([0] : List Int) ++ a6).length) 1 none), (22, .ro (fl (eI .i64) a6) a6.length none), (21, .rw 2 0 1 1 (some 1)), (20, .bool false), (5, .ptr 1 0), (4, .ptr 0 0), (2, .ro (fl (eI .i64) a6) a6.length none), (3, .ro (fl (eI .i64) a7) a7.length none)] [(1, some [.int .i64 a3, .int .i64 a4, .int .i64 a5]), (0, some [.int .i64 a0, .int .i64 a1, .int .i64 a2]), (2, none), (3, some (fl (eI .i64) (([0] : List Int) ++ a6)))] (by kernel_rfl) ?_
        refine AWl_nilK [9, 5, 4, 2, 3] [(9, .rw 3 0 ((([0] : List Int) ++ a6).length) 1 none), (5, .ptr 1 0), (4, .ptr 0 0), (2, .ro (fl (eI .i64) a6) a6.length none), (3, .ro (fl (eI .i64) a7) a7.length none)] (by kernel_rfl) ?_
        refine athen_n ?_
        refine AW_seq ?_
        refine AW_seq ?_
        obtain ⟨⟨x4, x5, x6⟩, h7, h37⟩ := bind_some h36
        obtain ⟨⟨x7, x8, x9⟩, h8, h38⟩ := bind_some h37
        refine AW_drawK En_mixed [⟨[(4, .ptr 0 0)], [(0, some [.int .i64 a0, .int .i64 a1, .int .i64 a2])], .agg [.int .i64 a0, .int .i64 a1, .int .i64 a2], [], true, false⟩, ⟨[(9, .rw 3 0 ((([0] : List Int) ++ a6).length) 1 none)], [], .rw 3 0 ((([0] : List Int) ++ a6).length) 1 none, [], true, false⟩, ⟨[(24, .agg [.int .i64 a0, .int .i64 a1, .int .i64 a2]), (25, .rw 3 0 ((([0] : List Int) ++ a6).length) 1 none)], [(3, some (fl (eI .i64) (([0] : List Int) ++ a6)))], .agg [.int .i64 x4, .int .i64 x5, .int .i64 x6], [], true, false⟩, ⟨[(5, .ptr 1 0)], [(1, some [.int .i64 a3, .int .i64 a4, .int .i64 a5])], .agg [.int .i64 a3, .int .i64 a4, .int .i64 a5], [], true, false⟩, ⟨[(9, .rw 3 0 ((([0] : List Int) ++ a6).length) 1 none)], [], .rw 3 0 ((([0] : List Int) ++ a6).length) 1 none, [], true, false⟩, ⟨[(27, .agg [.int .i64 a3, .int .i64 a4, .int .i64 a5]), (28, .rw 3 0 ((([0] : List Int) ++ a6).length) 1 none)], [(3, some (fl (eI .i64) (([0] : List Int) ++ a6)))], .agg [.int .i64 x7, .int .i64 x8, .int .i64 x9], [], true, false⟩, ⟨[(26, .agg [.int .i64 x4, .int .i64 x5, .int .i64 x6]), (29, .agg [.int .i64 x7, .int .i64 x8, .int .i64 x9])], [], .bool (!((((x4 : Int) == x7) && (((x5 : Int) == x8) && (((x6 : Int) == x9) && true))))), [], true, false⟩] [30, 4, 2, 3] [(30, .bool (!((((x4 : Int) == x7) && (((x5 : Int) == x8) && (((x6 : Int) == x9) && true)))))), (4, .ptr 0 0), (2, .ro (fl (eI .i64) a6) a6.length none), (3, .ro (fl (eI .i64) a7) a7.length none)] [(1, some [.int .i64 a3, .int .i64 a4, .int .i64 a5]), (0, some [.int .i64 a0, .int .i64 a1, .int .i64 a2]), (2, none), (3, some (fl (eI .i64) (([0] : List Int) ++ a6)))] (.x 4 rfl (by kernel_rfl) (.x 4 rfl (by kernel_rfl) (.o (AOp_callB En_ok Tryd.call9 (caps := []) (xs := [.agg [.int .i64 a0, .int .i64 a1, .int .i64 a2], .rw 3 0 ((([0] : List Int) ++ a6).length) 1 none]) (by exact rfl) (by exact rfl) (.cons (.pure (by exact rfl)) (.cons (Out.fl (by exact rfl) (by exact rfl) (by exact rfl) (by exact rfl)) .nil)) (pen_Apply_ok h7) (by exact rfl)) (.x 4 rfl (by kernel_rfl) (.x 4 rfl (by kernel_rfl) (.o (AOp_callB En_ok Tryd.call9 (caps := []) (xs := [.agg [.int .i64 a3, .int .i64 a4, .int .i64 a5], .rw 3 0 ((([0] : List Int) ++ a6).length) 1 none]) (by exact rfl) (by exact rfl) (.cons (.pure (by exact rfl)) (.cons (Out.fl (by exact rfl) (by exact rfl) (by exact rfl) (by exact rfl)) .nil)) (pen_Apply_ok h8) (by exact rfl)) (.x 4 rfl (by kernel_rfl) .nil))))))) (by kernel_rfl) (by kernel_rfl) (by kernel_rfl) (by kernel_rfl) (by kernel_rfl) (by kernel_rfl) ?_
        refine athen_n ?_
        cases h9 : (!((((x4 : Int) == x7) && (((x5 : Int) == x8) && (((x6 : Int) == x9) && true)))))
        · have h39 := bif_f h9 h38
          refine AW_condF rfl ?_
          refine AW_skip ?_
          refine athen_n ?_
          refine AW_seq ?_
          refine AW_seq ?_
          refine AW_region ?_
          refine AWl_xrun 1 _ _ _ [(10, .int .i64 0), (30, .bool false), (4, .ptr 0 0), (2, .ro (fl (eI .i64) a6) a6.length none), (3, .ro (fl (eI .i64) a7) a7.length none)] [(1, some [.int .i64 a3, .int .i64 a4, .int .i64 a5]), (0, some [.int .i64 a0, .int .i64 a1, .int .i64 a2]), (2, none), (3, some (fl (eI .i64) (([0] : List Int) ++ a6)))] (by kernel_rfl) ?_
          refine AWl_nilK [10, 4, 2, 3] [(10, .int .i64 0), (4, .ptr 0 0), (2, .ro (fl (eI .i64) a6) a6.length none), (3, .ro (fl (eI .i64) a7) a7.length none)] (by kernel_rfl) ?_
          refine athen_n ?_
          refine AW_block ?_
          obtain ⟨x18, h20, h40⟩ := bind_some h39
          refine AW_loopM _ (fun x13 => [(10, .int .i64 x13), (4, .ptr 0 0), (2, .ro (fl (eI .i64) a6) a6.length none), (3, .ro (fl (eI .i64) a7) a7.length none)]) (fun x13 => [(0, some [.int .i64 a0, .int .i64 a1, .int .i64 a2])]) (fun z e al L => match z with | (.inl _) => Tgt En (fun _ => False) (.exit 0) [(4, .ptr 0 0), (2, .ro (fl (eI .i64) a6) a6.length none), (3, .ro (fl (eI .i64) a7) a7.length none)] [(0, some [.int .i64 a0, .int .i64 a1, .int .i64 a2])] e al L | (.inr _) => Tgt En (fun _ => False) .ret [(8, .bool true)] [] e al L) h20 (Weak.ren [] [] (.cons rfl (.pure rfl) (.cons rfl (.ptr (l := 0) (l' := 0) rfl rfl) (.cons rfl (.pure (by simp [pureV, within, withinL, fl_pure])) (.cons rfl (.pure (by simp [pureV, within, withinL, fl_pure])) .nil)))) (.cons rfl (.pure rfl) .nil) (by kernel_rfl) (fun _ h => h.elim) En_ok) ?_ ?_
          · rintro x13 x31 h41
            have h42 : oriellaw12_PenFresh_loop1 a6 x13 = some _ := h41
            unfold oriellaw12_PenFresh_loop1 at h42
            refine AW_seq ?_
            refine AW_seq ?_
            refine AW_region ?_
            refine AWl_xrun 4 _ _ _ [(34, .bool (decide (x13 < (a6.length : Int)))), (33, .int .i64 (a6.length : Int)), (32, .ro (fl (eI .i64) a6) a6.length none), (31, .int .i64 x13), (10, .int .i64 x13), (4, .ptr 0 0), (2, .ro (fl (eI .i64) a6) a6.length none), (3, .ro (fl (eI .i64) a7) a7.length none)] [(0, some [.int .i64 a0, .int .i64 a1, .int .i64 a2])] (by kernel_rfl) ?_
            refine AWl_nilK [34, 10, 4, 2, 3] [(34, .bool (decide (x13 < (a6.length : Int)))), (10, .int .i64 x13), (4, .ptr 0 0), (2, .ro (fl (eI .i64) a6) a6.length none), (3, .ro (fl (eI .i64) a7) a7.length none)] (by kernel_rfl) ?_
            refine athen_n ?_
            cases h15 : (decide (x13 < (a6.length : Int)))
            · have h43 := bif_f h15 h42
              refine AW_condF rfl ?_
              refine AW_exit ?_
              refine athen_exit ?_
              obtain rfl := Option.some.inj h43
              refine Round.off (by simp) (Tgt.mk (Weak.ren [] [] (.cons rfl (.ptr (l := 0) (l' := 0) rfl rfl) (.cons rfl (.pure (by simp [pureV, within, withinL, fl_pure])) (.cons rfl (.pure (by simp [pureV, within, withinL, fl_pure])) .nil))) (.cons rfl (.pure rfl) .nil) (by kernel_rfl) (fun _ h => h.elim) En_ok))
            · have h44 := bif_t h15 h42
              refine AW_condT rfl ?_
              refine AW_skip ?_
              refine athen_n ?_
              refine AW_seq ?_
              refine AW_block ?_
              obtain ⟨x15, h19, h45⟩ := bind_some h44
              refine AW_meetN (fun x15 => [(48, .bool x15), (10, .int .i64 x13), (4, .ptr 0 0), (2, .ro (fl (eI .i64) a6) a6.length none), (3, .ro (fl (eI .i64) a7) a7.length none)]) (fun x15 => [(0, some [.int .i64 a0, .int .i64 a1, .int .i64 a2])]) x15 ?_ ?_
              · skip
                refine AW_region ?_
                refine AWl_xrun 2 _ _ _ [(38, .int .i64 x13), (37, .ro (fl (eI .i64) a6) a6.length none), (34, .bool true), (10, .int .i64 x13), (4, .ptr 0 0), (2, .ro (fl (eI .i64) a6) a6.length none), (3, .ro (fl (eI .i64) a7) a7.length none)] [(0, some [.int .i64 a0, .int .i64 a1, .int .i64 a2])] (by kernel_rfl) ?_
                obtain ⟨x14, h16, h46⟩ := bind_some h19
                refine AWl_o (x := .rop (fl (eI .i64) a6) (x13.toNat * 1)) (wl := []) (AOp_idxRo (e := (eI .i64)) (l := a6) 1 rfl rfl rfl rfl rfl rfl h16) (by kernel_rfl) (by kernel_rfl) (by kernel_rfl) ?_
                refine AWl_o (x := .int .i64 x14) (wl := []) (AOp_loadEl (e := (eI .i64)) (l := a6) (i := x13) 0 1 1 rfl rfl rfl rfl rfl h16 rfl (by kernel_rfl) (by kernel_rfl)) (by kernel_rfl) (by kernel_rfl) (by kernel_rfl) ?_
                refine AWl_xrun 2 _ _ _ [(42, .bool ((x14 : Int) == 38)), (41, .bool ((x14 : Int) == 38)), (40, .int .i64 x14), (39, .rop (fl (eI .i64) a6) (x13.toNat * 1)), (38, .int .i64 x13), (37, .ro (fl (eI .i64) a6) a6.length none), (34, .bool true), (10, .int .i64 x13), (4, .ptr 0 0), (2, .ro (fl (eI .i64) a6) a6.length none), (3, .ro (fl (eI .i64) a7) a7.length none)] [(0, some [.int .i64 a0, .int .i64 a1, .int .i64 a2])] (by kernel_rfl) ?_
                cases h17 : ((x14 : Int) == 38)
                · have h47 := bif_f h17 h46
                  refine AWl_xrun 2 _ _ _ [(44, .int .i64 x13), (43, .ro (fl (eI .i64) a6) a6.length none), (42, .bool false), (41, .bool false), (40, .int .i64 x14), (39, .rop (fl (eI .i64) a6) (x13.toNat * 1)), (38, .int .i64 x13), (37, .ro (fl (eI .i64) a6) a6.length none), (34, .bool true), (10, .int .i64 x13), (4, .ptr 0 0), (2, .ro (fl (eI .i64) a6) a6.length none), (3, .ro (fl (eI .i64) a7) a7.length none)] [(0, some [.int .i64 a0, .int .i64 a1, .int .i64 a2])] (by kernel_rfl) ?_
                  refine AWl_o (x := .rop (fl (eI .i64) a6) (x13.toNat * 1)) (wl := []) (AOp_idxRo (e := (eI .i64)) (l := a6) 1 rfl rfl rfl rfl rfl rfl h16) (by kernel_rfl) (by kernel_rfl) (by kernel_rfl) ?_
                  refine AWl_o (x := .int .i64 x14) (wl := []) (AOp_loadEl (e := (eI .i64)) (l := a6) (i := x13) 0 1 1 rfl rfl rfl rfl rfl h16 rfl (by kernel_rfl) (by kernel_rfl)) (by kernel_rfl) (by kernel_rfl) (by kernel_rfl) ?_
                  refine AWl_xrun 2 _ _ _ [(48, .bool ((x14 : Int) == 48)), (47, .bool ((x14 : Int) == 48)), (46, .int .i64 x14), (45, .rop (fl (eI .i64) a6) (x13.toNat * 1)), (44, .int .i64 x13), (43, .ro (fl (eI .i64) a6) a6.length none), (42, .bool false), (41, .bool false), (40, .int .i64 x14), (39, .rop (fl (eI .i64) a6) (x13.toNat * 1)), (38, .int .i64 x13), (37, .ro (fl (eI .i64) a6) a6.length none), (34, .bool true), (10, .int .i64 x13), (4, .ptr 0 0), (2, .ro (fl (eI .i64) a6) a6.length none), (3, .ro (fl (eI .i64) a7) a7.length none)] [(0, some [.int .i64 a0, .int .i64 a1, .int .i64 a2])] (by kernel_rfl) ?_
                  refine AWl_nilK [48, 47, 46, 45, 44, 43, 10, 4, 2, 3] [(48, .bool ((x14 : Int) == 48)), (47, .bool ((x14 : Int) == 48)), (46, .int .i64 x14), (45, .rop (fl (eI .i64) a6) (x13.toNat * 1)), (44, .int .i64 x13), (43, .ro (fl (eI .i64) a6) a6.length none), (10, .int .i64 x13), (4, .ptr 0 0), (2, .ro (fl (eI .i64) a6) a6.length none), (3, .ro (fl (eI .i64) a7) a7.length none)] (by kernel_rfl) ?_
                  obtain rfl := Option.some.inj h47
                  refine Tgt.mk (Weak.ren [] [] (.cons rfl (.pure rfl) (.cons rfl (.pure rfl) (.cons rfl (.ptr (l := 0) (l' := 0) rfl rfl) (.cons rfl (.pure (by simp [pureV, within, withinL, fl_pure])) (.cons rfl (.pure (by simp [pureV, within, withinL, fl_pure])) .nil))))) (.cons rfl (.pure rfl) .nil) (by kernel_rfl) (fun _ h => h.elim) En_ok)
                · have h48 := bif_t h17 h46
                  refine AWl_xrun 6 _ _ _ [(48, .bool true), (47, .dead), (46, .dead), (45, .dead), (44, .dead), (43, .dead), (42, .bool true), (41, .bool true), (40, .int .i64 x14), (39, .rop (fl (eI .i64) a6) (x13.toNat * 1)), (38, .int .i64 x13), (37, .ro (fl (eI .i64) a6) a6.length none), (34, .bool true), (10, .int .i64 x13), (4, .ptr 0 0), (2, .ro (fl (eI .i64) a6) a6.length none), (3, .ro (fl (eI .i64) a7) a7.length none)] [(0, some [.int .i64 a0, .int .i64 a1, .int .i64 a2])] (by kernel_rfl) ?_
                  refine AWl_nilK [48, 10, 4, 2, 3] [(48, .bool true), (10, .int .i64 x13), (4, .ptr 0 0), (2, .ro (fl (eI .i64) a6) a6.length none), (3, .ro (fl (eI .i64) a7) a7.length none)] (by kernel_rfl) ?_
                  obtain rfl := Option.some.inj h48
                  refine Tgt.mk (Weak.ren [] [] (.cons rfl (.pure rfl) (.cons rfl (.pure rfl) (.cons rfl (.ptr (l := 0) (l' := 0) rfl rfl) (.cons rfl (.pure (by simp [pureV, within, withinL, fl_pure])) (.cons rfl (.pure (by simp [pureV, within, withinL, fl_pure])) .nil))))) (.cons rfl (.pure rfl) .nil) (by kernel_rfl) (fun _ h => h.elim) En_ok)
              · skip
                cases h18 : x15
                · have h49 := bif_f h18 h45
                  refine AW_condF rfl ?_
                  refine AW_skip ?_
                  refine ablock_n ?_
                  refine athen_n ?_
                  refine AW_region ?_
                  refine AWl_xrun 3 _ _ _ [(10, .int .i64 (IntKind.i64.wrap (x13 + 1))), (36, .int .i64 (IntKind.i64.wrap (x13 + 1))), (35, .int .i64 x13), (48, .bool false), (10, .int .i64 x13), (4, .ptr 0 0), (2, .ro (fl (eI .i64) a6) a6.length none), (3, .ro (fl (eI .i64) a7) a7.length none)] [(0, some [.int .i64 a0, .int .i64 a1, .int .i64 a2])] (by kernel_rfl) ?_
                  refine AWl_nilK [10, 4, 2, 3] [(10, .int .i64 (IntKind.i64.wrap (x13 + 1))), (4, .ptr 0 0), (2, .ro (fl (eI .i64) a6) a6.length none), (3, .ro (fl (eI .i64) a7) a7.length none)] (by kernel_rfl) ?_
                  obtain rfl := Option.some.inj h49
                  refine Round.on (Weak.ren [] [] (.cons rfl (.pure rfl) (.cons rfl (.ptr (l := 0) (l' := 0) rfl rfl) (.cons rfl (.pure (by simp [pureV, within, withinL, fl_pure])) (.cons rfl (.pure (by simp [pureV, within, withinL, fl_pure])) .nil)))) (.cons rfl (.pure rfl) .nil) (by kernel_rfl) (fun _ h => h.elim) En_ok)
                · have h50 := bif_t h18 h45
                  refine AW_condT rfl ?_
                  refine AW_seq ?_
                  refine AW_region ?_
                  refine AWl_xrun 1 _ _ _ [(8, .bool true), (48, .bool true), (10, .int .i64 x13), (4, .ptr 0 0), (2, .ro (fl (eI .i64) a6) a6.length none), (3, .ro (fl (eI .i64) a7) a7.length none)] [(0, some [.int .i64 a0, .int .i64 a1, .int .i64 a2])] (by kernel_rfl) ?_
                  refine AWl_nilK [8] [(8, .bool true)] (by kernel_rfl) ?_
                  refine athen_n ?_
                  refine AW_ret ?_
                  refine ablock_ret ?_
                  refine athen_ret ?_
                  obtain rfl := Option.some.inj h50
                  refine Round.off (by simp) (Tgt.mk (Weak.ren [] [] (.cons rfl (.pure rfl) .nil) .nil (by kernel_rfl) (fun _ h => h.elim) En_ok))
          · rcases x18 with ⟨⟩ | ⟨⟩
            · rintro e al L ⟨rfl, h51⟩ -
              refine ⟨_, _, h51, ?_⟩
              refine ablock_eq ?_
              refine athen_n ?_
              refine AW_seq ?_
              obtain ⟨x19, h24, h52⟩ := bind_some h40
              refine AW_meetN (fun x19 => [(56, .bool x19), (4, .ptr 0 0), (2, .ro (fl (eI .i64) a6) a6.length none), (3, .ro (fl (eI .i64) a7) a7.length none)]) (fun x19 => [(0, some [.int .i64 a0, .int .i64 a1, .int .i64 a2])]) x19 ?_ ?_
              · skip
                refine AW_region ?_
                refine AWl_xrun 4 _ _ _ [(52, .bool (((a6.length : Int) : Int) == 0)), (51, .bool (((a6.length : Int) : Int) == 0)), (50, .int .i64 (a6.length : Int)), (49, .ro (fl (eI .i64) a6) a6.length none), (4, .ptr 0 0), (2, .ro (fl (eI .i64) a6) a6.length none), (3, .ro (fl (eI .i64) a7) a7.length none)] [(0, some [.int .i64 a0, .int .i64 a1, .int .i64 a2])] (by kernel_rfl) ?_
                cases h21 : (((a6.length : Int) : Int) == 0)
                · have h53 := bif_f h21 h24
                  refine AWl_xrun 4 _ _ _ [(56, .bool (((a7.length : Int) : Int) == 0)), (55, .bool (((a7.length : Int) : Int) == 0)), (54, .int .i64 (a7.length : Int)), (53, .ro (fl (eI .i64) a7) a7.length none), (52, .bool false), (51, .bool false), (50, .int .i64 (a6.length : Int)), (49, .ro (fl (eI .i64) a6) a6.length none), (4, .ptr 0 0), (2, .ro (fl (eI .i64) a6) a6.length none), (3, .ro (fl (eI .i64) a7) a7.length none)] [(0, some [.int .i64 a0, .int .i64 a1, .int .i64 a2])] (by kernel_rfl) ?_
                  refine AWl_nilK [56, 4, 2, 3] [(56, .bool (((a7.length : Int) : Int) == 0)), (4, .ptr 0 0), (2, .ro (fl (eI .i64) a6) a6.length none), (3, .ro (fl (eI .i64) a7) a7.length none)] (by kernel_rfl) ?_
                  obtain rfl := Option.some.inj h53
                  refine Tgt.mk (Weak.ren [] [] (.cons rfl (.pure rfl) (.cons rfl (.ptr (l := 0) (l' := 0) rfl rfl) (.cons rfl (.pure (by simp [pureV, within, withinL, fl_pure])) (.cons rfl (.pure (by simp [pureV, within, withinL, fl_pure])) .nil)))) (.cons rfl (.pure rfl) .nil) (by kernel_rfl) (fun _ h => h.elim) En_ok)
                · have h54 := bif_t h21 h24
                  refine AWl_xrun 4 _ _ _ [(56, .bool true), (55, .dead), (54, .dead), (53, .dead), (52, .bool true), (51, .bool true), (50, .int .i64 (a6.length : Int)), (49, .ro (fl (eI .i64) a6) a6.length none), (4, .ptr 0 0), (2, .ro (fl (eI .i64) a6) a6.length none), (3, .ro (fl (eI .i64) a7) a7.length none)] [(0, some [.int .i64 a0, .int .i64 a1, .int .i64 a2])] (by kernel_rfl) ?_
                  refine AWl_nilK [56, 4, 2, 3] [(56, .bool true), (4, .ptr 0 0), (2, .ro (fl (eI .i64) a6) a6.length none), (3, .ro (fl (eI .i64) a7) a7.length none)] (by kernel_rfl) ?_
                  obtain rfl := Option.some.inj h54
                  refine Tgt.mk (Weak.ren [] [] (.cons rfl (.pure rfl) (.cons rfl (.ptr (l := 0) (l' := 0) rfl rfl) (.cons rfl (.pure (by simp [pureV, within, withinL, fl_pure])) (.cons rfl (.pure (by simp [pureV, within, withinL, fl_pure])) .nil)))) (.cons rfl (.pure rfl) .nil) (by kernel_rfl) (fun _ h => h.elim) En_ok)
              · skip
                cases h22 : x19
                · have h55 := bif_f h22 h52
                  refine AW_condF rfl ?_
                  refine AW_skip ?_
                  refine athen_n ?_
                  refine AW_seq ?_
                  obtain ⟨⟨x21, x22, x23⟩, h25, h56⟩ := bind_some h55
                  obtain ⟨⟨x24, x25, x26⟩, h26, h57⟩ := bind_some h56
                  obtain ⟨h27, h58⟩ := req_some h57
                  obtain ⟨h28, h59⟩ := req_some h58
                  obtain ⟨⟨x27, x28, x29⟩, h29, h60⟩ := bind_some h59
                  refine AW_drawK En_mixed [⟨[(4, .ptr 0 0)], [(0, some [.int .i64 a0, .int .i64 a1, .int .i64 a2])], .agg [.int .i64 a0, .int .i64 a1, .int .i64 a2], [], true, false⟩, ⟨[(2, .ro (fl (eI .i64) a6) a6.length none)], [], .ro (fl (eI .i64) a6) a6.length none, [], true, false⟩, ⟨[(61, .agg [.int .i64 a0, .int .i64 a1, .int .i64 a2]), (62, .ro (fl (eI .i64) a6) a6.length none)], [], .agg [.int .i64 x21, .int .i64 x22, .int .i64 x23], [], true, false⟩, ⟨[(3, .ro (fl (eI .i64) a7) a7.length none)], [], .ro (fl (eI .i64) a7) a7.length none, [], true, false⟩, ⟨[(63, .agg [.int .i64 x21, .int .i64 x22, .int .i64 x23]), (64, .ro (fl (eI .i64) a7) a7.length none)], [], .agg [.int .i64 x24, .int .i64 x25, .int .i64 x26], [], true, false⟩, ⟨[(4, .ptr 0 0)], [(0, some [.int .i64 a0, .int .i64 a1, .int .i64 a2])], .agg [.int .i64 a0, .int .i64 a1, .int .i64 a2], [], true, false⟩, ⟨[], [], .rw 1 0 0 1 (some 0), [(1, some [])], true, false⟩, ⟨[(2, .ro (fl (eI .i64) a6) a6.length none)], [], .ro (fl (eI .i64) a6) a6.length none, [], true, false⟩, ⟨[(67, .rw 1 0 0 1 (some 0)), (68, .ro (fl (eI .i64) a6) a6.length none)], [(1, some [])], .rw 2 0 ((([] : List Int) ++ a6).length) 1 none, [(1, none), (2, some (fl (eI .i64) (([] : List Int) ++ a6)))], true, false⟩, ⟨[(3, .ro (fl (eI .i64) a7) a7.length none)], [], .ro (fl (eI .i64) a7) a7.length none, [], true, false⟩, ⟨[(69, .rw 2 0 ((([] : List Int) ++ a6).length) 1 none), (70, .ro (fl (eI .i64) a7) a7.length none)], [(2, some (fl (eI .i64) (([] : List Int) ++ a6)))], .rw 3 0 ((([] : List Int) ++ a6 ++ a7).length) 1 none, [(2, none), (3, some (fl (eI .i64) (([] : List Int) ++ a6 ++ a7)))], true, false⟩, ⟨[(66, .agg [.int .i64 a0, .int .i64 a1, .int .i64 a2]), (71, .rw 3 0 ((([] : List Int) ++ a6 ++ a7).length) 1 none)], [(3, some (fl (eI .i64) (([] : List Int) ++ a6 ++ a7)))], .agg [.int .i64 x27, .int .i64 x28, .int .i64 x29], [], true, false⟩, ⟨[(65, .agg [.int .i64 x24, .int .i64 x25, .int .i64 x26]), (72, .agg [.int .i64 x27, .int .i64 x28, .int .i64 x29])], [], .bool (((x24 : Int) == x27) && (((x25 : Int) == x28) && (((x26 : Int) == x29) && true))), [], true, false⟩, ⟨[(73, .bool (((x24 : Int) == x27) && (((x25 : Int) == x28) && (((x26 : Int) == x29) && true))))], [], .bool (((x24 : Int) == x27) && (((x25 : Int) == x28) && (((x26 : Int) == x29) && true))), [], true, false⟩] [8] [(8, .bool (((x24 : Int) == x27) && (((x25 : Int) == x28) && (((x26 : Int) == x29) && true))))] [(0, some [.int .i64 a0, .int .i64 a1, .int .i64 a2]), (1, none), (2, none), (3, some (fl (eI .i64) (([] : List Int) ++ a6 ++ a7)))] (.x 1 rfl (by kernel_rfl) (.x 1 rfl (by kernel_rfl) (.o (AOp_callP En_ok Tryd.call9 (caps := []) (xs := [.agg [.int .i64 a0, .int .i64 a1, .int .i64 a2], .ro (fl (eI .i64) a6) a6.length none]) (by exact rfl) (by exact rfl) (pen_Apply_ok h25) (by simp [pureV, within, withinL, fl_pure])) (.x 1 rfl (by kernel_rfl) (.o (AOp_callP En_ok Tryd.call9 (caps := []) (xs := [.agg [.int .i64 x21, .int .i64 x22, .int .i64 x23], .ro (fl (eI .i64) a7) a7.length none]) (by exact rfl) (by exact rfl) (pen_Apply_ok h26) (by simp [pureV, within, withinL, fl_pure])) (.x 1 rfl (by kernel_rfl) (.x 1 rfl (by kernel_rfl) (.x 2 rfl (by kernel_rfl) (.o (AOp_appendL (e := (eI .i64)) (l := ([] : List Int)) (m := a6) 2 1 (by exact rfl) (by exact rfl) (.own (by exact rfl) (by exact rfl) (by exact rfl) (by exact rfl)) (Src.ok (.ro (by exact rfl) (by exact rfl))) (by exact rfl) (by exact rfl) (by exact rfl) (by exact rfl) (by exact rfl) (by exact rfl) h27 (by decide) (by exact rfl)) (.x 3 rfl (by kernel_rfl) (.o (AOp_appendL (e := (eI .i64)) (l := (([] : List Int) ++ a6)) (m := a7) 3 1 (by exact rfl) (by exact rfl) (.own (by exact rfl) (by exact rfl) (by exact rfl) (by exact rfl)) (Src.ok (.ro (by exact rfl) (by exact rfl))) (by exact rfl) (by exact rfl) (by exact rfl) (by exact rfl) (by exact rfl) (by exact rfl) h28 (by decide) (by exact rfl)) (.o (AOp_callB En_ok Tryd.call9 (caps := []) (xs := [.agg [.int .i64 a0, .int .i64 a1, .int .i64 a2], .rw 3 0 ((([] : List Int) ++ a6 ++ a7).length) 1 none]) (by exact rfl) (by exact rfl) (.cons (.pure (by exact rfl)) (.cons (Out.fl (by exact rfl) (by exact rfl) (by exact rfl) (by exact rfl)) .nil)) (pen_Apply_ok h29) (by exact rfl)) (.x 4 rfl (by kernel_rfl) (.x 4 rfl (by kernel_rfl) .nil)))))))))))))) (by kernel_rfl) (by kernel_rfl) (by kernel_rfl) (by kernel_rfl) (by kernel_rfl) (by kernel_rfl) ?_
                  refine athen_n ?_
                  refine AW_ret ?_
                  obtain rfl := Option.some.inj h60
                  refine RetsW.mk [(8, .bool (((x24 : Int) == x27) && (((x25 : Int) == x28) && (((x26 : Int) == x29) && true))))] [] (Weak.ren [] [] (.cons rfl (.pure rfl) .nil) .nil (by kernel_rfl) (fun _ h => h.elim) En_ok) (rets1 (x := .bool (((x24 : Int) == x27) && (((x25 : Int) == x28) && (((x26 : Int) == x29) && true)))) (.inl rfl) (by kernel_rfl) (.pure rfl))
                · have h61 := bif_t h22 h52
                  refine AW_condT rfl ?_
                  refine AW_seq ?_
                  refine AW_region ?_
                  refine AWl_xrun 1 _ _ _ [(57, .agg [.int .i64 a0, .int .i64 a1, .int .i64 a2]), (56, .bool true), (4, .ptr 0 0), (2, .ro (fl (eI .i64) a6) a6.length none), (3, .ro (fl (eI .i64) a7) a7.length none)] [(0, some [.int .i64 a0, .int .i64 a1, .int .i64 a2])] (by kernel_rfl) ?_
                  obtain ⟨_, h23, h62⟩ := bind_some h61
                  refine AWl_o (x := .agg [.int .i64 0, .int .i64 0, .int .i64 0]) (wl := []) (AOp_callP En_ok Tryd.call9 (caps := []) (xs := [.agg [.int .i64 a0, .int .i64 a1, .int .i64 a2], .nils]) rfl rfl (pen_Apply_v2_ok h23) rfl) (by kernel_rfl) (by kernel_rfl) (by kernel_rfl) ?_
                  refine AWl_xrun 3 _ _ _ [(8, .bool (((0 : Int) == 0) && (((0 : Int) == 0) && (((0 : Int) == 0) && true)))), (60, .bool (((0 : Int) == 0) && (((0 : Int) == 0) && (((0 : Int) == 0) && true)))), (59, .agg [.int .i64 0, .int .i64 0, .int .i64 0]), (58, .agg [.int .i64 0, .int .i64 0, .int .i64 0]), (57, .agg [.int .i64 a0, .int .i64 a1, .int .i64 a2]), (56, .bool true), (4, .ptr 0 0), (2, .ro (fl (eI .i64) a6) a6.length none), (3, .ro (fl (eI .i64) a7) a7.length none)] [(0, some [.int .i64 a0, .int .i64 a1, .int .i64 a2])] (by kernel_rfl) ?_
                  refine AWl_nilK [8] [(8, .bool (((0 : Int) == 0) && (((0 : Int) == 0) && (((0 : Int) == 0) && true))))] (by kernel_rfl) ?_
                  refine athen_n ?_
                  refine AW_ret ?_
                  refine athen_ret ?_
                  obtain rfl := Option.some.inj h62
                  refine RetsW.mk [(8, .bool (((0 : Int) == 0) && (((0 : Int) == 0) && (((0 : Int) == 0) && true))))] [] (Weak.ren [] [] (.cons rfl (.pure rfl) .nil) .nil (by kernel_rfl) (fun _ h => h.elim) En_ok) (rets1 (x := .bool (((0 : Int) == 0) && (((0 : Int) == 0) && (((0 : Int) == 0) && true)))) (.inl rfl) (by kernel_rfl) (.pure rfl))
            · rintro e al L ⟨rfl, h51⟩ -
              refine ⟨_, _, h51, ?_⟩
              refine ablock_ret ?_
              refine athen_ret ?_
              obtain rfl := Option.some.inj h40
              refine RetsW.mk [(8, .bool true)] [] (Weak.ren [] [] (.cons rfl (.pure rfl) .nil) .nil (by kernel_rfl) (fun _ h => h.elim) En_ok) (rets1 (x := .bool true) (.inl rfl) (by kernel_rfl) (.pure rfl))
        · have h63 := bif_t h9 h38
          refine AW_condT rfl ?_
          refine AW_seq ?_
          refine AW_region ?_
          refine AWl_xrun 1 _ _ _ [(8, .bool false), (30, .bool true), (4, .ptr 0 0), (2, .ro (fl (eI .i64) a6) a6.length none), (3, .ro (fl (eI .i64) a7) a7.length none)] [(1, some [.int .i64 a3, .int .i64 a4, .int .i64 a5]), (0, some [.int .i64 a0, .int .i64 a1, .int .i64 a2]), (2, none), (3, some (fl (eI .i64) (([0] : List Int) ++ a6)))] (by kernel_rfl) ?_
          refine AWl_nilK [8] [(8, .bool false)] (by kernel_rfl) ?_
          refine athen_n ?_
          refine AW_ret ?_
          refine athen_ret ?_
          obtain rfl := Option.some.inj h63
          refine RetsW.mk [(8, .bool false)] [] (Weak.ren [] [] (.cons rfl (.pure rfl) .nil) .nil (by kernel_rfl) (fun _ h => h.elim) En_ok) (rets1 (x := .bool false) (.inl rfl) (by kernel_rfl) (.pure rfl))
      · have h64 := bif_t h4 h32
        refine AW_condT rfl ?_
        refine AW_seq ?_
        refine AW_region ?_
        refine AWl_xrun 1 _ _ _ [(8, .bool true), (20, .bool true), (5, .ptr 1 0), (4, .ptr 0 0), (2, .ro (fl (eI .i64) a6) a6.length none), (3, .ro (fl (eI .i64) a7) a7.length none)] [(1, some [.int .i64 a3, .int .i64 a4, .int .i64 a5]), (0, some [.int .i64 a0, .int .i64 a1, .int .i64 a2])] (by kernel_rfl) ?_
        refine AWl_nilK [8] [(8, .bool true)] (by kernel_rfl) ?_
        refine athen_n ?_
        refine AW_ret ?_
        refine athen_ret ?_
        obtain rfl := Option.some.inj h64
        refine RetsW.mk [(8, .bool true)] [] (Weak.ren [] [] (.cons rfl (.pure rfl) .nil) .nil (by kernel_rfl) (fun _ h => h.elim) En_ok) (rets1 (x := .bool true) (.inl rfl) (by kernel_rfl) (.pure rfl))
  · have h65 := bif_t h2 h30
    refine AW_condT rfl ?_
    refine AW_seq ?_
    refine AW_region ?_
    refine AWl_xrun 1 _ _ _ [(8, .bool false), (12, .bool true), (5, .ptr 1 0), (4, .ptr 0 0), (2, .ro (fl (eI .i64) a6) a6.length none), (3, .ro (fl (eI .i64) a7) a7.length none)] [(0, some [.int .i64 a0, .int .i64 a1, .int .i64 a2]), (1, some [.int .i64 a3, .int .i64 a4, .int .i64 a5])] (by kernel_rfl) ?_
    refine AWl_nilK [8] [(8, .bool false)] (by kernel_rfl) ?_
    refine athen_n ?_
    refine AW_ret ?_
    refine athen_ret ?_
    obtain rfl := Option.some.inj h65
    refine RetsW.mk [(8, .bool false)] [] (Weak.ren [] [] (.cons rfl (.pure rfl) .nil) .nil (by kernel_rfl) (fun _ h => h.elim) En_ok) (rets1 (x := .bool false) (.inl rfl) (by kernel_rfl) (.pure rfl))
noncomputable def oriellaw12_PenOne (a0 : Int) (a1 : Int) (a2 : Int) (a3 : Int) : Option (Bool) :=
  (oriellaw12_known).bind fun x1 =>
  bif (!x1) then
    (some false)
  else
    ((pen_May a0 a1 a2).bind fun x2 =>
    bif (!x2) then
      (some true)
    else
      ((pen_Apply a0 a1 a2 ([a3] : List Int)).bind fun (x3, x4, x5) =>
      (bif ((x3 : Int) != a0) then
          (some 1)
        else
          (some 0) : Option (Int)).bind fun x6 =>
      (bif ((x4 : Int) != a1) then
          (some (IntKind.i64.wrap (x6 + 1)))
        else
          (some x6) : Option (Int)).bind fun x7 =>
      (bif ((x5 : Int) != a2) then
          (some (IntKind.i64.wrap (x7 + 1)))
        else
          (some x7) : Option (Int)).bind fun x8 =>
      bif ((a3 : Int) == 0) then
        (some (((x3 : Int) == 0) && (((x4 : Int) == 0) && (((x5 : Int) == 0) && true))))
      else
        ((bif (decide (a3 > 0)) then
            (bif (decide (a3 < 50)) then
              (some true)
            else
              (bif (decide (a3 ≥ 90)) then
                (some (decide (a3 < 108)))
              else
                (some false)))
          else
            (bif (decide (a3 ≥ 90)) then
              (some (decide (a3 < 108)))
            else
              (some false)) : Option (Bool)).bind fun x9 =>
        bif (decide (x8 ≤ 1)) then
          (bif x9 then
            ((pen_Apply x3 x4 x5 ([a3] : List Int)).bind fun (x13, x14, x15) =>
            some (((x13 : Int) == x3) && (((x14 : Int) == x4) && (((x15 : Int) == x5) && true))))
          else
            (bif ((x8 : Int) == 0) then
              ((pen_Apply x3 x4 x5 ([a3] : List Int)).bind fun (x10, x11, x12) =>
              some (((x10 : Int) == x3) && (((x11 : Int) == x4) && (((x12 : Int) == x5) && true))))
            else
              (some false)))
        else
          (some false))))
theorem oriellaw12_PenOne_ok {a0 : Int} {a1 : Int} {a2 : Int} {a3 : Int} {x20 : Bool} (h : oriellaw12_PenOne a0 a1 a2 a3 = some x20) : Pure En 7 [.agg [.int .i64 a0, .int .i64 a1, .int .i64 a2], .int .i64 a3] (.bool x20) := by
  unfold oriellaw12_PenOne at h
  refine ACalls_pureW En_ok (fn := Tryd.f7) Tryd.func7 rfl (by simp [Tryd.ntmps7]) ?_
  refine AW_seq ?_
  refine AW_region ?_
  refine AWl_xrun 2 _ _ _ [(4, .bool false), (2, .ptr 0 0), (0, .agg [.int .i64 a0, .int .i64 a1, .int .i64 a2]), (1, .int .i64 a3)] [(0, some [.int .i64 a0, .int .i64 a1, .int .i64 a2])] (by kernel_rfl) ?_
  refine AWl_nilK [2, 1] [(2, .ptr 0 0), (1, .int .i64 a3)] (by kernel_rfl) ?_
  refine athen_n ?_
  refine AW_seq ?_
  refine AW_seq ?_
  refine AW_region ?_
  obtain ⟨x1, h1, h22⟩ := bind_some h
  refine AWl_o (x := .bool x1) (wl := []) (AOp_callP En_ok Tryd.call8 (caps := []) (xs := []) rfl rfl (oriellaw12_known_ok h1) rfl) (by kernel_rfl) (by kernel_rfl) (by kernel_rfl) ?_
  refine AWl_xrun 1 _ _ _ [(9, .bool (!x1)), (8, .bool x1), (2, .ptr 0 0), (1, .int .i64 a3)] [(0, some [.int .i64 a0, .int .i64 a1, .int .i64 a2])] (by kernel_rfl) ?_
  refine AWl_nilK [9, 2, 1] [(9, .bool (!x1)), (2, .ptr 0 0), (1, .int .i64 a3)] (by kernel_rfl) ?_
  refine athen_n ?_
  cases h2 : (!x1)
  · have h23 := bif_f h2 h22
    refine AW_condF rfl ?_
    refine AW_skip ?_
    refine athen_n ?_
    refine AW_seq ?_
    refine AW_seq ?_
    refine AW_region ?_
    refine AWl_xrun 1 _ _ _ [(10, .agg [.int .i64 a0, .int .i64 a1, .int .i64 a2]), (9, .bool false), (2, .ptr 0 0), (1, .int .i64 a3)] [(0, some [.int .i64 a0, .int .i64 a1, .int .i64 a2])] (by kernel_rfl) ?_
    obtain ⟨x2, h3, h24⟩ := bind_some h23
    refine AWl_o (x := .bool x2) (wl := []) (AOp_callP En_ok Tryd.call11 (caps := []) (xs := [.agg [.int .i64 a0, .int .i64 a1, .int .i64 a2]]) rfl rfl (pen_May_ok h3) rfl) (by kernel_rfl) (by kernel_rfl) (by kernel_rfl) ?_
    refine AWl_xrun 1 _ _ _ [(12, .bool (!x2)), (11, .bool x2), (10, .agg [.int .i64 a0, .int .i64 a1, .int .i64 a2]), (9, .bool false), (2, .ptr 0 0), (1, .int .i64 a3)] [(0, some [.int .i64 a0, .int .i64 a1, .int .i64 a2])] (by kernel_rfl) ?_
    refine AWl_nilK [12, 2, 1] [(12, .bool (!x2)), (2, .ptr 0 0), (1, .int .i64 a3)] (by kernel_rfl) ?_
    refine athen_n ?_
    cases h4 : (!x2)
    · have h25 := bif_f h4 h24
      refine AW_condF rfl ?_
      refine AW_skip ?_
      refine athen_n ?_
      refine AW_seq ?_
      refine AW_region ?_
      refine AWl_xrun 3 _ _ _ [(15, .rw 1 0 1 1 (some 1)), (14, .int .i64 a3), (13, .agg [.int .i64 a0, .int .i64 a1, .int .i64 a2]), (12, .bool false), (2, .ptr 0 0), (1, .int .i64 a3)] [(0, some [.int .i64 a0, .int .i64 a1, .int .i64 a2]), (1, some [.int .i64 a3])] (by kernel_rfl) ?_
      obtain ⟨⟨x3, x4, x5⟩, h5, h26⟩ := bind_some h25
      refine AWl_o (x := .agg [.int .i64 x3, .int .i64 x4, .int .i64 x5]) (wl := []) (AOp_callB En_ok Tryd.call9 (caps := []) (xs := [.agg [.int .i64 a0, .int .i64 a1, .int .i64 a2], .rw 1 0 1 1 (some 1)]) rfl rfl (.cons (.pure rfl) (.cons (Out.fl rfl rfl rfl rfl) .nil)) (pen_Apply_ok h5) rfl) (by kernel_rfl) (by kernel_rfl) (by kernel_rfl) ?_
      refine AWl_xrun 2 _ _ _ [(5, .ptr 2 0), (16, .agg [.int .i64 x3, .int .i64 x4, .int .i64 x5]), (15, .rw 1 0 1 1 (some 1)), (14, .int .i64 a3), (13, .agg [.int .i64 a0, .int .i64 a1, .int .i64 a2]), (12, .bool false), (2, .ptr 0 0), (1, .int .i64 a3)] [(0, some [.int .i64 a0, .int .i64 a1, .int .i64 a2]), (1, some [.int .i64 a3]), (2, some [.int .i64 x3, .int .i64 x4, .int .i64 x5])] (by kernel_rfl) ?_
      refine AWl_nilK [5, 2, 1] [(5, .ptr 2 0), (2, .ptr 0 0), (1, .int .i64 a3)] (by kernel_rfl) ?_
      refine athen_n ?_
      refine AW_seq ?_
      refine AW_region ?_
      refine AWl_xrun 1 _ _ _ [(6, .int .i64 0), (5, .ptr 2 0), (2, .ptr 0 0), (1, .int .i64 a3)] [(0, some [.int .i64 a0, .int .i64 a1, .int .i64 a2]), (1, some [.int .i64 a3]), (2, some [.int .i64 x3, .int .i64 x4, .int .i64 x5])] (by kernel_rfl) ?_
      refine AWl_nilK [6, 5, 2, 1] [(6, .int .i64 0), (5, .ptr 2 0), (2, .ptr 0 0), (1, .int .i64 a3)] (by kernel_rfl) ?_
      refine athen_n ?_
      obtain ⟨x6, h21, h27⟩ := bind_some h26
      refine AW_meetN (fun x6 => [(6, .int .i64 x6), (5, .ptr 2 0), (2, .ptr 0 0), (1, .int .i64 a3)]) (fun x6 => [(2, some [.int .i64 x3, .int .i64 x4, .int .i64 x5]), (0, some [.int .i64 a0, .int .i64 a1, .int .i64 a2])]) x6 ?_ ?_
      · skip
        refine AW_seq ?_
        refine AW_region ?_
        refine AWl_xrun 5 _ _ _ [(21, .bool ((x3 : Int) != a0)), (20, .int .i64 a0), (19, .ptr 0 0), (18, .int .i64 x3), (17, .ptr 2 0), (6, .int .i64 0), (5, .ptr 2 0), (2, .ptr 0 0), (1, .int .i64 a3)] [(0, some [.int .i64 a0, .int .i64 a1, .int .i64 a2]), (1, some [.int .i64 a3]), (2, some [.int .i64 x3, .int .i64 x4, .int .i64 x5])] (by kernel_rfl) ?_
        refine AWl_nilK [21, 6, 5, 2, 1] [(21, .bool ((x3 : Int) != a0)), (6, .int .i64 0), (5, .ptr 2 0), (2, .ptr 0 0), (1, .int .i64 a3)] (by kernel_rfl) ?_
        refine athen_n ?_
        cases h6 : ((x3 : Int) != a0)
        · have h28 := bif_f h6 h21
          refine AW_condF rfl ?_
          refine AW_skip ?_
          obtain rfl := Option.some.inj h28
          refine Tgt.mk (Weak.ren [] [] (.cons rfl (.pure rfl) (.cons rfl (.ptr (l := 2) (l' := 2) rfl rfl) (.cons rfl (.ptr (l := 0) (l' := 0) rfl rfl) (.cons rfl (.pure rfl) .nil)))) (.cons rfl (.pure rfl) (.cons rfl (.pure rfl) .nil)) (by kernel_rfl) (fun _ h => h.elim) En_ok)
        · have h29 := bif_t h6 h21
          refine AW_condT rfl ?_
          refine AW_region ?_
          refine AWl_xrun 3 _ _ _ [(6, .int .i64 1), (23, .int .i64 1), (22, .int .i64 0), (21, .bool true), (6, .int .i64 0), (5, .ptr 2 0), (2, .ptr 0 0), (1, .int .i64 a3)] [(0, some [.int .i64 a0, .int .i64 a1, .int .i64 a2]), (1, some [.int .i64 a3]), (2, some [.int .i64 x3, .int .i64 x4, .int .i64 x5])] (by kernel_rfl) ?_
          refine AWl_nilK [6, 5, 2, 1] [(6, .int .i64 1), (5, .ptr 2 0), (2, .ptr 0 0), (1, .int .i64 a3)] (by kernel_rfl) ?_
          obtain rfl := Option.some.inj h29
          refine Tgt.mk (Weak.ren [] [] (.cons rfl (.pure rfl) (.cons rfl (.ptr (l := 2) (l' := 2) rfl rfl) (.cons rfl (.ptr (l := 0) (l' := 0) rfl rfl) (.cons rfl (.pure rfl) .nil)))) (.cons rfl (.pure rfl) (.cons rfl (.pure rfl) .nil)) (by kernel_rfl) (fun _ h => h.elim) En_ok)
      · skip
        obtain ⟨x7, h20, h30⟩ := bind_some h27
        refine AW_meetN (fun x7 => [(6, .int .i64 x7), (5, .ptr 2 0), (2, .ptr 0 0), (1, .int .i64 a3)]) (fun x7 => [(2, some [.int .i64 x3, .int .i64 x4, .int .i64 x5]), (0, some [.int .i64 a0, .int .i64 a1, .int .i64 a2])]) x7 ?_ ?_
        · skip
          refine AW_seq ?_
          refine AW_region ?_
          refine AWl_xrun 5 _ _ _ [(28, .bool ((x4 : Int) != a1)), (27, .int .i64 a1), (26, .ptr 0 1), (25, .int .i64 x4), (24, .ptr 2 1), (6, .int .i64 x6), (5, .ptr 2 0), (2, .ptr 0 0), (1, .int .i64 a3)] [(2, some [.int .i64 x3, .int .i64 x4, .int .i64 x5]), (0, some [.int .i64 a0, .int .i64 a1, .int .i64 a2])] (by kernel_rfl) ?_
          refine AWl_nilK [28, 6, 5, 2, 1] [(28, .bool ((x4 : Int) != a1)), (6, .int .i64 x6), (5, .ptr 2 0), (2, .ptr 0 0), (1, .int .i64 a3)] (by kernel_rfl) ?_
          refine athen_n ?_
          cases h7 : ((x4 : Int) != a1)
          · have h31 := bif_f h7 h20
            refine AW_condF rfl ?_
            refine AW_skip ?_
            obtain rfl := Option.some.inj h31
            refine Tgt.mk (Weak.ren [] [] (.cons rfl (.pure rfl) (.cons rfl (.ptr (l := 2) (l' := 2) rfl rfl) (.cons rfl (.ptr (l := 0) (l' := 0) rfl rfl) (.cons rfl (.pure rfl) .nil)))) (.cons rfl (.pure rfl) (.cons rfl (.pure rfl) .nil)) (by kernel_rfl) (fun _ h => h.elim) En_ok)
          · have h32 := bif_t h7 h20
            refine AW_condT rfl ?_
            refine AW_region ?_
            refine AWl_xrun 3 _ _ _ [(6, .int .i64 (IntKind.i64.wrap (x6 + 1))), (30, .int .i64 (IntKind.i64.wrap (x6 + 1))), (29, .int .i64 x6), (28, .bool true), (6, .int .i64 x6), (5, .ptr 2 0), (2, .ptr 0 0), (1, .int .i64 a3)] [(2, some [.int .i64 x3, .int .i64 x4, .int .i64 x5]), (0, some [.int .i64 a0, .int .i64 a1, .int .i64 a2])] (by kernel_rfl) ?_
            refine AWl_nilK [6, 5, 2, 1] [(6, .int .i64 (IntKind.i64.wrap (x6 + 1))), (5, .ptr 2 0), (2, .ptr 0 0), (1, .int .i64 a3)] (by kernel_rfl) ?_
            obtain rfl := Option.some.inj h32
            refine Tgt.mk (Weak.ren [] [] (.cons rfl (.pure rfl) (.cons rfl (.ptr (l := 2) (l' := 2) rfl rfl) (.cons rfl (.ptr (l := 0) (l' := 0) rfl rfl) (.cons rfl (.pure rfl) .nil)))) (.cons rfl (.pure rfl) (.cons rfl (.pure rfl) .nil)) (by kernel_rfl) (fun _ h => h.elim) En_ok)
        · skip
          obtain ⟨x8, h19, h33⟩ := bind_some h30
          refine AW_meetN (fun x8 => [(6, .int .i64 x8), (5, .ptr 2 0), (1, .int .i64 a3)]) (fun x8 => [(2, some [.int .i64 x3, .int .i64 x4, .int .i64 x5])]) x8 ?_ ?_
          · skip
            refine AW_seq ?_
            refine AW_region ?_
            refine AWl_xrun 5 _ _ _ [(35, .bool ((x5 : Int) != a2)), (34, .int .i64 a2), (33, .ptr 0 2), (32, .int .i64 x5), (31, .ptr 2 2), (6, .int .i64 x7), (5, .ptr 2 0), (2, .ptr 0 0), (1, .int .i64 a3)] [(2, some [.int .i64 x3, .int .i64 x4, .int .i64 x5]), (0, some [.int .i64 a0, .int .i64 a1, .int .i64 a2])] (by kernel_rfl) ?_
            refine AWl_nilK [35, 6, 5, 1] [(35, .bool ((x5 : Int) != a2)), (6, .int .i64 x7), (5, .ptr 2 0), (1, .int .i64 a3)] (by kernel_rfl) ?_
            refine athen_n ?_
            cases h8 : ((x5 : Int) != a2)
            · have h34 := bif_f h8 h19
              refine AW_condF rfl ?_
              refine AW_skip ?_
              obtain rfl := Option.some.inj h34
              refine Tgt.mk (Weak.ren [] [] (.cons rfl (.pure rfl) (.cons rfl (.ptr (l := 2) (l' := 2) rfl rfl) (.cons rfl (.pure rfl) .nil))) (.cons rfl (.pure rfl) .nil) (by kernel_rfl) (fun _ h => h.elim) En_ok)
            · have h35 := bif_t h8 h19
              refine AW_condT rfl ?_
              refine AW_region ?_
              refine AWl_xrun 3 _ _ _ [(6, .int .i64 (IntKind.i64.wrap (x7 + 1))), (37, .int .i64 (IntKind.i64.wrap (x7 + 1))), (36, .int .i64 x7), (35, .bool true), (6, .int .i64 x7), (5, .ptr 2 0), (1, .int .i64 a3)] [(2, some [.int .i64 x3, .int .i64 x4, .int .i64 x5]), (0, some [.int .i64 a0, .int .i64 a1, .int .i64 a2])] (by kernel_rfl) ?_
              refine AWl_nilK [6, 5, 1] [(6, .int .i64 (IntKind.i64.wrap (x7 + 1))), (5, .ptr 2 0), (1, .int .i64 a3)] (by kernel_rfl) ?_
              obtain rfl := Option.some.inj h35
              refine Tgt.mk (Weak.ren [] [] (.cons rfl (.pure rfl) (.cons rfl (.ptr (l := 2) (l' := 2) rfl rfl) (.cons rfl (.pure rfl) .nil))) (.cons rfl (.pure rfl) .nil) (by kernel_rfl) (fun _ h => h.elim) En_ok)
          · skip
            refine AW_seq ?_
            refine AW_seq ?_
            refine AW_region ?_
            refine AWl_xrun 2 _ _ _ [(39, .bool ((a3 : Int) == 0)), (38, .int .i64 a3), (6, .int .i64 x8), (5, .ptr 2 0), (1, .int .i64 a3)] [(2, some [.int .i64 x3, .int .i64 x4, .int .i64 x5])] (by kernel_rfl) ?_
            refine AWl_nilK [39, 6, 5, 1] [(39, .bool ((a3 : Int) == 0)), (6, .int .i64 x8), (5, .ptr 2 0), (1, .int .i64 a3)] (by kernel_rfl) ?_
            refine athen_n ?_
            cases h9 : ((a3 : Int) == 0)
            · have h36 := bif_f h9 h33
              refine AW_condF rfl ?_
              refine AW_skip ?_
              refine athen_n ?_
              obtain ⟨x9, h18, h37⟩ := bind_some h36
              refine AW_meetN (fun x9 => [(7, .bool x9), (6, .int .i64 x8), (5, .ptr 2 0), (1, .int .i64 a3)]) (fun x9 => [(2, some [.int .i64 x3, .int .i64 x4, .int .i64 x5])]) x9 ?_ ?_
              · skip
                refine AW_region ?_
                refine AWl_xrun 3 _ _ _ [(45, .bool (decide (a3 > 0))), (44, .bool (decide (a3 > 0))), (43, .int .i64 a3), (39, .bool false), (6, .int .i64 x8), (5, .ptr 2 0), (1, .int .i64 a3)] [(2, some [.int .i64 x3, .int .i64 x4, .int .i64 x5])] (by kernel_rfl) ?_
                cases h10 : (decide (a3 > 0))
                · have h38 := bif_f h10 h18
                  refine AWl_xrun 7 _ _ _ [(52, .bool (decide (a3 ≥ 90))), (51, .bool (decide (a3 ≥ 90))), (50, .int .i64 a3), (49, .bool false), (48, .bool false), (47, .dead), (46, .dead), (45, .bool false), (44, .bool false), (43, .int .i64 a3), (39, .bool false), (6, .int .i64 x8), (5, .ptr 2 0), (1, .int .i64 a3)] [(2, some [.int .i64 x3, .int .i64 x4, .int .i64 x5])] (by kernel_rfl) ?_
                  cases h11 : (decide (a3 ≥ 90))
                  · have h39 := bif_f h11 h38
                    refine AWl_xrun 5 _ _ _ [(7, .bool false), (56, .bool false), (55, .bool false), (54, .dead), (53, .dead), (52, .bool false), (51, .bool false), (50, .int .i64 a3), (49, .bool false), (48, .bool false), (47, .dead), (46, .dead), (45, .bool false), (44, .bool false), (43, .int .i64 a3), (39, .bool false), (6, .int .i64 x8), (5, .ptr 2 0), (1, .int .i64 a3)] [(2, some [.int .i64 x3, .int .i64 x4, .int .i64 x5])] (by kernel_rfl) ?_
                    refine AWl_nilK [7, 6, 5, 1] [(7, .bool false), (6, .int .i64 x8), (5, .ptr 2 0), (1, .int .i64 a3)] (by kernel_rfl) ?_
                    obtain rfl := Option.some.inj h39
                    refine Tgt.mk (Weak.ren [] [] (.cons rfl (.pure rfl) (.cons rfl (.pure rfl) (.cons rfl (.ptr (l := 2) (l' := 2) rfl rfl) (.cons rfl (.pure rfl) .nil)))) (.cons rfl (.pure rfl) .nil) (by kernel_rfl) (fun _ h => h.elim) En_ok)
                  · have h40 := bif_t h11 h38
                    refine AWl_xrun 5 _ _ _ [(7, .bool (decide (a3 < 108))), (56, .bool (decide (a3 < 108))), (55, .bool (decide (a3 < 108))), (54, .bool (decide (a3 < 108))), (53, .int .i64 a3), (52, .bool true), (51, .bool true), (50, .int .i64 a3), (49, .bool false), (48, .bool false), (47, .dead), (46, .dead), (45, .bool false), (44, .bool false), (43, .int .i64 a3), (39, .bool false), (6, .int .i64 x8), (5, .ptr 2 0), (1, .int .i64 a3)] [(2, some [.int .i64 x3, .int .i64 x4, .int .i64 x5])] (by kernel_rfl) ?_
                    refine AWl_nilK [7, 6, 5, 1] [(7, .bool (decide (a3 < 108))), (6, .int .i64 x8), (5, .ptr 2 0), (1, .int .i64 a3)] (by kernel_rfl) ?_
                    obtain rfl := Option.some.inj h40
                    refine Tgt.mk (Weak.ren [] [] (.cons rfl (.pure rfl) (.cons rfl (.pure rfl) (.cons rfl (.ptr (l := 2) (l' := 2) rfl rfl) (.cons rfl (.pure rfl) .nil)))) (.cons rfl (.pure rfl) .nil) (by kernel_rfl) (fun _ h => h.elim) En_ok)
                · have h41 := bif_t h10 h18
                  refine AWl_xrun 4 _ _ _ [(49, .bool (decide (a3 < 50))), (48, .bool (decide (a3 < 50))), (47, .bool (decide (a3 < 50))), (46, .int .i64 a3), (45, .bool true), (44, .bool true), (43, .int .i64 a3), (39, .bool false), (6, .int .i64 x8), (5, .ptr 2 0), (1, .int .i64 a3)] [(2, some [.int .i64 x3, .int .i64 x4, .int .i64 x5])] (by kernel_rfl) ?_
                  cases h12 : (decide (a3 < 50))
                  · have h42 := bif_f h12 h41
                    refine AWl_xrun 3 _ _ _ [(52, .bool (decide (a3 ≥ 90))), (51, .bool (decide (a3 ≥ 90))), (50, .int .i64 a3), (49, .bool false), (48, .bool false), (47, .bool false), (46, .int .i64 a3), (45, .bool true), (44, .bool true), (43, .int .i64 a3), (39, .bool false), (6, .int .i64 x8), (5, .ptr 2 0), (1, .int .i64 a3)] [(2, some [.int .i64 x3, .int .i64 x4, .int .i64 x5])] (by kernel_rfl) ?_
                    cases h13 : (decide (a3 ≥ 90))
                    · have h43 := bif_f h13 h42
                      refine AWl_xrun 5 _ _ _ [(7, .bool false), (56, .bool false), (55, .bool false), (54, .dead), (53, .dead), (52, .bool false), (51, .bool false), (50, .int .i64 a3), (49, .bool false), (48, .bool false), (47, .bool false), (46, .int .i64 a3), (45, .bool true), (44, .bool true), (43, .int .i64 a3), (39, .bool false), (6, .int .i64 x8), (5, .ptr 2 0), (1, .int .i64 a3)] [(2, some [.int .i64 x3, .int .i64 x4, .int .i64 x5])] (by kernel_rfl) ?_
                      refine AWl_nilK [7, 6, 5, 1] [(7, .bool false), (6, .int .i64 x8), (5, .ptr 2 0), (1, .int .i64 a3)] (by kernel_rfl) ?_
                      obtain rfl := Option.some.inj h43
                      refine Tgt.mk (Weak.ren [] [] (.cons rfl (.pure rfl) (.cons rfl (.pure rfl) (.cons rfl (.ptr (l := 2) (l' := 2) rfl rfl) (.cons rfl (.pure rfl) .nil)))) (.cons rfl (.pure rfl) .nil) (by kernel_rfl) (fun _ h => h.elim) En_ok)
                    · have h44 := bif_t h13 h42
                      refine AWl_xrun 5 _ _ _ [(7, .bool (decide (a3 < 108))), (56, .bool (decide (a3 < 108))), (55, .bool (decide (a3 < 108))), (54, .bool (decide (a3 < 108))), (53, .int .i64 a3), (52, .bool true), (51, .bool true), (50, .int .i64 a3), (49, .bool false), (48, .bool false), (47, .bool false), (46, .int .i64 a3), (45, .bool true), (44, .bool true), (43, .int .i64 a3), (39, .bool false), (6, .int .i64 x8), (5, .ptr 2 0), (1, .int .i64 a3)] [(2, some [.int .i64 x3, .int .i64 x4, .int .i64 x5])] (by kernel_rfl) ?_
                      refine AWl_nilK [7, 6, 5, 1] [(7, .bool (decide (a3 < 108))), (6, .int .i64 x8), (5, .ptr 2 0), (1, .int .i64 a3)] (by kernel_rfl) ?_
                      obtain rfl := Option.some.inj h44
                      refine Tgt.mk (Weak.ren [] [] (.cons rfl (.pure rfl) (.cons rfl (.pure rfl) (.cons rfl (.ptr (l := 2) (l' := 2) rfl rfl) (.cons rfl (.pure rfl) .nil)))) (.cons rfl (.pure rfl) .nil) (by kernel_rfl) (fun _ h => h.elim) En_ok)
                  · have h45 := bif_t h12 h41
                    refine AWl_xrun 8 _ _ _ [(7, .bool true), (56, .bool true), (55, .dead), (54, .dead), (53, .dead), (52, .dead), (51, .dead), (50, .dead), (49, .bool true), (48, .bool true), (47, .bool true), (46, .int .i64 a3), (45, .bool true), (44, .bool true), (43, .int .i64 a3), (39, .bool false), (6, .int .i64 x8), (5, .ptr 2 0), (1, .int .i64 a3)] [(2, some [.int .i64 x3, .int .i64 x4, .int .i64 x5])] (by kernel_rfl) ?_
                    refine AWl_nilK [7, 6, 5, 1] [(7, .bool true), (6, .int .i64 x8), (5, .ptr 2 0), (1, .int .i64 a3)] (by kernel_rfl) ?_
                    obtain rfl := Option.some.inj h45
                    refine Tgt.mk (Weak.ren [] [] (.cons rfl (.pure rfl) (.cons rfl (.pure rfl) (.cons rfl (.ptr (l := 2) (l' := 2) rfl rfl) (.cons rfl (.pure rfl) .nil)))) (.cons rfl (.pure rfl) .nil) (by kernel_rfl) (fun _ h => h.elim) En_ok)
              · skip
                refine AW_seq ?_
                cases h14 : (decide (x8 ≤ 1))
                · have h46 := bif_f h14 h37
                  refine AW_drawK En_mixed [⟨[(6, .int .i64 x8)], [], .int .i64 x8, [], true, false⟩, ⟨[(57, .int .i64 x8)], [], .bool false, [], true, false⟩, ⟨[(58, .bool false)], [], .bool false, [], true, false⟩, ⟨[], [], .dead, [], false, false⟩, ⟨[], [], .dead, [], false, false⟩, ⟨[], [], .dead, [], false, true⟩, ⟨[], [], .dead, [], false, true⟩, ⟨[], [], .dead, [], false, false⟩, ⟨[(59, .bool false), (64, .dead)], [], .bool false, [], true, false⟩, ⟨[(65, .bool false)], [], .bool false, [], true, false⟩, ⟨[], [], .dead, [], false, false⟩, ⟨[], [], .dead, [], false, false⟩, ⟨[], [], .dead, [], false, false⟩, ⟨[], [], .dead, [], false, false⟩, ⟨[], [], .dead, [], false, false⟩, ⟨[], [], .dead, [], false, false⟩, ⟨[(66, .bool false), (72, .dead)], [], .bool false, [], true, false⟩, ⟨[(73, .bool false)], [], .bool false, [], true, false⟩] [4] [(4, .bool false)] [(2, some [.int .i64 x3, .int .i64 x4, .int .i64 x5])] (.x 3 rfl (by kernel_rfl) (.xb h14 (by kernel_rfl) rfl (.x 3 rfl (by kernel_rfl) (.skip rfl (.skip rfl (.skip rfl (.skip rfl (.skip rfl (.x 3 rfl (by kernel_rfl) (.x 3 rfl (by kernel_rfl) (.skip rfl (.skip rfl (.skip rfl (.skip rfl (.skip rfl (.skip rfl (.x 3 rfl (by kernel_rfl) (.x 3 rfl (by kernel_rfl) .nil)))))))))))))))))) (by kernel_rfl) (by kernel_rfl) (by kernel_rfl) (by kernel_rfl) (by kernel_rfl) (by kernel_rfl) ?_
                  refine athen_n ?_
                  refine AW_ret ?_
                  obtain rfl := Option.some.inj h46
                  refine RetsW.mk [(4, .bool false)] [] (Weak.ren [] [] (.cons rfl (.pure rfl) .nil) .nil (by kernel_rfl) (fun _ h => h.elim) En_ok) (rets1 (x := .bool false) (.inl rfl) (by kernel_rfl) (.pure rfl))
                · have h47 := bif_t h14 h37
                  cases x9
                  · have h48 := bif_f rfl h47
                    cases h15 : ((x8 : Int) == 0)
                    · have h49 := bif_f h15 h48
                      refine AW_drawK En_mixed [⟨[(6, .int .i64 x8)], [], .int .i64 x8, [], true, false⟩, ⟨[(57, .int .i64 x8)], [], .bool true, [], true, false⟩, ⟨[(58, .bool true)], [], .bool true, [], true, false⟩, ⟨[(7, .bool false)], [], .bool false, [], true, false⟩, ⟨[(60, .bool false)], [], .bool false, [], true, false⟩, ⟨[(6, .int .i64 x8)], [], .int .i64 x8, [], true, false⟩, ⟨[(62, .int .i64 x8)], [], .bool false, [], true, false⟩, ⟨[(61, .bool false), (63, .bool false)], [], .bool false, [], true, false⟩, ⟨[(59, .bool true), (64, .bool false)], [], .bool false, [], true, false⟩, ⟨[(65, .bool false)], [], .bool false, [], true, false⟩, ⟨[], [], .dead, [], false, false⟩, ⟨[], [], .dead, [], false, false⟩, ⟨[], [], .dead, [], false, false⟩, ⟨[], [], .dead, [], false, false⟩, ⟨[], [], .dead, [], false, false⟩, ⟨[], [], .dead, [], false, false⟩, ⟨[(66, .bool false), (72, .dead)], [], .bool false, [], true, false⟩, ⟨[(73, .bool false)], [], .bool false, [], true, false⟩] [4] [(4, .bool false)] [(2, some [.int .i64 x3, .int .i64 x4, .int .i64 x5])] (.x 3 rfl (by kernel_rfl) (.xb h14 (by kernel_rfl) rfl (.x 3 rfl (by kernel_rfl) (.x 3 rfl (by kernel_rfl) (.x 3 rfl (by kernel_rfl) (.x 3 rfl (by kernel_rfl) (.xb h15 (by kernel_rfl) rfl (.x 3 rfl (by kernel_rfl) (.x 3 rfl (by kernel_rfl) (.x 3 rfl (by kernel_rfl) (.skip rfl (.skip rfl (.skip rfl (.skip rfl (.skip rfl (.skip rfl (.x 3 rfl (by kernel_rfl) (.x 3 rfl (by kernel_rfl) .nil)))))))))))))))))) (by kernel_rfl) (by kernel_rfl) (by kernel_rfl) (by kernel_rfl) (by kernel_rfl) (by kernel_rfl) ?_
                      refine athen_n ?_
                      refine AW_ret ?_
                      obtain rfl := Option.some.inj h49
                      refine RetsW.mk [(4, .bool false)] [] (Weak.ren [] [] (.cons rfl (.pure rfl) .nil) .nil (by kernel_rfl) (fun _ h => h.elim) En_ok) (rets1 (x := .bool false) (.inl rfl) (by kernel_rfl) (.pure rfl))
                    · have h50 := bif_t h15 h48
                      obtain ⟨⟨x10, x11, x12⟩, h16, h51⟩ := bind_some h50
                      refine AW_drawK En_mixed [⟨[(6, .int .i64 x8)], [], .int .i64 x8, [], true, false⟩, ⟨[(57, .int .i64 x8)], [], .bool true, [], true, false⟩, ⟨[(58, .bool true)], [], .bool true, [], true, false⟩, ⟨[(7, .bool false)], [], .bool false, [], true, false⟩, ⟨[(60, .bool false)], [], .bool false, [], true, false⟩, ⟨[(6, .int .i64 x8)], [], .int .i64 x8, [], true, false⟩, ⟨[(62, .int .i64 x8)], [], .bool true, [], true, false⟩, ⟨[(61, .bool false), (63, .bool true)], [], .bool true, [], true, false⟩, ⟨[(59, .bool true), (64, .bool true)], [], .bool true, [], true, false⟩, ⟨[(65, .bool true)], [], .bool true, [], true, false⟩, ⟨[(5, .ptr 2 0)], [(2, some [.int .i64 x3, .int .i64 x4, .int .i64 x5])], .agg [.int .i64 x3, .int .i64 x4, .int .i64 x5], [], true, false⟩, ⟨[(1, .int .i64 a3)], [], .int .i64 a3, [], true, false⟩, ⟨[(68, .int .i64 a3)], [], .rw 3 0 1 1 (some 1), [(3, some [.int .i64 a3])], true, false⟩, ⟨[(67, .agg [.int .i64 x3, .int .i64 x4, .int .i64 x5]), (69, .rw 3 0 1 1 (some 1))], [(3, some [.int .i64 a3])], .agg [.int .i64 x10, .int .i64 x11, .int .i64 x12], [], true, false⟩, ⟨[(5, .ptr 2 0)], [(2, some [.int .i64 x3, .int .i64 x4, .int .i64 x5])], .agg [.int .i64 x3, .int .i64 x4, .int .i64 x5], [], true, false⟩, ⟨[(70, .agg [.int .i64 x10, .int .i64 x11, .int .i64 x12]), (71, .agg [.int .i64 x3, .int .i64 x4, .int .i64 x5])], [], .bool (((x10 : Int) == x3) && (((x11 : Int) == x4) && (((x12 : Int) == x5) && true))), [], true, false⟩, ⟨[(66, .bool true), (72, .bool (((x10 : Int) == x3) && (((x11 : Int) == x4) && (((x12 : Int) == x5) && true))))], [], .bool (((x10 : Int) == x3) && (((x11 : Int) == x4) && (((x12 : Int) == x5) && true))), [], true, false⟩, ⟨[(73, .bool (((x10 : Int) == x3) && (((x11 : Int) == x4) && (((x12 : Int) == x5) && true))))], [], .bool (((x10 : Int) == x3) && (((x11 : Int) == x4) && (((x12 : Int) == x5) && true))), [], true, false⟩] [4] [(4, .bool (((x10 : Int) == x3) && (((x11 : Int) == x4) && (((x12 : Int) == x5) && true))))] [(2, some [.int .i64 x3, .int .i64 x4, .int .i64 x5]), (3, some [.int .i64 a3])] (.x 3 rfl (by kernel_rfl) (.xb h14 (by kernel_rfl) rfl (.x 3 rfl (by kernel_rfl) (.x 3 rfl (by kernel_rfl) (.x 3 rfl (by kernel_rfl) (.x 3 rfl (by kernel_rfl) (.xb h15 (by kernel_rfl) rfl (.x 3 rfl (by kernel_rfl) (.x 3 rfl (by kernel_rfl) (.x 3 rfl (by kernel_rfl) (.x 3 rfl (by kernel_rfl) (.x 3 rfl (by kernel_rfl) (.x 3 rfl (by kernel_rfl) (.o (AOp_callB En_ok Tryd.call9 (caps := []) (xs := [.agg [.int .i64 x3, .int .i64 x4, .int .i64 x5], .rw 3 0 1 1 (some 1)]) (by exact rfl) (by exact rfl) (.cons (.pure (by exact rfl)) (.cons (Out.fl (by exact rfl) (by exact rfl) (by exact rfl) (by exact rfl)) .nil)) (pen_Apply_ok h16) (by exact rfl)) (.x 4 rfl (by kernel_rfl) (.x 4 rfl (by kernel_rfl) (.x 4 rfl (by kernel_rfl) (.x 4 rfl (by kernel_rfl) .nil)))))))))))))))))) (by kernel_rfl) (by kernel_rfl) (by kernel_rfl) (by kernel_rfl) (by kernel_rfl) (by kernel_rfl) ?_
                      refine athen_n ?_
                      refine AW_ret ?_
                      obtain rfl := Option.some.inj h51
                      refine RetsW.mk [(4, .bool (((x10 : Int) == x3) && (((x11 : Int) == x4) && (((x12 : Int) == x5) && true))))] [] (Weak.ren [] [] (.cons rfl (.pure rfl) .nil) .nil (by kernel_rfl) (fun _ h => h.elim) En_ok) (rets1 (x := .bool (((x10 : Int) == x3) && (((x11 : Int) == x4) && (((x12 : Int) == x5) && true)))) (.inl rfl) (by kernel_rfl) (.pure rfl))
                  · have h52 := bif_t rfl h47
                    obtain ⟨⟨x13, x14, x15⟩, h17, h53⟩ := bind_some h52
                    refine AW_drawK En_mixed [⟨[(6, .int .i64 x8)], [], .int .i64 x8, [], true, false⟩, ⟨[(57, .int .i64 x8)], [], .bool true, [], true, false⟩, ⟨[(58, .bool true)], [], .bool true, [], true, false⟩, ⟨[(7, .bool true)], [], .bool true, [], true, false⟩, ⟨[(60, .bool true)], [], .bool true, [], true, false⟩, ⟨[], [], .dead, [], false, false⟩, ⟨[], [], .dead, [], false, false⟩, ⟨[(61, .bool true), (63, .dead)], [], .bool true, [], true, false⟩, ⟨[(59, .bool true), (64, .bool true)], [], .bool true, [], true, false⟩, ⟨[(65, .bool true)], [], .bool true, [], true, false⟩, ⟨[(5, .ptr 2 0)], [(2, some [.int .i64 x3, .int .i64 x4, .int .i64 x5])], .agg [.int .i64 x3, .int .i64 x4, .int .i64 x5], [], true, false⟩, ⟨[(1, .int .i64 a3)], [], .int .i64 a3, [], true, false⟩, ⟨[(68, .int .i64 a3)], [], .rw 3 0 1 1 (some 1), [(3, some [.int .i64 a3])], true, false⟩, ⟨[(67, .agg [.int .i64 x3, .int .i64 x4, .int .i64 x5]), (69, .rw 3 0 1 1 (some 1))], [(3, some [.int .i64 a3])], .agg [.int .i64 x13, .int .i64 x14, .int .i64 x15], [], true, false⟩, ⟨[(5, .ptr 2 0)], [(2, some [.int .i64 x3, .int .i64 x4, .int .i64 x5])], .agg [.int .i64 x3, .int .i64 x4, .int .i64 x5], [], true, false⟩, ⟨[(70, .agg [.int .i64 x13, .int .i64 x14, .int .i64 x15]), (71, .agg [.int .i64 x3, .int .i64 x4, .int .i64 x5])], [], .bool (((x13 : Int) == x3) && (((x14 : Int) == x4) && (((x15 : Int) == x5) && true))), [], true, false⟩, ⟨[(66, .bool true), (72, .bool (((x13 : Int) == x3) && (((x14 : Int) == x4) && (((x15 : Int) == x5) && true))))], [], .bool (((x13 : Int) == x3) && (((x14 : Int) == x4) && (((x15 : Int) == x5) && true))), [], true, false⟩, ⟨[(73, .bool (((x13 : Int) == x3) && (((x14 : Int) == x4) && (((x15 : Int) == x5) && true))))], [], .bool (((x13 : Int) == x3) && (((x14 : Int) == x4) && (((x15 : Int) == x5) && true))), [], true, false⟩] [4] [(4, .bool (((x13 : Int) == x3) && (((x14 : Int) == x4) && (((x15 : Int) == x5) && true))))] [(2, some [.int .i64 x3, .int .i64 x4, .int .i64 x5]), (3, some [.int .i64 a3])] (.x 3 rfl (by kernel_rfl) (.xb h14 (by kernel_rfl) rfl (.x 3 rfl (by kernel_rfl) (.x 3 rfl (by kernel_rfl) (.x 3 rfl (by kernel_rfl) (.skip rfl (.skip rfl (.x 3 rfl (by kernel_rfl) (.x 3 rfl (by kernel_rfl) (.x 3 rfl (by kernel_rfl) (.x 3 rfl (by kernel_rfl) (.x 3 rfl (by kernel_rfl) (.x 3 rfl (by kernel_rfl) (.o (AOp_callB En_ok Tryd.call9 (caps := []) (xs := [.agg [.int .i64 x3, .int .i64 x4, .int .i64 x5], .rw 3 0 1 1 (some 1)]) (by exact rfl) (by exact rfl) (.cons (.pure (by exact rfl)) (.cons (Out.fl (by exact rfl) (by exact rfl) (by exact rfl) (by exact rfl)) .nil)) (pen_Apply_ok h17) (by exact rfl)) (.x 4 rfl (by kernel_rfl) (.x 4 rfl (by kernel_rfl) (.x 4 rfl (by kernel_rfl) (.x 4 rfl (by kernel_rfl) .nil)))))))))))))))))) (by kernel_rfl) (by kernel_rfl) (by kernel_rfl) (by kernel_rfl) (by kernel_rfl) (by kernel_rfl) ?_
                    refine athen_n ?_
                    refine AW_ret ?_
                    obtain rfl := Option.some.inj h53
                    refine RetsW.mk [(4, .bool (((x13 : Int) == x3) && (((x14 : Int) == x4) && (((x15 : Int) == x5) && true))))] [] (Weak.ren [] [] (.cons rfl (.pure rfl) .nil) .nil (by kernel_rfl) (fun _ h => h.elim) En_ok) (rets1 (x := .bool (((x13 : Int) == x3) && (((x14 : Int) == x4) && (((x15 : Int) == x5) && true)))) (.inl rfl) (by kernel_rfl) (.pure rfl))
            · have h54 := bif_t h9 h33
              refine AW_condT rfl ?_
              refine AW_seq ?_
              refine AW_region ?_
              refine AWl_xrun 4 _ _ _ [(4, .bool (((x3 : Int) == 0) && (((x4 : Int) == 0) && (((x5 : Int) == 0) && true)))), (42, .bool (((x3 : Int) == 0) && (((x4 : Int) == 0) && (((x5 : Int) == 0) && true)))), (41, .agg [.int .i64 0, .int .i64 0, .int .i64 0]), (40, .agg [.int .i64 x3, .int .i64 x4, .int .i64 x5]), (39, .bool true), (6, .int .i64 x8), (5, .ptr 2 0), (1, .int .i64 a3)] [(2, some [.int .i64 x3, .int .i64 x4, .int .i64 x5])] (by kernel_rfl) ?_
              refine AWl_nilK [4] [(4, .bool (((x3 : Int) == 0) && (((x4 : Int) == 0) && (((x5 : Int) == 0) && true))))] (by kernel_rfl) ?_
              refine athen_n ?_
              refine AW_ret ?_
              refine athen_ret ?_
              obtain rfl := Option.some.inj h54
              refine RetsW.mk [(4, .bool (((x3 : Int) == 0) && (((x4 : Int) == 0) && (((x5 : Int) == 0) && true))))] [] (Weak.ren [] [] (.cons rfl (.pure rfl) .nil) .nil (by kernel_rfl) (fun _ h => h.elim) En_ok) (rets1 (x := .bool (((x3 : Int) == 0) && (((x4 : Int) == 0) && (((x5 : Int) == 0) && true)))) (.inl rfl) (by kernel_rfl) (.pure rfl))
    · have h55 := bif_t h4 h24
      refine AW_condT rfl ?_
      refine AW_seq ?_
      refine AW_region ?_
      refine AWl_xrun 1 _ _ _ [(4, .bool true), (12, .bool true), (2, .ptr 0 0), (1, .int .i64 a3)] [(0, some [.int .i64 a0, .int .i64 a1, .int .i64 a2])] (by kernel_rfl) ?_
      refine AWl_nilK [4] [(4, .bool true)] (by kernel_rfl) ?_
      refine athen_n ?_
      refine AW_ret ?_
      refine athen_ret ?_
      obtain rfl := Option.some.inj h55
      refine RetsW.mk [(4, .bool true)] [] (Weak.ren [] [] (.cons rfl (.pure rfl) .nil) .nil (by kernel_rfl) (fun _ h => h.elim) En_ok) (rets1 (x := .bool true) (.inl rfl) (by kernel_rfl) (.pure rfl))
  · have h56 := bif_t h2 h22
    refine AW_condT rfl ?_
    refine AW_seq ?_
    refine AW_region ?_
    refine AWl_xrun 1 _ _ _ [(4, .bool false), (9, .bool true), (2, .ptr 0 0), (1, .int .i64 a3)] [(0, some [.int .i64 a0, .int .i64 a1, .int .i64 a2])] (by kernel_rfl) ?_
    refine AWl_nilK [4] [(4, .bool false)] (by kernel_rfl) ?_
    refine athen_n ?_
    refine AW_ret ?_
    refine athen_ret ?_
    obtain rfl := Option.some.inj h56
    refine RetsW.mk [(4, .bool false)] [] (Weak.ren [] [] (.cons rfl (.pure rfl) .nil) .nil (by kernel_rfl) (fun _ h => h.elim) En_ok) (rets1 (x := .bool false) (.inl rfl) (by kernel_rfl) (.pure rfl))
end Go.SH
