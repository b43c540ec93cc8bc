/- Twins of functions, and that the code does what they say: written by gen.py. -/
import Derived.Test.YtlickgoakjldoaaDoorPenTw3
set_option linter.unusedVariables false
set_option linter.unusedSimpArgs false
namespace Go.SH
open Go.Proofs
noncomputable def orielref12_Apply_loop3 (x75 : Int) (x86 : Int) (x87 : Int) : Option (Int ⊕ (Int × Int)) :=
    bif (decide (x86 < 8)) then
      (((orielref12_bits x86).bind fun (x88, x89) =>
        req (0 ≤ (IntKind.u64.wrap x86)) (
        ((bif ((x75 : Int) == x89) then
              (req ((IntKind.i64.wrap (1 * 2 ^ (min (IntKind.u64.wrap x86).toNat 64))) ≠ 0) (
              some (((Int.tmod (IntKind.i64.wrap (Int.tdiv x87 (IntKind.i64.wrap (1 * 2 ^ (min (IntKind.u64.wrap x86).toNat 64))))) 2) : Int) == 0)))
            else
              (some false) : Option (Bool)).bind fun x90 =>
          bif x90 then
            (some (IntKind.i64.wrap (x87 + (IntKind.i64.wrap (1 * 2 ^ (min (IntKind.u64.wrap x86).toNat 64))))))
          else
            (some x87) : Option (Int)).bind fun x92 =>
        (bif ((x75 : Int) == x88) then
            (req ((IntKind.i64.wrap (1 * 2 ^ (min (IntKind.u64.wrap x86).toNat 64))) ≠ 0) (
            some (((Int.tmod (IntKind.i64.wrap (Int.tdiv x92 (IntKind.i64.wrap (1 * 2 ^ (min (IntKind.u64.wrap x86).toNat 64))))) 2) : Int) == 1)))
          else
            (some false) : Option (Bool)).bind fun x93 =>
        bif x93 then
          (some (IntKind.i64.wrap (x92 - (IntKind.i64.wrap (1 * 2 ^ (min (IntKind.u64.wrap x86).toNat 64))))))
        else
          (some x92)) : Option (Int)).bind fun x96 =>
      some (.inr (IntKind.i64.wrap (x86 + 1), x96)))
    else
      (some (.inl x87))
noncomputable def orielref12_Apply_loop1 (a3 : List Int) (x71 : Int) (x72 : Int) (x73 : Int) (x74 : Int) : Option (((Int × Int × Int) ⊕ (Int × Int × Int)) ⊕ (Int × Int × Int × Int)) :=
    bif (decide (x71 < (a3.length : Int))) then
      ((getI a3 x71).bind fun x75 =>
      bif ((x75 : Int) == 0) then
        (some (.inr (IntKind.i64.wrap (x71 + 1), 0, 0, 0)))
      else
        ((loopO (fun z => match z with | (x86, x87) => orielref12_Apply_loop3 x75 x86 x87) (0, x72)).bind fun x100 =>
        ((bif (decide (x75 ≥ 30)) then
              (some (decide (x75 ≤ 37)))
            else
              (some false) : Option (Bool)).bind fun x101 =>
          bif x101 then
            (some (.inl (false, IntKind.i64.wrap ((IntKind.i64.wrap (x75 - 30)) + 1), IntKind.i64.wrap (x71 + 1))))
          else
            ((bif (decide (x75 ≥ 90)) then
                (some (decide (x75 ≤ 97)))
              else
                (some false) : Option (Bool)).bind fun x102 =>
            bif x102 then
              (some (.inl (false, IntKind.i64.wrap ((IntKind.i64.wrap (x75 - 90)) + 9), IntKind.i64.wrap (x71 + 1))))
            else
              (bif ((x75 : Int) == 39) then
                (some (.inl (false, 0, IntKind.i64.wrap (x71 + 1))))
              else
                ((bif (decide (x75 ≥ 40)) then
                    (some (decide (x75 ≤ 47)))
                  else
                    (some false) : Option (Bool)).bind fun x103 =>
                bif x103 then
                  (some (.inl (true, IntKind.i64.wrap ((IntKind.i64.wrap (x75 - 40)) + 1), IntKind.i64.wrap (x71 + 1))))
                else
                  ((bif (decide (x75 ≥ 100)) then
                      (some (decide (x75 ≤ 107)))
                    else
                      (some false) : Option (Bool)).bind fun x104 =>
                  bif x104 then
                    (some (.inl (true, IntKind.i64.wrap ((IntKind.i64.wrap (x75 - 100)) + 9), IntKind.i64.wrap (x71 + 1))))
                  else
                    (bif ((x75 : Int) == 49) then
                      (some (.inl (true, 0, IntKind.i64.wrap (x71 + 1))))
                    else
                      ((bif ((x75 : Int) == 38) then
                          (some true)
                        else
                          (some ((x75 : Int) == 48)) : Option (Bool)).bind fun x105 =>
                      bif x105 then
                        (req (0 ≤ (IntKind.i64.wrap (x71 + 1)) ∧ (IntKind.i64.wrap (x71 + 1)).toNat ≤ a3.length ∧ a3.length ≤ a3.length) (
                        (bif (decide (((sub a3 ((IntKind.i64.wrap (x71 + 1)).toNat) a3.length).length : Int) > 1)) then
                            ((getI (sub a3 ((IntKind.i64.wrap (x71 + 1)).toNat) a3.length) 0).bind fun x106 =>
                            bif ((x106 : Int) == 5) then
                              ((getI (sub a3 ((IntKind.i64.wrap (x71 + 1)).toNat) a3.length) 1).bind fun x107 =>
                              (orielref12_byteLike x107).bind fun x108 =>
                              some x108)
                            else
                              (some false))
                          else
                            (some false) : Option (Bool)).bind fun x109 =>
                        bif x109 then
                          ((getI (sub a3 ((IntKind.i64.wrap (x71 + 1)).toNat) a3.length) 1).bind fun x122 =>
                          some (.inl (((x75 : Int) == 48), IntKind.i64.wrap (x122 + 1), IntKind.i64.wrap ((IntKind.i64.wrap (x71 + 1)) + 2))))
                        else
                          ((bif (decide (((sub a3 ((IntKind.i64.wrap (x71 + 1)).toNat) a3.length).length : Int) > 3)) then
                              ((getI (sub a3 ((IntKind.i64.wrap (x71 + 1)).toNat) a3.length) 0).bind fun x110 =>
                              bif ((x110 : Int) == 2) then
                                ((getI (sub a3 ((IntKind.i64.wrap (x71 + 1)).toNat) a3.length) 1).bind fun x111 =>
                                (orielref12_byteLike x111).bind fun x112 =>
                                bif x112 then
                                  ((getI (sub a3 ((IntKind.i64.wrap (x71 + 1)).toNat) a3.length) 2).bind fun x113 =>
                                  (orielref12_byteLike x113).bind fun x114 =>
                                  bif x114 then
                                    ((getI (sub a3 ((IntKind.i64.wrap (x71 + 1)).toNat) a3.length) 3).bind fun x115 =>
                                    (orielref12_byteLike x115).bind fun x116 =>
                                    some x116)
                                  else
                                    (some false))
                                else
                                  (some false))
                              else
                                (some false))
                            else
                              (some false) : Option (Bool)).bind fun x117 =>
                          bif x117 then
                            ((getI (sub a3 ((IntKind.i64.wrap (x71 + 1)).toNat) a3.length) 1).bind fun x118 =>
                            (getI (sub a3 ((IntKind.i64.wrap (x71 + 1)).toNat) a3.length) 2).bind fun x119 =>
                            (getI (sub a3 ((IntKind.i64.wrap (x71 + 1)).toNat) a3.length) 3).bind fun x120 =>
                            some (.inl (((x75 : Int) == 48), IntKind.i64.wrap ((IntKind.i64.wrap ((IntKind.i64.wrap ((IntKind.i64.wrap (16 + (IntKind.i64.wrap (36 * (IntKind.i64.wrap (Int.tdiv (IntKind.i64.wrap (6 * x118)) 256)))))) + (IntKind.i64.wrap (6 * (IntKind.i64.wrap (Int.tdiv (IntKind.i64.wrap (6 * x119)) 256)))))) + (IntKind.i64.wrap (Int.tdiv (IntKind.i64.wrap (6 * x120)) 256)))) + 1), IntKind.i64.wrap ((IntKind.i64.wrap (x71 + 1)) + 4))))
                          else
                            (Option.map Sum.inr (some (.inl (.inr (x100, x73, x74))))))))
                      else
                        (some (.inl (false, (-1), IntKind.i64.wrap (x71 + 1)))))))))) : Option ((Bool × Int × Int) ⊕ _)).bind fun z => match z with
        | .inr z => some z
        | .inl (x129, x130, x131) =>
        ((bif (decide (x130 ≥ 0)) then
              (some x129)
            else
              (some false) : Option (Bool)).bind fun x132 =>
          bif x132 then
            (some x130)
          else
            (some x74) : Option (Int)).bind fun x134 =>
        (bif (decide (x130 ≥ 0)) then
            (some (!x129))
          else
            (some false) : Option (Bool)).bind fun x135 =>
        bif x135 then
          (some (.inr (x131, x100, x130, x134)))
        else
          (some (.inr (x131, x100, x73, x134)))))
    else
      (some (.inl (.inl (x72, x73, x74))))
noncomputable def orielref12_Apply (a0 : Int) (a1 : Int) (a2 : Int) (a3 : List Int) : Option (Int × Int × Int) :=
  (((orielref12_May a0 a1 a2).bind fun x1 =>
      bif (!x1) then
        (some true)
      else
        (some (((a3.length : Int) : Int) == 0)) : Option (Bool)).bind fun x2 =>
    bif x2 then
      (some (0, 0, 0))
    else
      (some (a0, a1, a2)) : Option (Int × Int × Int)).bind fun (x4, x5, x6) =>
  (loopO (fun z => match z with | (x71, x72, x73, x74) => orielref12_Apply_loop1 a3 x71 x72 x73 x74) (0, x4, x5, x6)).bind fun z => match z with
  | (.inl (x143, x144, x145)) =>
    some (x143, x144, x145)
  | (.inr (x146, x147, x148)) =>
    some (x146, x147, x148)
theorem orielref12_Apply_ok {a0 : Int} {a1 : Int} {a2 : Int} {a3 : List Int} {x151 : Int} {x152 : Int} {x153 : Int} (h : orielref12_Apply a0 a1 a2 a3 = some (x151, x152, x153)) : Pure En 10 [.agg [.int .i64 a0, .int .i64 a1, .int .i64 a2], .ro (fl (eI .i64) a3) a3.length none] (.agg [.int .i64 x151, .int .i64 x152, .int .i64 x153]) := by
  unfold orielref12_Apply at h
  refine ACalls_pureW En_ok (fn := Tryd.f10) Tryd.func10 rfl (by simp [Tryd.ntmps10]) ?_
  refine AW_seq ?_
  refine AW_region ?_
  refine AWl_xrun 2 _ _ _ [(4, .ptr 1 0), (2, .ptr 0 0), (0, .agg [.int .i64 a0, .int .i64 a1, .int .i64 a2]), (1, .ro (fl (eI .i64) a3) a3.length none)] [(0, some [.int .i64 a0, .int .i64 a1, .int .i64 a2]), (1, some [.int .i64 0, .int .i64 0, .int .i64 0])] (by kernel_rfl) ?_
  refine AWl_nilK [4, 2, 1] [(4, .ptr 1 0), (2, .ptr 0 0), (1, .ro (fl (eI .i64) a3) a3.length none)] (by kernel_rfl) ?_
  refine athen_n ?_
  obtain ⟨⟨x4, x5, x6⟩, h158, h159⟩ := bind_some h
  refine AW_meetN (fun z => match z with | (x4, x5, x6) => [(4, .ptr 1 0), (2, .ptr 0 0), (1, .ro (fl (eI .i64) a3) a3.length none)]) (fun z => match z with | (x4, x5, x6) => [(1, some [.int .i64 0, .int .i64 0, .int .i64 0]), (0, some [.int .i64 x4, .int .i64 x5, .int .i64 x6])]) (x4, x5, x6) ?_ ?_
  · skip
    obtain ⟨x2, h4, h160⟩ := bind_some h158
    refine AW_meetN (fun x2 => [(24, .bool x2), (4, .ptr 1 0), (2, .ptr 0 0), (1, .ro (fl (eI .i64) a3) a3.length none)]) (fun x2 => [(1, some [.int .i64 0, .int .i64 0, .int .i64 0]), (0, some [.int .i64 a0, .int .i64 a1, .int .i64 a2])]) x2 ?_ ?_
    · skip
      refine AW_region ?_
      refine AWl_xrun 1 _ _ _ [(17, .agg [.int .i64 a0, .int .i64 a1, .int .i64 a2]), (4, .ptr 1 0), (2, .ptr 0 0), (1, .ro (fl (eI .i64) a3) a3.length none)] [(0, some [.int .i64 a0, .int .i64 a1, .int .i64 a2]), (1, some [.int .i64 0, .int .i64 0, .int .i64 0])] (by kernel_rfl) ?_
      obtain ⟨x1, h1, h161⟩ := bind_some h4
      refine AWl_o (x := .bool x1) (wl := []) (AOp_callP En_ok Tryd.call12 (caps := []) (xs := [.agg [.int .i64 a0, .int .i64 a1, .int .i64 a2]]) rfl rfl (orielref12_May_ok h1) rfl) (by kernel_rfl) (by kernel_rfl) (by kernel_rfl) ?_
      refine AWl_xrun 2 _ _ _ [(20, .bool (!x1)), (19, .bool (!x1)), (18, .bool x1), (17, .agg [.int .i64 a0, .int .i64 a1, .int .i64 a2]), (4, .ptr 1 0), (2, .ptr 0 0), (1, .ro (fl (eI .i64) a3) a3.length none)] [(0, some [.int .i64 a0, .int .i64 a1, .int .i64 a2]), (1, some [.int .i64 0, .int .i64 0, .int .i64 0])] (by kernel_rfl) ?_
      cases h2 : (!x1)
      · have h162 := bif_f h2 h161
        refine AWl_xrun 4 _ _ _ [(24, .bool (((a3.length : Int) : Int) == 0)), (23, .bool (((a3.length : Int) : Int) == 0)), (22, .int .i64 (a3.length : Int)), (21, .ro (fl (eI .i64) a3) a3.length none), (20, .bool false), (19, .bool false), (18, .bool x1), (17, .agg [.int .i64 a0, .int .i64 a1, .int .i64 a2]), (4, .ptr 1 0), (2, .ptr 0 0), (1, .ro (fl (eI .i64) a3) a3.length none)] [(0, some [.int .i64 a0, .int .i64 a1, .int .i64 a2]), (1, some [.int .i64 0, .int .i64 0, .int .i64 0])] (by kernel_rfl) ?_
        refine AWl_nilK [24, 4, 2, 1] [(24, .bool (((a3.length : Int) : Int) == 0)), (4, .ptr 1 0), (2, .ptr 0 0), (1, .ro (fl (eI .i64) a3) a3.length none)] (by kernel_rfl) ?_
        obtain rfl := Option.some.inj h162
        refine Tgt.mk (Weak.ren [] [] (.cons rfl (.pure rfl) (.cons rfl (.ptr (l := 1) (l' := 1) rfl rfl) (.cons rfl (.ptr (l := 0) (l' := 0) rfl rfl) (.cons rfl (.pure (by simp [pureV, within, withinL, fl_pure])) .nil)))) (.cons rfl (.pure rfl) (.cons rfl (.pure rfl) .nil)) (by kernel_rfl) (fun _ h => h.elim) En_ok)
      · have h163 := bif_t h2 h161
        refine AWl_xrun 4 _ _ _ [(24, .bool true), (23, .dead), (22, .dead), (21, .dead), (20, .bool true), (19, .bool true), (18, .bool x1), (17, .agg [.int .i64 a0, .int .i64 a1, .int .i64 a2]), (4, .ptr 1 0), (2, .ptr 0 0), (1, .ro (fl (eI .i64) a3) a3.length none)] [(0, some [.int .i64 a0, .int .i64 a1, .int .i64 a2]), (1, some [.int .i64 0, .int .i64 0, .int .i64 0])] (by kernel_rfl) ?_
        refine AWl_nilK [24, 4, 2, 1] [(24, .bool true), (4, .ptr 1 0), (2, .ptr 0 0), (1, .ro (fl (eI .i64) a3) a3.length none)] (by kernel_rfl) ?_
        obtain rfl := Option.some.inj h163
        refine Tgt.mk (Weak.ren [] [] (.cons rfl (.pure rfl) (.cons rfl (.ptr (l := 1) (l' := 1) rfl rfl) (.cons rfl (.ptr (l := 0) (l' := 0) rfl rfl) (.cons rfl (.pure (by simp [pureV, within, withinL, fl_pure])) .nil)))) (.cons rfl (.pure rfl) (.cons rfl (.pure rfl) .nil)) (by kernel_rfl) (fun _ h => h.elim) En_ok)
    · skip
      cases h3 : x2
      · have h164 := bif_f h3 h160
        refine AW_condF rfl ?_
        refine AW_skip ?_
        obtain ⟨rfl, h165⟩ := Prod.mk.inj (Option.some.inj h164)
        obtain ⟨rfl, rfl⟩ := Prod.mk.inj (h165)
        refine Tgt.mk (Weak.ren [] [] (.cons rfl (.ptr (l := 1) (l' := 1) rfl rfl) (.cons rfl (.ptr (l := 0) (l' := 0) rfl rfl) (.cons rfl (.pure (by simp [pureV, within, withinL, fl_pure])) .nil))) (.cons rfl (.pure rfl) (.cons rfl (.pure rfl) .nil)) (by kernel_rfl) (fun _ h => h.elim) En_ok)
      · have h166 := bif_t h3 h160
        refine AW_condT rfl ?_
        refine AW_region ?_
        refine AWl_xrun 2 _ _ _ [(25, .agg [.int .i64 0, .int .i64 0, .int .i64 0]), (24, .bool true), (4, .ptr 1 0), (2, .ptr 0 0), (1, .ro (fl (eI .i64) a3) a3.length none)] [(1, some [.int .i64 0, .int .i64 0, .int .i64 0]), (0, some [.int .i64 0, .int .i64 0, .int .i64 0])] (by kernel_rfl) ?_
        refine AWl_nilK [4, 2, 1] [(4, .ptr 1 0), (2, .ptr 0 0), (1, .ro (fl (eI .i64) a3) a3.length none)] (by kernel_rfl) ?_
        obtain ⟨rfl, h167⟩ := Prod.mk.inj (Option.some.inj h166)
        obtain ⟨rfl, rfl⟩ := Prod.mk.inj (h167)
        refine Tgt.mk (Weak.ren [] [] (.cons rfl (.ptr (l := 1) (l' := 1) rfl rfl) (.cons rfl (.ptr (l := 0) (l' := 0) rfl rfl) (.cons rfl (.pure (by simp [pureV, within, withinL, fl_pure])) .nil))) (.cons rfl (.pure rfl) (.cons rfl (.pure rfl) .nil)) (by kernel_rfl) (fun _ h => h.elim) En_ok)
  · skip
    refine AW_seq ?_
    refine AW_region ?_
    refine AWl_xrun 1 _ _ _ [(5, .int .i64 0), (4, .ptr 1 0), (2, .ptr 0 0), (1, .ro (fl (eI .i64) a3) a3.length none)] [(1, some [.int .i64 0, .int .i64 0, .int .i64 0]), (0, some [.int .i64 x4, .int .i64 x5, .int .i64 x6])] (by kernel_rfl) ?_
    refine AWl_nilK [5, 4, 2, 1] [(5, .int .i64 0), (4, .ptr 1 0), (2, .ptr 0 0), (1, .ro (fl (eI .i64) a3) a3.length none)] (by kernel_rfl) ?_
    refine athen_n ?_
    refine AW_seq ?_
    refine AW_block ?_
    obtain ⟨x149, h157, h168⟩ := bind_some h159
    refine AW_loopM _ (fun z => match z with | (x71, x72, x73, x74) => [(5, .int .i64 x71), (4, .ptr 1 0), (2, .ptr 0 0), (1, .ro (fl (eI .i64) a3) a3.length none)]) (fun z => match z with | (x71, x72, x73, x74) => [(1, some [.int .i64 0, .int .i64 0, .int .i64 0]), (0, some [.int .i64 x72, .int .i64 x73, .int .i64 x74])]) (fun z e al L => match z with | (.inl (x143, x144, x145)) => Tgt En (fun _ => False) (.exit 0) [(4, .ptr 1 0), (2, .ptr 0 0)] [(1, some [.int .i64 0, .int .i64 0, .int .i64 0]), (0, some [.int .i64 x143, .int .i64 x144, .int .i64 x145])] e al L | (.inr (x146, x147, x148)) => Tgt En (fun _ => False) .ret [(4, .ptr 1 0)] [(1, some [.int .i64 x146, .int .i64 x147, .int .i64 x148])] e al L) h157 (Weak.ren [] [] (.cons rfl (.pure rfl) (.cons rfl (.ptr (l := 1) (l' := 1) rfl rfl) (.cons rfl (.ptr (l := 0) (l' := 0) rfl rfl) (.cons rfl (.pure (by simp [pureV, within, withinL, fl_pure])) .nil)))) (.cons rfl (.pure rfl) (.cons rfl (.pure rfl) .nil)) (by kernel_rfl) (fun _ h => h.elim) En_ok) ?_ ?_
    · rintro ⟨x71, x72, x73, x74⟩ x154 h169
      have h170 : orielref12_Apply_loop1 a3 x71 x72 x73 x74 = some _ := h169
      unfold orielref12_Apply_loop1 at h170
      refine AW_seq ?_
      refine AW_seq ?_
      refine AW_region ?_
      refine AWl_xrun 4 _ _ _ [(29, .bool (decide (x71 < (a3.length : Int)))), (28, .int .i64 (a3.length : Int)), (27, .ro (fl (eI .i64) a3) a3.length none), (26, .int .i64 x71), (5, .int .i64 x71), (4, .ptr 1 0), (2, .ptr 0 0), (1, .ro (fl (eI .i64) a3) a3.length none)] [(1, some [.int .i64 0, .int .i64 0, .int .i64 0]), (0, some [.int .i64 x72, .int .i64 x73, .int .i64 x74])] (by kernel_rfl) ?_
      refine AWl_nilK [29, 5, 4, 2, 1] [(29, .bool (decide (x71 < (a3.length : Int)))), (5, .int .i64 x71), (4, .ptr 1 0), (2, .ptr 0 0), (1, .ro (fl (eI .i64) a3) a3.length none)] (by kernel_rfl) ?_
      refine athen_n ?_
      cases h81 : (decide (x71 < (a3.length : Int)))
      · have h171 := bif_f h81 h170
        refine AW_condF rfl ?_
        refine AW_exit ?_
        refine athen_exit ?_
        obtain rfl := Option.some.inj h171
        refine Round.off (by simp) (Tgt.mk (Weak.ren [] [] (.cons rfl (.ptr (l := 1) (l' := 1) rfl rfl) (.cons rfl (.ptr (l := 0) (l' := 0) rfl rfl) .nil)) (.cons rfl (.pure rfl) (.cons rfl (.pure rfl) .nil)) (by kernel_rfl) (fun _ h => h.elim) En_ok))
      · have h172 := bif_t h81 h170
        refine AW_condT rfl ?_
        refine AW_skip ?_
        refine athen_n ?_
        refine AW_block ?_
        refine AW_seq ?_
        refine AW_region ?_
        refine AWl_xrun 2 _ _ _ [(31, .int .i64 x71), (30, .ro (fl (eI .i64) a3) a3.length none), (29, .bool true), (5, .int .i64 x71), (4, .ptr 1 0), (2, .ptr 0 0), (1, .ro (fl (eI .i64) a3) a3.length none)] [(1, some [.int .i64 0, .int .i64 0, .int .i64 0]), (0, some [.int .i64 x72, .int .i64 x73, .int .i64 x74])] (by kernel_rfl) ?_
        obtain ⟨x75, h82, h173⟩ := bind_some h172
        refine AWl_o (x := .rop (fl (eI .i64) a3) (x71.toNat * 1)) (wl := []) (AOp_idxRo (e := (eI .i64)) (l := a3) 1 rfl rfl rfl rfl rfl rfl h82) (by kernel_rfl) (by kernel_rfl) (by kernel_rfl) ?_
        refine AWl_o (x := .int .i64 x75) (wl := []) (AOp_loadEl (e := (eI .i64)) (l := a3) (i := x71) 0 1 1 rfl rfl rfl rfl rfl h82 rfl (by kernel_rfl) (by kernel_rfl)) (by kernel_rfl) (by kernel_rfl) (by kernel_rfl) ?_
        refine AWl_xrun 1 _ _ _ [(6, .int .i64 x75), (33, .int .i64 x75), (32, .rop (fl (eI .i64) a3) (x71.toNat * 1)), (31, .int .i64 x71), (30, .ro (fl (eI .i64) a3) a3.length none), (29, .bool true), (5, .int .i64 x71), (4, .ptr 1 0), (2, .ptr 0 0), (1, .ro (fl (eI .i64) a3) a3.length none)] [(1, some [.int .i64 0, .int .i64 0, .int .i64 0]), (0, some [.int .i64 x72, .int .i64 x73, .int .i64 x74])] (by kernel_rfl) ?_
        refine AWl_nilK [6, 5, 4, 2, 1] [(6, .int .i64 x75), (5, .int .i64 x71), (4, .ptr 1 0), (2, .ptr 0 0), (1, .ro (fl (eI .i64) a3) a3.length none)] (by kernel_rfl) ?_
        refine athen_n ?_
        refine AW_seq ?_
        refine AW_region ?_
        refine AWl_xrun 3 _ _ _ [(5, .int .i64 (IntKind.i64.wrap (x71 + 1))), (35, .int .i64 (IntKind.i64.wrap (x71 + 1))), (34, .int .i64 x71), (6, .int .i64 x75), (5, .int .i64 x71), (4, .ptr 1 0), (2, .ptr 0 0), (1, .ro (fl (eI .i64) a3) a3.length none)] [(1, some [.int .i64 0, .int .i64 0, .int .i64 0]), (0, some [.int .i64 x72, .int .i64 x73, .int .i64 x74])] (by kernel_rfl) ?_
        refine AWl_nilK [5, 6, 4, 2, 1] [(5, .int .i64 (IntKind.i64.wrap (x71 + 1))), (6, .int .i64 x75), (4, .ptr 1 0), (2, .ptr 0 0), (1, .ro (fl (eI .i64) a3) a3.length none)] (by kernel_rfl) ?_
        refine athen_n ?_
        refine AW_seq ?_
        refine AW_seq ?_
        refine AW_region ?_
        refine AWl_xrun 2 _ _ _ [(37, .bool ((x75 : Int) == 0)), (36, .int .i64 x75), (5, .int .i64 (IntKind.i64.wrap (x71 + 1))), (6, .int .i64 x75), (4, .ptr 1 0), (2, .ptr 0 0), (1, .ro (fl (eI .i64) a3) a3.length none)] [(1, some [.int .i64 0, .int .i64 0, .int .i64 0]), (0, some [.int .i64 x72, .int .i64 x73, .int .i64 x74])] (by kernel_rfl) ?_
        refine AWl_nilK [37, 5, 6, 4, 2, 1] [(37, .bool ((x75 : Int) == 0)), (5, .int .i64 (IntKind.i64.wrap (x71 + 1))), (6, .int .i64 x75), (4, .ptr 1 0), (2, .ptr 0 0), (1, .ro (fl (eI .i64) a3) a3.length none)] (by kernel_rfl) ?_
        refine athen_n ?_
        cases h83 : ((x75 : Int) == 0)
        · have h174 := bif_f h83 h173
          refine AW_condF rfl ?_
          refine AW_skip ?_
          refine athen_n ?_
          refine AW_seq ?_
          refine AW_seq ?_
          refine AW_region ?_
          refine AWl_xrun 1 _ _ _ [(7, .int .i64 0), (37, .bool false), (5, .int .i64 (IntKind.i64.wrap (x71 + 1))), (6, .int .i64 x75), (4, .ptr 1 0), (2, .ptr 0 0), (1, .ro (fl (eI .i64) a3) a3.length none)] [(1, some [.int .i64 0, .int .i64 0, .int .i64 0]), (0, some [.int .i64 x72, .int .i64 x73, .int .i64 x74])] (by kernel_rfl) ?_
          refine AWl_nilK [7, 5, 6, 4, 2, 1] [(7, .int .i64 0), (5, .int .i64 (IntKind.i64.wrap (x71 + 1))), (6, .int .i64 x75), (4, .ptr 1 0), (2, .ptr 0 0), (1, .ro (fl (eI .i64) a3) a3.length none)] (by kernel_rfl) ?_
          refine athen_n ?_
          refine AW_block ?_
          obtain ⟨x100, h106, h175⟩ := bind_some h174
          refine AW_loopM _ (fun z => match z with | (x86, x87) => [(7, .int .i64 x86), (5, .int .i64 (IntKind.i64.wrap (x71 + 1))), (6, .int .i64 x75), (4, .ptr 1 0), (2, .ptr 0 0), (1, .ro (fl (eI .i64) a3) a3.length none)]) (fun z => match z with | (x86, x87) => [(1, some [.int .i64 0, .int .i64 0, .int .i64 0]), (0, some [.int .i64 x87, .int .i64 x73, .int .i64 x74])]) (fun z e al L => match z with | x100 => Tgt En (fun _ => False) (.exit 2) [(5, .int .i64 (IntKind.i64.wrap (x71 + 1))), (6, .int .i64 x75), (4, .ptr 1 0), (2, .ptr 0 0), (1, .ro (fl (eI .i64) a3) a3.length none)] [(1, some [.int .i64 0, .int .i64 0, .int .i64 0]), (0, some [.int .i64 x100, .int .i64 x73, .int .i64 x74])] e al L) h106 (Weak.ren [] [] (.cons rfl (.pure rfl) (.cons rfl (.pure rfl) (.cons rfl (.pure rfl) (.cons rfl (.ptr (l := 1) (l' := 1) rfl rfl) (.cons rfl (.ptr (l := 0) (l' := 0) rfl rfl) (.cons rfl (.pure (by simp [pureV, within, withinL, fl_pure])) .nil)))))) (.cons rfl (.pure rfl) (.cons rfl (.pure rfl) .nil)) (by kernel_rfl) (fun _ h => h.elim) En_ok) ?_ ?_
          · rintro ⟨x86, x87⟩ x155 h176
            have h177 : orielref12_Apply_loop3 x75 x86 x87 = some _ := h176
            unfold orielref12_Apply_loop3 at h177
            refine AW_seq ?_
            refine AW_seq ?_
            refine AW_region ?_
            refine AWl_xrun 2 _ _ _ [(40, .bool (decide (x86 < 8))), (39, .int .i64 x86), (7, .int .i64 x86), (5, .int .i64 (IntKind.i64.wrap (x71 + 1))), (6, .int .i64 x75), (4, .ptr 1 0), (2, .ptr 0 0), (1, .ro (fl (eI .i64) a3) a3.length none)] [(1, some [.int .i64 0, .int .i64 0, .int .i64 0]), (0, some [.int .i64 x87, .int .i64 x73, .int .i64 x74])] (by kernel_rfl) ?_
            refine AWl_nilK [40, 7, 5, 6, 4, 2, 1] [(40, .bool (decide (x86 < 8))), (7, .int .i64 x86), (5, .int .i64 (IntKind.i64.wrap (x71 + 1))), (6, .int .i64 x75), (4, .ptr 1 0), (2, .ptr 0 0), (1, .ro (fl (eI .i64) a3) a3.length none)] (by kernel_rfl) ?_
            refine athen_n ?_
            cases h93 : (decide (x86 < 8))
            · have h178 := bif_f h93 h177
              refine AW_condF rfl ?_
              refine AW_exit ?_
              refine athen_exit ?_
              obtain rfl := Option.some.inj h178
              refine Round.off (by simp) (Tgt.mk (Weak.ren [] [] (.cons rfl (.pure rfl) (.cons rfl (.pure rfl) (.cons rfl (.ptr (l := 1) (l' := 1) rfl rfl) (.cons rfl (.ptr (l := 0) (l' := 0) rfl rfl) (.cons rfl (.pure (by simp [pureV, within, withinL, fl_pure])) .nil))))) (.cons rfl (.pure rfl) (.cons rfl (.pure rfl) .nil)) (by kernel_rfl) (fun _ h => h.elim) En_ok))
            · have h179 := bif_t h93 h177
              refine AW_condT rfl ?_
              refine AW_skip ?_
              refine athen_n ?_
              obtain ⟨x96, h105, h180⟩ := bind_some h179
              refine AW_meetN (fun x96 => [(7, .int .i64 x86), (5, .int .i64 (IntKind.i64.wrap (x71 + 1))), (6, .int .i64 x75), (4, .ptr 1 0), (2, .ptr 0 0), (1, .ro (fl (eI .i64) a3) a3.length none)]) (fun x96 => [(1, some [.int .i64 0, .int .i64 0, .int .i64 0]), (0, some [.int .i64 x96, .int .i64 x73, .int .i64 x74])]) x96 ?_ ?_
              · skip
                refine AW_block ?_
                refine AW_seq ?_
                refine AW_region ?_
                refine AWl_xrun 1 _ _ _ [(44, .int .i64 x86), (40, .bool true), (7, .int .i64 x86), (5, .int .i64 (IntKind.i64.wrap (x71 + 1))), (6, .int .i64 x75), (4, .ptr 1 0), (2, .ptr 0 0), (1, .ro (fl (eI .i64) a3) a3.length none)] [(1, some [.int .i64 0, .int .i64 0, .int .i64 0]), (0, some [.int .i64 x87, .int .i64 x73, .int .i64 x74])] (by kernel_rfl) ?_
                obtain ⟨⟨x88, x89⟩, h94, h181⟩ := bind_some h105
                refine AWl_o (x := .tup [.int .i64 x89, .int .i64 x88]) (wl := []) (AOp_callP En_ok Tryd.call22 (caps := []) (xs := [.int .i64 x86]) rfl rfl (orielref12_bits_ok h94) rfl) (by kernel_rfl) (by kernel_rfl) (by kernel_rfl) ?_
                refine AWl_xrun 5 _ _ _ [(9, .int .i64 x88), (8, .int .i64 x89), (47, .int .i64 x88), (46, .int .i64 x89), (43, .tup [.int .i64 x89, .int .i64 x88]), (45, .tup [.int .i64 x89, .int .i64 x88]), (44, .int .i64 x86), (40, .bool true), (7, .int .i64 x86), (5, .int .i64 (IntKind.i64.wrap (x71 + 1))), (6, .int .i64 x75), (4, .ptr 1 0), (2, .ptr 0 0), (1, .ro (fl (eI .i64) a3) a3.length none)] [(1, some [.int .i64 0, .int .i64 0, .int .i64 0]), (0, some [.int .i64 x87, .int .i64 x73, .int .i64 x74])] (by kernel_rfl) ?_
                refine AWl_nilK [9, 8, 7, 5, 6, 4, 2, 1] [(9, .int .i64 x88), (8, .int .i64 x89), (7, .int .i64 x86), (5, .int .i64 (IntKind.i64.wrap (x71 + 1))), (6, .int .i64 x75), (4, .ptr 1 0), (2, .ptr 0 0), (1, .ro (fl (eI .i64) a3) a3.length none)] (by kernel_rfl) ?_
                refine athen_n ?_
                refine AW_seq ?_
                refine AW_region ?_
                refine AWl_xrun 2 _ _ _ [(49, .int .u64 (IntKind.u64.wrap x86)), (48, .int .i64 x86), (9, .int .i64 x88), (8, .int .i64 x89), (7, .int .i64 x86), (5, .int .i64 (IntKind.i64.wrap (x71 + 1))), (6, .int .i64 x75), (4, .ptr 1 0), (2, .ptr 0 0), (1, .ro (fl (eI .i64) a3) a3.length none)] [(1, some [.int .i64 0, .int .i64 0, .int .i64 0]), (0, some [.int .i64 x87, .int .i64 x73, .int .i64 x74])] (by kernel_rfl) ?_
                obtain ⟨h95, h182⟩ := req_some h181
                refine AWl_o (x := .int .i64 (IntKind.i64.wrap (1 * 2 ^ (min (IntKind.u64.wrap x86).toNat 64)))) (wl := []) (AOp_binOp rfl rfl (xbin_shl h95)) (by kernel_rfl) (by kernel_rfl) (by kernel_rfl) ?_
                refine AWl_xrun 1 _ _ _ [(10, .int .i64 (IntKind.i64.wrap (1 * 2 ^ (min (IntKind.u64.wrap x86).toNat 64)))), (50, .int .i64 (IntKind.i64.wrap (1 * 2 ^ (min (IntKind.u64.wrap x86).toNat 64)))), (49, .int .u64 (IntKind.u64.wrap x86)), (48, .int .i64 x86), (9, .int .i64 x88), (8, .int .i64 x89), (7, .int .i64 x86), (5, .int .i64 (IntKind.i64.wrap (x71 + 1))), (6, .int .i64 x75), (4, .ptr 1 0), (2, .ptr 0 0), (1, .ro (fl (eI .i64) a3) a3.length none)] [(1, some [.int .i64 0, .int .i64 0, .int .i64 0]), (0, some [.int .i64 x87, .int .i64 x73, .int .i64 x74])] (by kernel_rfl) ?_
                refine AWl_nilK [10, 9, 8, 7, 5, 6, 4, 2, 1] [(10, .int .i64 (IntKind.i64.wrap (1 * 2 ^ (min (IntKind.u64.wrap x86).toNat 64)))), (9, .int .i64 x88), (8, .int .i64 x89), (7, .int .i64 x86), (5, .int .i64 (IntKind.i64.wrap (x71 + 1))), (6, .int .i64 x75), (4, .ptr 1 0), (2, .ptr 0 0), (1, .ro (fl (eI .i64) a3) a3.length none)] (by kernel_rfl) ?_
                refine athen_n ?_
                obtain ⟨x92, h104, h183⟩ := bind_some h182
                refine AW_meetN (fun x92 => [(10, .int .i64 (IntKind.i64.wrap (1 * 2 ^ (min (IntKind.u64.wrap x86).toNat 64)))), (9, .int .i64 x88), (7, .int .i64 x86), (5, .int .i64 (IntKind.i64.wrap (x71 + 1))), (6, .int .i64 x75), (4, .ptr 1 0), (2, .ptr 0 0), (1, .ro (fl (eI .i64) a3) a3.length none)]) (fun x92 => [(1, some [.int .i64 0, .int .i64 0, .int .i64 0]), (0, some [.int .i64 x92, .int .i64 x73, .int .i64 x74])]) x92 ?_ ?_
                · skip
                  obtain ⟨x90, h99, h184⟩ := bind_some h104
                  refine AW_meetN (fun x90 => [(61, .bool x90), (10, .int .i64 (IntKind.i64.wrap (1 * 2 ^ (min (IntKind.u64.wrap x86).toNat 64)))), (9, .int .i64 x88), (7, .int .i64 x86), (5, .int .i64 (IntKind.i64.wrap (x71 + 1))), (6, .int .i64 x75), (4, .ptr 1 0), (2, .ptr 0 0), (1, .ro (fl (eI .i64) a3) a3.length none)]) (fun x90 => [(1, some [.int .i64 0, .int .i64 0, .int .i64 0]), (0, some [.int .i64 x87, .int .i64 x73, .int .i64 x74])]) x90 ?_ ?_
                  · skip
                    refine AW_region ?_
                    refine AWl_xrun 4 _ _ _ [(54, .bool ((x75 : Int) == x89)), (53, .bool ((x75 : Int) == x89)), (52, .int .i64 x89), (51, .int .i64 x75), (10, .int .i64 (IntKind.i64.wrap (1 * 2 ^ (min (IntKind.u64.wrap x86).toNat 64)))), (9, .int .i64 x88), (8, .int .i64 x89), (7, .int .i64 x86), (5, .int .i64 (IntKind.i64.wrap (x71 + 1))), (6, .int .i64 x75), (4, .ptr 1 0), (2, .ptr 0 0), (1, .ro (fl (eI .i64) a3) a3.length none)] [(1, some [.int .i64 0, .int .i64 0, .int .i64 0]), (0, some [.int .i64 x87, .int .i64 x73, .int .i64 x74])] (by kernel_rfl) ?_
                    cases h96 : ((x75 : Int) == x89)
                    · have h185 := bif_f h96 h99
                      refine AWl_xrun 7 _ _ _ [(61, .bool false), (60, .dead), (59, .dead), (58, .dead), (57, .dead), (56, .dead), (55, .dead), (54, .bool false), (53, .bool false), (52, .int .i64 x89), (51, .int .i64 x75), (10, .int .i64 (IntKind.i64.wrap (1 * 2 ^ (min (IntKind.u64.wrap x86).toNat 64)))), (9, .int .i64 x88), (8, .int .i64 x89), (7, .int .i64 x86), (5, .int .i64 (IntKind.i64.wrap (x71 + 1))), (6, .int .i64 x75), (4, .ptr 1 0), (2, .ptr 0 0), (1, .ro (fl (eI .i64) a3) a3.length none)] [(1, some [.int .i64 0, .int .i64 0, .int .i64 0]), (0, some [.int .i64 x87, .int .i64 x73, .int .i64 x74])] (by kernel_rfl) ?_
                      refine AWl_nilK [61, 10, 9, 7, 5, 6, 4, 2, 1] [(61, .bool false), (10, .int .i64 (IntKind.i64.wrap (1 * 2 ^ (min (IntKind.u64.wrap x86).toNat 64)))), (9, .int .i64 x88), (7, .int .i64 x86), (5, .int .i64 (IntKind.i64.wrap (x71 + 1))), (6, .int .i64 x75), (4, .ptr 1 0), (2, .ptr 0 0), (1, .ro (fl (eI .i64) a3) a3.length none)] (by kernel_rfl) ?_
                      obtain rfl := Option.some.inj h185
                      refine Tgt.mk (Weak.ren [] [] (.cons rfl (.pure rfl) (.cons rfl (.pure rfl) (.cons rfl (.pure rfl) (.cons rfl (.pure rfl) (.cons rfl (.pure rfl) (.cons rfl (.pure rfl) (.cons rfl (.ptr (l := 1) (l' := 1) rfl rfl) (.cons rfl (.ptr (l := 0) (l' := 0) rfl rfl) (.cons rfl (.pure (by simp [pureV, within, withinL, fl_pure])) .nil))))))))) (.cons rfl (.pure rfl) (.cons rfl (.pure rfl) .nil)) (by kernel_rfl) (fun _ h => h.elim) En_ok)
                    · have h186 := bif_t h96 h99
                      refine AWl_xrun 3 _ _ _ [(57, .int .i64 (IntKind.i64.wrap (1 * 2 ^ (min (IntKind.u64.wrap x86).toNat 64)))), (56, .int .i64 x87), (55, .ptr 0 0), (54, .bool true), (53, .bool true), (52, .int .i64 x89), (51, .int .i64 x75), (10, .int .i64 (IntKind.i64.wrap (1 * 2 ^ (min (IntKind.u64.wrap x86).toNat 64)))), (9, .int .i64 x88), (8, .int .i64 x89), (7, .int .i64 x86), (5, .int .i64 (IntKind.i64.wrap (x71 + 1))), (6, .int .i64 x75), (4, .ptr 1 0), (2, .ptr 0 0), (1, .ro (fl (eI .i64) a3) a3.length none)] [(1, some [.int .i64 0, .int .i64 0, .int .i64 0]), (0, some [.int .i64 x87, .int .i64 x73, .int .i64 x74])] (by kernel_rfl) ?_
                      obtain ⟨h97, h187⟩ := req_some h186
                      refine AWl_o (x := .int .i64 (IntKind.i64.wrap (Int.tdiv x87 (IntKind.i64.wrap (1 * 2 ^ (min (IntKind.u64.wrap x86).toNat 64)))))) (wl := []) (AOp_binOp rfl rfl (xbin_quo h97)) (by kernel_rfl) (by kernel_rfl) (by kernel_rfl) ?_
                      refine AWl_xrun 3 _ _ _ [(61, .bool (((Int.tmod (IntKind.i64.wrap (Int.tdiv x87 (IntKind.i64.wrap (1 * 2 ^ (min (IntKind.u64.wrap x86).toNat 64))))) 2) : Int) == 0)), (60, .bool (((Int.tmod (IntKind.i64.wrap (Int.tdiv x87 (IntKind.i64.wrap (1 * 2 ^ (min (IntKind.u64.wrap x86).toNat 64))))) 2) : Int) == 0)), (59, .int .i64 (Int.tmod (IntKind.i64.wrap (Int.tdiv x87 (IntKind.i64.wrap (1 * 2 ^ (min (IntKind.u64.wrap x86).toNat 64))))) 2)), (58, .int .i64 (IntKind.i64.wrap (Int.tdiv x87 (IntKind.i64.wrap (1 * 2 ^ (min (IntKind.u64.wrap x86).toNat 64)))))), (57, .int .i64 (IntKind.i64.wrap (1 * 2 ^ (min (IntKind.u64.wrap x86).toNat 64)))), (56, .int .i64 x87), (55, .ptr 0 0), (54, .bool true), (53, .bool true), (52, .int .i64 x89), (51, .int .i64 x75), (10, .int .i64 (IntKind.i64.wrap (1 * 2 ^ (min (IntKind.u64.wrap x86).toNat 64)))), (9, .int .i64 x88), (8, .int .i64 x89), (7, .int .i64 x86), (5, .int .i64 (IntKind.i64.wrap (x71 + 1))), (6, .int .i64 x75), (4, .ptr 1 0), (2, .ptr 0 0), (1, .ro (fl (eI .i64) a3) a3.length none)] [(1, some [.int .i64 0, .int .i64 0, .int .i64 0]), (0, some [.int .i64 x87, .int .i64 x73, .int .i64 x74])] (by kernel_rfl) ?_
                      refine AWl_nilK [61, 60, 59, 58, 57, 56, 55, 10, 9, 7, 5, 6, 4, 2, 1] [(61, .bool (((Int.tmod (IntKind.i64.wrap (Int.tdiv x87 (IntKind.i64.wrap (1 * 2 ^ (min (IntKind.u64.wrap x86).toNat 64))))) 2) : Int) == 0)), (60, .bool (((Int.tmod (IntKind.i64.wrap (Int.tdiv x87 (IntKind.i64.wrap (1 * 2 ^ (min (IntKind.u64.wrap x86).toNat 64))))) 2) : Int) == 0)), (59, .int .i64 (Int.tmod (IntKind.i64.wrap (Int.tdiv x87 (IntKind.i64.wrap (1 * 2 ^ (min (IntKind.u64.wrap x86).toNat 64))))) 2)), (58, .int .i64 (IntKind.i64.wrap (Int.tdiv x87 (IntKind.i64.wrap (1 * 2 ^ (min (IntKind.u64.wrap x86).toNat 64)))))), (57, .int .i64 (IntKind.i64.wrap (1 * 2 ^ (min (IntKind.u64.wrap x86).toNat 64)))), (56, .int .i64 x87), (55, .ptr 0 0), (10, .int .i64 (IntKind.i64.wrap (1 * 2 ^ (min (IntKind.u64.wrap x86).toNat 64)))), (9, .int .i64 x88), (7, .int .i64 x86), (5, .int .i64 (IntKind.i64.wrap (x71 + 1))), (6, .int .i64 x75), (4, .ptr 1 0), (2, .ptr 0 0), (1, .ro (fl (eI .i64) a3) a3.length none)] (by kernel_rfl) ?_
                      obtain rfl := Option.some.inj h187
                      refine Tgt.mk (Weak.ren [] [] (.cons rfl (.pure rfl) (.cons rfl (.pure rfl) (.cons rfl (.pure rfl) (.cons rfl (.pure rfl) (.cons rfl (.pure rfl) (.cons rfl (.pure rfl) (.cons rfl (.ptr (l := 1) (l' := 1) rfl rfl) (.cons rfl (.ptr (l := 0) (l' := 0) rfl rfl) (.cons rfl (.pure (by simp [pureV, within, withinL, fl_pure])) .nil))))))))) (.cons rfl (.pure rfl) (.cons rfl (.pure rfl) .nil)) (by kernel_rfl) (fun _ h => h.elim) En_ok)
                  · skip
                    cases h98 : x90
                    · have h188 := bif_f h98 h184
                      refine AW_condF rfl ?_
                      refine AW_skip ?_
                      obtain rfl := Option.some.inj h188
                      refine Tgt.mk (Weak.ren [] [] (.cons rfl (.pure rfl) (.cons rfl (.pure rfl) (.cons rfl (.pure rfl) (.cons rfl (.pure rfl) (.cons rfl (.pure rfl) (.cons rfl (.ptr (l := 1) (l' := 1) rfl rfl) (.cons rfl (.ptr (l := 0) (l' := 0) rfl rfl) (.cons rfl (.pure (by simp [pureV, within, withinL, fl_pure])) .nil)))))))) (.cons rfl (.pure rfl) (.cons rfl (.pure rfl) .nil)) (by kernel_rfl) (fun _ h => h.elim) En_ok)
                    · have h189 := bif_t h98 h184
                      refine AW_condT rfl ?_
                      refine AW_region ?_
                      refine AWl_xrun 6 _ _ _ [(66, .ptr 0 0), (65, .int .i64 (IntKind.i64.wrap (x87 + (IntKind.i64.wrap (1 * 2 ^ (min (IntKind.u64.wrap x86).toNat 64)))))), (64, .int .i64 (IntKind.i64.wrap (1 * 2 ^ (min (IntKind.u64.wrap x86).toNat 64)))), (63, .int .i64 x87), (62, .ptr 0 0), (61, .bool true), (10, .int .i64 (IntKind.i64.wrap (1 * 2 ^ (min (IntKind.u64.wrap x86).toNat 64)))), (9, .int .i64 x88), (7, .int .i64 x86), (5, .int .i64 (IntKind.i64.wrap (x71 + 1))), (6, .int .i64 x75), (4, .ptr 1 0), (2, .ptr 0 0), (1, .ro (fl (eI .i64) a3) a3.length none)] [(1, some [.int .i64 0, .int .i64 0, .int .i64 0]), (0, some [.int .i64 (IntKind.i64.wrap (x87 + (IntKind.i64.wrap (1 * 2 ^ (min (IntKind.u64.wrap x86).toNat 64))))), .int .i64 x73, .int .i64 x74])] (by kernel_rfl) ?_
                      refine AWl_nilK [10, 9, 7, 5, 6, 4, 2, 1] [(10, .int .i64 (IntKind.i64.wrap (1 * 2 ^ (min (IntKind.u64.wrap x86).toNat 64)))), (9, .int .i64 x88), (7, .int .i64 x86), (5, .int .i64 (IntKind.i64.wrap (x71 + 1))), (6, .int .i64 x75), (4, .ptr 1 0), (2, .ptr 0 0), (1, .ro (fl (eI .i64) a3) a3.length none)] (by kernel_rfl) ?_
                      obtain rfl := Option.some.inj h189
                      refine Tgt.mk (Weak.ren [] [] (.cons rfl (.pure rfl) (.cons rfl (.pure rfl) (.cons rfl (.pure rfl) (.cons rfl (.pure rfl) (.cons rfl (.pure rfl) (.cons rfl (.ptr (l := 1) (l' := 1) rfl rfl) (.cons rfl (.ptr (l := 0) (l' := 0) rfl rfl) (.cons rfl (.pure (by simp [pureV, within, withinL, fl_pure])) .nil)))))))) (.cons rfl (.pure rfl) (.cons rfl (.pure rfl) .nil)) (by kernel_rfl) (fun _ h => h.elim) En_ok)
                · skip
                  obtain ⟨x93, h103, h190⟩ := bind_some h183
                  refine AW_meetN (fun x93 => [(77, .bool x93), (10, .int .i64 (IntKind.i64.wrap (1 * 2 ^ (min (IntKind.u64.wrap x86).toNat 64)))), (7, .int .i64 x86), (5, .int .i64 (IntKind.i64.wrap (x71 + 1))), (6, .int .i64 x75), (4, .ptr 1 0), (2, .ptr 0 0), (1, .ro (fl (eI .i64) a3) a3.length none)]) (fun x93 => [(1, some [.int .i64 0, .int .i64 0, .int .i64 0]), (0, some [.int .i64 x92, .int .i64 x73, .int .i64 x74])]) x93 ?_ ?_
                  · skip
                    refine AW_region ?_
                    refine AWl_xrun 4 _ _ _ [(70, .bool ((x75 : Int) == x88)), (69, .bool ((x75 : Int) == x88)), (68, .int .i64 x88), (67, .int .i64 x75), (10, .int .i64 (IntKind.i64.wrap (1 * 2 ^ (min (IntKind.u64.wrap x86).toNat 64)))), (9, .int .i64 x88), (7, .int .i64 x86), (5, .int .i64 (IntKind.i64.wrap (x71 + 1))), (6, .int .i64 x75), (4, .ptr 1 0), (2, .ptr 0 0), (1, .ro (fl (eI .i64) a3) a3.length none)] [(1, some [.int .i64 0, .int .i64 0, .int .i64 0]), (0, some [.int .i64 x92, .int .i64 x73, .int .i64 x74])] (by kernel_rfl) ?_
                    cases h100 : ((x75 : Int) == x88)
                    · have h191 := bif_f h100 h103
                      refine AWl_xrun 7 _ _ _ [(77, .bool false), (76, .dead), (75, .dead), (74, .dead), (73, .dead), (72, .dead), (71, .dead), (70, .bool false), (69, .bool false), (68, .int .i64 x88), (67, .int .i64 x75), (10, .int .i64 (IntKind.i64.wrap (1 * 2 ^ (min (IntKind.u64.wrap x86).toNat 64)))), (9, .int .i64 x88), (7, .int .i64 x86), (5, .int .i64 (IntKind.i64.wrap (x71 + 1))), (6, .int .i64 x75), (4, .ptr 1 0), (2, .ptr 0 0), (1, .ro (fl (eI .i64) a3) a3.length none)] [(1, some [.int .i64 0, .int .i64 0, .int .i64 0]), (0, some [.int .i64 x92, .int .i64 x73, .int .i64 x74])] (by kernel_rfl) ?_
                      refine AWl_nilK [77, 10, 7, 5, 6, 4, 2, 1] [(77, .bool false), (10, .int .i64 (IntKind.i64.wrap (1 * 2 ^ (min (IntKind.u64.wrap x86).toNat 64)))), (7, .int .i64 x86), (5, .int .i64 (IntKind.i64.wrap (x71 + 1))), (6, .int .i64 x75), (4, .ptr 1 0), (2, .ptr 0 0), (1, .ro (fl (eI .i64) a3) a3.length none)] (by kernel_rfl) ?_
                      obtain rfl := Option.some.inj h191
                      refine Tgt.mk (Weak.ren [] [] (.cons rfl (.pure rfl) (.cons rfl (.pure rfl) (.cons rfl (.pure rfl) (.cons rfl (.pure rfl) (.cons rfl (.pure rfl) (.cons rfl (.ptr (l := 1) (l' := 1) rfl rfl) (.cons rfl (.ptr (l := 0) (l' := 0) rfl rfl) (.cons rfl (.pure (by simp [pureV, within, withinL, fl_pure])) .nil)))))))) (.cons rfl (.pure rfl) (.cons rfl (.pure rfl) .nil)) (by kernel_rfl) (fun _ h => h.elim) En_ok)
                    · have h192 := bif_t h100 h103
                      refine AWl_xrun 3 _ _ _ [(73, .int .i64 (IntKind.i64.wrap (1 * 2 ^ (min (IntKind.u64.wrap x86).toNat 64)))), (72, .int .i64 x92), (71, .ptr 0 0), (70, .bool true), (69, .bool true), (68, .int .i64 x88), (67, .int .i64 x75), (10, .int .i64 (IntKind.i64.wrap (1 * 2 ^ (min (IntKind.u64.wrap x86).toNat 64)))), (9, .int .i64 x88), (7, .int .i64 x86), (5, .int .i64 (IntKind.i64.wrap (x71 + 1))), (6, .int .i64 x75), (4, .ptr 1 0), (2, .ptr 0 0), (1, .ro (fl (eI .i64) a3) a3.length none)] [(1, some [.int .i64 0, .int .i64 0, .int .i64 0]), (0, some [.int .i64 x92, .int .i64 x73, .int .i64 x74])] (by kernel_rfl) ?_
                      obtain ⟨h101, h193⟩ := req_some h192
                      refine AWl_o (x := .int .i64 (IntKind.i64.wrap (Int.tdiv x92 (IntKind.i64.wrap (1 * 2 ^ (min (IntKind.u64.wrap x86).toNat 64)))))) (wl := []) (AOp_binOp rfl rfl (xbin_quo h101)) (by kernel_rfl) (by kernel_rfl) (by kernel_rfl) ?_
                      refine AWl_xrun 3 _ _ _ [(77, .bool (((Int.tmod (IntKind.i64.wrap (Int.tdiv x92 (IntKind.i64.wrap (1 * 2 ^ (min (IntKind.u64.wrap x86).toNat 64))))) 2) : Int) == 1)), (76, .bool (((Int.tmod (IntKind.i64.wrap (Int.tdiv x92 (IntKind.i64.wrap (1 * 2 ^ (min (IntKind.u64.wrap x86).toNat 64))))) 2) : Int) == 1)), (75, .int .i64 (Int.tmod (IntKind.i64.wrap (Int.tdiv x92 (IntKind.i64.wrap (1 * 2 ^ (min (IntKind.u64.wrap x86).toNat 64))))) 2)), (74, .int .i64 (IntKind.i64.wrap (Int.tdiv x92 (IntKind.i64.wrap (1 * 2 ^ (min (IntKind.u64.wrap x86).toNat 64)))))), (73, .int .i64 (IntKind.i64.wrap (1 * 2 ^ (min (IntKind.u64.wrap x86).toNat 64)))), (72, .int .i64 x92), (71, .ptr 0 0), (70, .bool true), (69, .bool true), (68, .int .i64 x88), (67, .int .i64 x75), (10, .int .i64 (IntKind.i64.wrap (1 * 2 ^ (min (IntKind.u64.wrap x86).toNat 64)))), (9, .int .i64 x88), (7, .int .i64 x86), (5, .int .i64 (IntKind.i64.wrap (x71 + 1))), (6, .int .i64 x75), (4, .ptr 1 0), (2, .ptr 0 0), (1, .ro (fl (eI .i64) a3) a3.length none)] [(1, some [.int .i64 0, .int .i64 0, .int .i64 0]), (0, some [.int .i64 x92, .int .i64 x73, .int .i64 x74])] (by kernel_rfl) ?_
                      refine AWl_nilK [77, 76, 75, 74, 73, 72, 71, 10, 7, 5, 6, 4, 2, 1] [(77, .bool (((Int.tmod (IntKind.i64.wrap (Int.tdiv x92 (IntKind.i64.wrap (1 * 2 ^ (min (IntKind.u64.wrap x86).toNat 64))))) 2) : Int) == 1)), (76, .bool (((Int.tmod (IntKind.i64.wrap (Int.tdiv x92 (IntKind.i64.wrap (1 * 2 ^ (min (IntKind.u64.wrap x86).toNat 64))))) 2) : Int) == 1)), (75, .int .i64 (Int.tmod (IntKind.i64.wrap (Int.tdiv x92 (IntKind.i64.wrap (1 * 2 ^ (min (IntKind.u64.wrap x86).toNat 64))))) 2)), (74, .int .i64 (IntKind.i64.wrap (Int.tdiv x92 (IntKind.i64.wrap (1 * 2 ^ (min (IntKind.u64.wrap x86).toNat 64)))))), (73, .int .i64 (IntKind.i64.wrap (1 * 2 ^ (min (IntKind.u64.wrap x86).toNat 64)))), (72, .int .i64 x92), (71, .ptr 0 0), (10, .int .i64 (IntKind.i64.wrap (1 * 2 ^ (min (IntKind.u64.wrap x86).toNat 64)))), (7, .int .i64 x86), (5, .int .i64 (IntKind.i64.wrap (x71 + 1))), (6, .int .i64 x75), (4, .ptr 1 0), (2, .ptr 0 0), (1, .ro (fl (eI .i64) a3) a3.length none)] (by kernel_rfl) ?_
                      obtain rfl := Option.some.inj h193
                      refine Tgt.mk (Weak.ren [] [] (.cons rfl (.pure rfl) (.cons rfl (.pure rfl) (.cons rfl (.pure rfl) (.cons rfl (.pure rfl) (.cons rfl (.pure rfl) (.cons rfl (.ptr (l := 1) (l' := 1) rfl rfl) (.cons rfl (.ptr (l := 0) (l' := 0) rfl rfl) (.cons rfl (.pure (by simp [pureV, within, withinL, fl_pure])) .nil)))))))) (.cons rfl (.pure rfl) (.cons rfl (.pure rfl) .nil)) (by kernel_rfl) (fun _ h => h.elim) En_ok)
                  · skip
                    cases h102 : x93
                    · have h194 := bif_f h102 h190
                      refine AW_condF rfl ?_
                      refine AW_skip ?_
                      refine ablock_n ?_
                      obtain rfl := Option.some.inj h194
                      refine Tgt.mk (Weak.ren [] [] (.cons rfl (.pure rfl) (.cons rfl (.pure rfl) (.cons rfl (.pure rfl) (.cons rfl (.ptr (l := 1) (l' := 1) rfl rfl) (.cons rfl (.ptr (l := 0) (l' := 0) rfl rfl) (.cons rfl (.pure (by simp [pureV, within, withinL, fl_pure])) .nil)))))) (.cons rfl (.pure rfl) (.cons rfl (.pure rfl) .nil)) (by kernel_rfl) (fun _ h => h.elim) En_ok)
                    · have h195 := bif_t h102 h190
                      refine AW_condT rfl ?_
                      refine AW_region ?_
                      refine AWl_xrun 6 _ _ _ [(82, .ptr 0 0), (81, .int .i64 (IntKind.i64.wrap (x92 - (IntKind.i64.wrap (1 * 2 ^ (min (IntKind.u64.wrap x86).toNat 64)))))), (80, .int .i64 (IntKind.i64.wrap (1 * 2 ^ (min (IntKind.u64.wrap x86).toNat 64)))), (79, .int .i64 x92), (78, .ptr 0 0), (77, .bool true), (10, .int .i64 (IntKind.i64.wrap (1 * 2 ^ (min (IntKind.u64.wrap x86).toNat 64)))), (7, .int .i64 x86), (5, .int .i64 (IntKind.i64.wrap (x71 + 1))), (6, .int .i64 x75), (4, .ptr 1 0), (2, .ptr 0 0), (1, .ro (fl (eI .i64) a3) a3.length none)] [(1, some [.int .i64 0, .int .i64 0, .int .i64 0]), (0, some [.int .i64 (IntKind.i64.wrap (x92 - (IntKind.i64.wrap (1 * 2 ^ (min (IntKind.u64.wrap x86).toNat 64))))), .int .i64 x73, .int .i64 x74])] (by kernel_rfl) ?_
                      refine AWl_nilK [7, 5, 6, 4, 2, 1] [(7, .int .i64 x86), (5, .int .i64 (IntKind.i64.wrap (x71 + 1))), (6, .int .i64 x75), (4, .ptr 1 0), (2, .ptr 0 0), (1, .ro (fl (eI .i64) a3) a3.length none)] (by kernel_rfl) ?_
                      refine ablock_n ?_
                      obtain rfl := Option.some.inj h195
                      refine Tgt.mk (Weak.ren [] [] (.cons rfl (.pure rfl) (.cons rfl (.pure rfl) (.cons rfl (.pure rfl) (.cons rfl (.ptr (l := 1) (l' := 1) rfl rfl) (.cons rfl (.ptr (l := 0) (l' := 0) rfl rfl) (.cons rfl (.pure (by simp [pureV, within, withinL, fl_pure])) .nil)))))) (.cons rfl (.pure rfl) (.cons rfl (.pure rfl) .nil)) (by kernel_rfl) (fun _ h => h.elim) En_ok)
              · skip
                refine AW_region ?_
                refine AWl_xrun 3 _ _ _ [(7, .int .i64 (IntKind.i64.wrap (x86 + 1))), (42, .int .i64 (IntKind.i64.wrap (x86 + 1))), (41, .int .i64 x86), (7, .int .i64 x86), (5, .int .i64 (IntKind.i64.wrap (x71 + 1))), (6, .int .i64 x75), (4, .ptr 1 0), (2, .ptr 0 0), (1, .ro (fl (eI .i64) a3) a3.length none)] [(1, some [.int .i64 0, .int .i64 0, .int .i64 0]), (0, some [.int .i64 x96, .int .i64 x73, .int .i64 x74])] (by kernel_rfl) ?_
                refine AWl_nilK [7, 5, 6, 4, 2, 1] [(7, .int .i64 (IntKind.i64.wrap (x86 + 1))), (5, .int .i64 (IntKind.i64.wrap (x71 + 1))), (6, .int .i64 x75), (4, .ptr 1 0), (2, .ptr 0 0), (1, .ro (fl (eI .i64) a3) a3.length none)] (by kernel_rfl) ?_
                obtain rfl := Option.some.inj h180
                refine Round.on (Weak.ren [] [] (.cons rfl (.pure rfl) (.cons rfl (.pure rfl) (.cons rfl (.pure rfl) (.cons rfl (.ptr (l := 1) (l' := 1) rfl rfl) (.cons rfl (.ptr (l := 0) (l' := 0) rfl rfl) (.cons rfl (.pure (by simp [pureV, within, withinL, fl_pure])) .nil)))))) (.cons rfl (.pure rfl) (.cons rfl (.pure rfl) .nil)) (by kernel_rfl) (fun _ h => h.elim) En_ok)
          · skip
            rintro e al L ⟨rfl, h196⟩ -
            refine ⟨_, _, h196, ?_⟩
            refine ablock_eq ?_
            refine athen_n ?_
            refine AW_seq ?_
            refine AW_region ?_
            refine AWl_xrun 1 _ _ _ [(11, .int .i64 (-1)), (5, .int .i64 (IntKind.i64.wrap (x71 + 1))), (6, .int .i64 x75), (4, .ptr 1 0), (2, .ptr 0 0), (1, .ro (fl (eI .i64) a3) a3.length none)] [(1, some [.int .i64 0, .int .i64 0, .int .i64 0]), (0, some [.int .i64 x100, .int .i64 x73, .int .i64 x74])] (by kernel_rfl) ?_
            refine AWl_nilK [11, 5, 6, 4, 2, 1] [(11, .int .i64 (-1)), (5, .int .i64 (IntKind.i64.wrap (x71 + 1))), (6, .int .i64 x75), (4, .ptr 1 0), (2, .ptr 0 0), (1, .ro (fl (eI .i64) a3) a3.length none)] (by kernel_rfl) ?_
            refine athen_n ?_
            refine AW_seq ?_
            refine AW_region ?_
            refine AWl_xrun 1 _ _ _ [(12, .bool false), (11, .int .i64 (-1)), (5, .int .i64 (IntKind.i64.wrap (x71 + 1))), (6, .int .i64 x75), (4, .ptr 1 0), (2, .ptr 0 0), (1, .ro (fl (eI .i64) a3) a3.length none)] [(1, some [.int .i64 0, .int .i64 0, .int .i64 0]), (0, some [.int .i64 x100, .int .i64 x73, .int .i64 x74])] (by kernel_rfl) ?_
            refine AWl_nilK [12, 11, 5, 6, 4, 2, 1] [(12, .bool false), (11, .int .i64 (-1)), (5, .int .i64 (IntKind.i64.wrap (x71 + 1))), (6, .int .i64 x75), (4, .ptr 1 0), (2, .ptr 0 0), (1, .ro (fl (eI .i64) a3) a3.length none)] (by kernel_rfl) ?_
            refine athen_n ?_
            obtain ⟨x138, h156, h197⟩ := bind_some h175
            refine AW_meetS (fun z => match z with | (x129, x130, x131) => [(12, .bool x129), (11, .int .i64 x130), (5, .int .i64 x131), (4, .ptr 1 0), (2, .ptr 0 0), (1, .ro (fl (eI .i64) a3) a3.length none)]) (fun z => match z with | (x129, x130, x131) => [(1, some [.int .i64 0, .int .i64 0, .int .i64 0]), (0, some [.int .i64 x100, .int .i64 x73, .int .i64 x74])]) x138 ?_ ?_
            · skip
              refine AW_block ?_
              obtain ⟨x101, h148, h198⟩ := bind_some h156
              refine AW_meetN (fun x101 => [(83, .bool x101), (12, .bool false), (11, .int .i64 (-1)), (5, .int .i64 (IntKind.i64.wrap (x71 + 1))), (6, .int .i64 x75), (4, .ptr 1 0), (2, .ptr 0 0), (1, .ro (fl (eI .i64) a3) a3.length none)]) (fun x101 => [(1, some [.int .i64 0, .int .i64 0, .int .i64 0]), (0, some [.int .i64 x100, .int .i64 x73, .int .i64 x74])]) x101 ?_ ?_
              · skip
                refine AW_region ?_
                refine AWl_xrun 3 _ _ _ [(86, .bool (decide (x75 ≥ 30))), (85, .bool (decide (x75 ≥ 30))), (84, .int .i64 x75), (12, .bool false), (11, .int .i64 (-1)), (5, .int .i64 (IntKind.i64.wrap (x71 + 1))), (6, .int .i64 x75), (4, .ptr 1 0), (2, .ptr 0 0), (1, .ro (fl (eI .i64) a3) a3.length none)] [(1, some [.int .i64 0, .int .i64 0, .int .i64 0]), (0, some [.int .i64 x100, .int .i64 x73, .int .i64 x74])] (by kernel_rfl) ?_
                cases h107 : (decide (x75 ≥ 30))
                · have h199 := bif_f h107 h148
                  refine AWl_xrun 4 _ _ _ [(83, .bool false), (89, .bool false), (88, .dead), (87, .dead), (86, .bool false), (85, .bool false), (84, .int .i64 x75), (12, .bool false), (11, .int .i64 (-1)), (5, .int .i64 (IntKind.i64.wrap (x71 + 1))), (6, .int .i64 x75), (4, .ptr 1 0), (2, .ptr 0 0), (1, .ro (fl (eI .i64) a3) a3.length none)] [(1, some [.int .i64 0, .int .i64 0, .int .i64 0]), (0, some [.int .i64 x100, .int .i64 x73, .int .i64 x74])] (by kernel_rfl) ?_
                  refine AWl_nilK [83, 12, 11, 5, 6, 4, 2, 1] [(83, .bool false), (12, .bool false), (11, .int .i64 (-1)), (5, .int .i64 (IntKind.i64.wrap (x71 + 1))), (6, .int .i64 x75), (4, .ptr 1 0), (2, .ptr 0 0), (1, .ro (fl (eI .i64) a3) a3.length none)] (by kernel_rfl) ?_
                  obtain rfl := Option.some.inj h199
                  refine Tgt.mk (Weak.ren [] [] (.cons rfl (.pure rfl) (.cons rfl (.pure rfl) (.cons rfl (.pure rfl) (.cons rfl (.pure rfl) (.cons rfl (.pure rfl) (.cons rfl (.ptr (l := 1) (l' := 1) rfl rfl) (.cons rfl (.ptr (l := 0) (l' := 0) rfl rfl) (.cons rfl (.pure (by simp [pureV, within, withinL, fl_pure])) .nil)))))))) (.cons rfl (.pure rfl) (.cons rfl (.pure rfl) .nil)) (by kernel_rfl) (fun _ h => h.elim) En_ok)
                · have h200 := bif_t h107 h148
                  refine AWl_xrun 4 _ _ _ [(83, .bool (decide (x75 ≤ 37))), (89, .bool (decide (x75 ≤ 37))), (88, .bool (decide (x75 ≤ 37))), (87, .int .i64 x75), (86, .bool true), (85, .bool true), (84, .int .i64 x75), (12, .bool false), (11, .int .i64 (-1)), (5, .int .i64 (IntKind.i64.wrap (x71 + 1))), (6, .int .i64 x75), (4, .ptr 1 0), (2, .ptr 0 0), (1, .ro (fl (eI .i64) a3) a3.length none)] [(1, some [.int .i64 0, .int .i64 0, .int .i64 0]), (0, some [.int .i64 x100, .int .i64 x73, .int .i64 x74])] (by kernel_rfl) ?_
                  refine AWl_nilK [83, 88, 87, 12, 11, 5, 6, 4, 2, 1] [(83, .bool (decide (x75 ≤ 37))), (88, .bool (decide (x75 ≤ 37))), (87, .int .i64 x75), (12, .bool false), (11, .int .i64 (-1)), (5, .int .i64 (IntKind.i64.wrap (x71 + 1))), (6, .int .i64 x75), (4, .ptr 1 0), (2, .ptr 0 0), (1, .ro (fl (eI .i64) a3) a3.length none)] (by kernel_rfl) ?_
                  obtain rfl := Option.some.inj h200
                  refine Tgt.mk (Weak.ren [] [] (.cons rfl (.pure rfl) (.cons rfl (.pure rfl) (.cons rfl (.pure rfl) (.cons rfl (.pure rfl) (.cons rfl (.pure rfl) (.cons rfl (.ptr (l := 1) (l' := 1) rfl rfl) (.cons rfl (.ptr (l := 0) (l' := 0) rfl rfl) (.cons rfl (.pure (by simp [pureV, within, withinL, fl_pure])) .nil)))))))) (.cons rfl (.pure rfl) (.cons rfl (.pure rfl) .nil)) (by kernel_rfl) (fun _ h => h.elim) En_ok)
              · skip
                cases h108 : x101
                · have h201 := bif_f h108 h198
                  refine AW_condF rfl ?_
                  obtain ⟨x102, h147, h202⟩ := bind_some h201
                  refine AW_meetN (fun x102 => [(93, .bool x102), (12, .bool false), (11, .int .i64 (-1)), (5, .int .i64 (IntKind.i64.wrap (x71 + 1))), (6, .int .i64 x75), (4, .ptr 1 0), (2, .ptr 0 0), (1, .ro (fl (eI .i64) a3) a3.length none)]) (fun x102 => [(1, some [.int .i64 0, .int .i64 0, .int .i64 0]), (0, some [.int .i64 x100, .int .i64 x73, .int .i64 x74])]) x102 ?_ ?_
                  · skip
                    refine AW_region ?_
                    refine AWl_xrun 3 _ _ _ [(96, .bool (decide (x75 ≥ 90))), (95, .bool (decide (x75 ≥ 90))), (94, .int .i64 x75), (83, .bool false), (12, .bool false), (11, .int .i64 (-1)), (5, .int .i64 (IntKind.i64.wrap (x71 + 1))), (6, .int .i64 x75), (4, .ptr 1 0), (2, .ptr 0 0), (1, .ro (fl (eI .i64) a3) a3.length none)] [(1, some [.int .i64 0, .int .i64 0, .int .i64 0]), (0, some [.int .i64 x100, .int .i64 x73, .int .i64 x74])] (by kernel_rfl) ?_
                    cases h109 : (decide (x75 ≥ 90))
                    · have h203 := bif_f h109 h147
                      refine AWl_xrun 4 _ _ _ [(93, .bool false), (99, .bool false), (98, .dead), (97, .dead), (96, .bool false), (95, .bool false), (94, .int .i64 x75), (83, .bool false), (12, .bool false), (11, .int .i64 (-1)), (5, .int .i64 (IntKind.i64.wrap (x71 + 1))), (6, .int .i64 x75), (4, .ptr 1 0), (2, .ptr 0 0), (1, .ro (fl (eI .i64) a3) a3.length none)] [(1, some [.int .i64 0, .int .i64 0, .int .i64 0]), (0, some [.int .i64 x100, .int .i64 x73, .int .i64 x74])] (by kernel_rfl) ?_
                      refine AWl_nilK [93, 12, 11, 5, 6, 4, 2, 1] [(93, .bool false), (12, .bool false), (11, .int .i64 (-1)), (5, .int .i64 (IntKind.i64.wrap (x71 + 1))), (6, .int .i64 x75), (4, .ptr 1 0), (2, .ptr 0 0), (1, .ro (fl (eI .i64) a3) a3.length none)] (by kernel_rfl) ?_
                      obtain rfl := Option.some.inj h203
                      refine Tgt.mk (Weak.ren [] [] (.cons rfl (.pure rfl) (.cons rfl (.pure rfl) (.cons rfl (.pure rfl) (.cons rfl (.pure rfl) (.cons rfl (.pure rfl) (.cons rfl (.ptr (l := 1) (l' := 1) rfl rfl) (.cons rfl (.ptr (l := 0) (l' := 0) rfl rfl) (.cons rfl (.pure (by simp [pureV, within, withinL, fl_pure])) .nil)))))))) (.cons rfl (.pure rfl) (.cons rfl (.pure rfl) .nil)) (by kernel_rfl) (fun _ h => h.elim) En_ok)
                    · have h204 := bif_t h109 h147
                      refine AWl_xrun 4 _ _ _ [(93, .bool (decide (x75 ≤ 97))), (99, .bool (decide (x75 ≤ 97))), (98, .bool (decide (x75 ≤ 97))), (97, .int .i64 x75), (96, .bool true), (95, .bool true), (94, .int .i64 x75), (83, .bool false), (12, .bool false), (11, .int .i64 (-1)), (5, .int .i64 (IntKind.i64.wrap (x71 + 1))), (6, .int .i64 x75), (4, .ptr 1 0), (2, .ptr 0 0), (1, .ro (fl (eI .i64) a3) a3.length none)] [(1, some [.int .i64 0, .int .i64 0, .int .i64 0]), (0, some [.int .i64 x100, .int .i64 x73, .int .i64 x74])] (by kernel_rfl) ?_
                      refine AWl_nilK [93, 98, 97, 12, 11, 5, 6, 4, 2, 1] [(93, .bool (decide (x75 ≤ 97))), (98, .bool (decide (x75 ≤ 97))), (97, .int .i64 x75), (12, .bool false), (11, .int .i64 (-1)), (5, .int .i64 (IntKind.i64.wrap (x71 + 1))), (6, .int .i64 x75), (4, .ptr 1 0), (2, .ptr 0 0), (1, .ro (fl (eI .i64) a3) a3.length none)] (by kernel_rfl) ?_
                      obtain rfl := Option.some.inj h204
                      refine Tgt.mk (Weak.ren [] [] (.cons rfl (.pure rfl) (.cons rfl (.pure rfl) (.cons rfl (.pure rfl) (.cons rfl (.pure rfl) (.cons rfl (.pure rfl) (.cons rfl (.ptr (l := 1) (l' := 1) rfl rfl) (.cons rfl (.ptr (l := 0) (l' := 0) rfl rfl) (.cons rfl (.pure (by simp [pureV, within, withinL, fl_pure])) .nil)))))))) (.cons rfl (.pure rfl) (.cons rfl (.pure rfl) .nil)) (by kernel_rfl) (fun _ h => h.elim) En_ok)
                  · skip
                    cases h110 : x102
                    · have h205 := bif_f h110 h202
                      refine AW_condF rfl ?_
                      refine AW_seq ?_
                      refine AW_region ?_
                      refine AWl_xrun 3 _ _ _ [(103, .bool ((x75 : Int) == 39)), (105, .bool ((x75 : Int) == 39)), (104, .int .i64 x75), (93, .bool false), (12, .bool false), (11, .int .i64 (-1)), (5, .int .i64 (IntKind.i64.wrap (x71 + 1))), (6, .int .i64 x75), (4, .ptr 1 0), (2, .ptr 0 0), (1, .ro (fl (eI .i64) a3) a3.length none)] [(1, some [.int .i64 0, .int .i64 0, .int .i64 0]), (0, some [.int .i64 x100, .int .i64 x73, .int .i64 x74])] (by kernel_rfl) ?_
                      refine AWl_nilK [103, 12, 11, 5, 6, 4, 2, 1] [(103, .bool ((x75 : Int) == 39)), (12, .bool false), (11, .int .i64 (-1)), (5, .int .i64 (IntKind.i64.wrap (x71 + 1))), (6, .int .i64 x75), (4, .ptr 1 0), (2, .ptr 0 0), (1, .ro (fl (eI .i64) a3) a3.length none)] (by kernel_rfl) ?_
                      refine athen_n ?_
                      cases h111 : ((x75 : Int) == 39)
                      · have h206 := bif_f h111 h205
                        refine AW_condF rfl ?_
                        obtain ⟨x103, h146, h207⟩ := bind_some h206
                        refine AW_meetN (fun x103 => [(106, .bool x103), (12, .bool false), (11, .int .i64 (-1)), (5, .int .i64 (IntKind.i64.wrap (x71 + 1))), (6, .int .i64 x75), (4, .ptr 1 0), (2, .ptr 0 0), (1, .ro (fl (eI .i64) a3) a3.length none)]) (fun x103 => [(1, some [.int .i64 0, .int .i64 0, .int .i64 0]), (0, some [.int .i64 x100, .int .i64 x73, .int .i64 x74])]) x103 ?_ ?_
                        · skip
                          refine AW_region ?_
                          refine AWl_xrun 3 _ _ _ [(109, .bool (decide (x75 ≥ 40))), (108, .bool (decide (x75 ≥ 40))), (107, .int .i64 x75), (103, .bool false), (12, .bool false), (11, .int .i64 (-1)), (5, .int .i64 (IntKind.i64.wrap (x71 + 1))), (6, .int .i64 x75), (4, .ptr 1 0), (2, .ptr 0 0), (1, .ro (fl (eI .i64) a3) a3.length none)] [(1, some [.int .i64 0, .int .i64 0, .int .i64 0]), (0, some [.int .i64 x100, .int .i64 x73, .int .i64 x74])] (by kernel_rfl) ?_
                          cases h112 : (decide (x75 ≥ 40))
                          · have h208 := bif_f h112 h146
                            refine AWl_xrun 4 _ _ _ [(106, .bool false), (112, .bool false), (111, .dead), (110, .dead), (109, .bool false), (108, .bool false), (107, .int .i64 x75), (103, .bool false), (12, .bool false), (11, .int .i64 (-1)), (5, .int .i64 (IntKind.i64.wrap (x71 + 1))), (6, .int .i64 x75), (4, .ptr 1 0), (2, .ptr 0 0), (1, .ro (fl (eI .i64) a3) a3.length none)] [(1, some [.int .i64 0, .int .i64 0, .int .i64 0]), (0, some [.int .i64 x100, .int .i64 x73, .int .i64 x74])] (by kernel_rfl) ?_
                            refine AWl_nilK [106, 12, 11, 5, 6, 4, 2, 1] [(106, .bool false), (12, .bool false), (11, .int .i64 (-1)), (5, .int .i64 (IntKind.i64.wrap (x71 + 1))), (6, .int .i64 x75), (4, .ptr 1 0), (2, .ptr 0 0), (1, .ro (fl (eI .i64) a3) a3.length none)] (by kernel_rfl) ?_
                            obtain rfl := Option.some.inj h208
                            refine Tgt.mk (Weak.ren [] [] (.cons rfl (.pure rfl) (.cons rfl (.pure rfl) (.cons rfl (.pure rfl) (.cons rfl (.pure rfl) (.cons rfl (.pure rfl) (.cons rfl (.ptr (l := 1) (l' := 1) rfl rfl) (.cons rfl (.ptr (l := 0) (l' := 0) rfl rfl) (.cons rfl (.pure (by simp [pureV, within, withinL, fl_pure])) .nil)))))))) (.cons rfl (.pure rfl) (.cons rfl (.pure rfl) .nil)) (by kernel_rfl) (fun _ h => h.elim) En_ok)
                          · have h209 := bif_t h112 h146
                            refine AWl_xrun 4 _ _ _ [(106, .bool (decide (x75 ≤ 47))), (112, .bool (decide (x75 ≤ 47))), (111, .bool (decide (x75 ≤ 47))), (110, .int .i64 x75), (109, .bool true), (108, .bool true), (107, .int .i64 x75), (103, .bool false), (12, .bool false), (11, .int .i64 (-1)), (5, .int .i64 (IntKind.i64.wrap (x71 + 1))), (6, .int .i64 x75), (4, .ptr 1 0), (2, .ptr 0 0), (1, .ro (fl (eI .i64) a3) a3.length none)] [(1, some [.int .i64 0, .int .i64 0, .int .i64 0]), (0, some [.int .i64 x100, .int .i64 x73, .int .i64 x74])] (by kernel_rfl) ?_
                            refine AWl_nilK [106, 111, 110, 12, 11, 5, 6, 4, 2, 1] [(106, .bool (decide (x75 ≤ 47))), (111, .bool (decide (x75 ≤ 47))), (110, .int .i64 x75), (12, .bool false), (11, .int .i64 (-1)), (5, .int .i64 (IntKind.i64.wrap (x71 + 1))), (6, .int .i64 x75), (4, .ptr 1 0), (2, .ptr 0 0), (1, .ro (fl (eI .i64) a3) a3.length none)] (by kernel_rfl) ?_
                            obtain rfl := Option.some.inj h209
                            refine Tgt.mk (Weak.ren [] [] (.cons rfl (.pure rfl) (.cons rfl (.pure rfl) (.cons rfl (.pure rfl) (.cons rfl (.pure rfl) (.cons rfl (.pure rfl) (.cons rfl (.ptr (l := 1) (l' := 1) rfl rfl) (.cons rfl (.ptr (l := 0) (l' := 0) rfl rfl) (.cons rfl (.pure (by simp [pureV, within, withinL, fl_pure])) .nil)))))))) (.cons rfl (.pure rfl) (.cons rfl (.pure rfl) .nil)) (by kernel_rfl) (fun _ h => h.elim) En_ok)
                        · skip
                          cases h113 : x103
                          · have h210 := bif_f h113 h207
                            refine AW_condF rfl ?_
                            obtain ⟨x104, h145, h211⟩ := bind_some h210
                            refine AW_meetN (fun x104 => [(116, .bool x104), (12, .bool false), (11, .int .i64 (-1)), (5, .int .i64 (IntKind.i64.wrap (x71 + 1))), (6, .int .i64 x75), (4, .ptr 1 0), (2, .ptr 0 0), (1, .ro (fl (eI .i64) a3) a3.length none)]) (fun x104 => [(1, some [.int .i64 0, .int .i64 0, .int .i64 0]), (0, some [.int .i64 x100, .int .i64 x73, .int .i64 x74])]) x104 ?_ ?_
                            · skip
                              refine AW_region ?_
                              refine AWl_xrun 3 _ _ _ [(119, .bool (decide (x75 ≥ 100))), (118, .bool (decide (x75 ≥ 100))), (117, .int .i64 x75), (106, .bool false), (12, .bool false), (11, .int .i64 (-1)), (5, .int .i64 (IntKind.i64.wrap (x71 + 1))), (6, .int .i64 x75), (4, .ptr 1 0), (2, .ptr 0 0), (1, .ro (fl (eI .i64) a3) a3.length none)] [(1, some [.int .i64 0, .int .i64 0, .int .i64 0]), (0, some [.int .i64 x100, .int .i64 x73, .int .i64 x74])] (by kernel_rfl) ?_
                              cases h114 : (decide (x75 ≥ 100))
                              · have h212 := bif_f h114 h145
                                refine AWl_xrun 4 _ _ _ [(116, .bool false), (122, .bool false), (121, .dead), (120, .dead), (119, .bool false), (118, .bool false), (117, .int .i64 x75), (106, .bool false), (12, .bool false), (11, .int .i64 (-1)), (5, .int .i64 (IntKind.i64.wrap (x71 + 1))), (6, .int .i64 x75), (4, .ptr 1 0), (2, .ptr 0 0), (1, .ro (fl (eI .i64) a3) a3.length none)] [(1, some [.int .i64 0, .int .i64 0, .int .i64 0]), (0, some [.int .i64 x100, .int .i64 x73, .int .i64 x74])] (by kernel_rfl) ?_
                                refine AWl_nilK [116, 12, 11, 5, 6, 4, 2, 1] [(116, .bool false), (12, .bool false), (11, .int .i64 (-1)), (5, .int .i64 (IntKind.i64.wrap (x71 + 1))), (6, .int .i64 x75), (4, .ptr 1 0), (2, .ptr 0 0), (1, .ro (fl (eI .i64) a3) a3.length none)] (by kernel_rfl) ?_
                                obtain rfl := Option.some.inj h212
                                refine Tgt.mk (Weak.ren [] [] (.cons rfl (.pure rfl) (.cons rfl (.pure rfl) (.cons rfl (.pure rfl) (.cons rfl (.pure rfl) (.cons rfl (.pure rfl) (.cons rfl (.ptr (l := 1) (l' := 1) rfl rfl) (.cons rfl (.ptr (l := 0) (l' := 0) rfl rfl) (.cons rfl (.pure (by simp [pureV, within, withinL, fl_pure])) .nil)))))))) (.cons rfl (.pure rfl) (.cons rfl (.pure rfl) .nil)) (by kernel_rfl) (fun _ h => h.elim) En_ok)
                              · have h213 := bif_t h114 h145
                                refine AWl_xrun 4 _ _ _ [(116, .bool (decide (x75 ≤ 107))), (122, .bool (decide (x75 ≤ 107))), (121, .bool (decide (x75 ≤ 107))), (120, .int .i64 x75), (119, .bool true), (118, .bool true), (117, .int .i64 x75), (106, .bool false), (12, .bool false), (11, .int .i64 (-1)), (5, .int .i64 (IntKind.i64.wrap (x71 + 1))), (6, .int .i64 x75), (4, .ptr 1 0), (2, .ptr 0 0), (1, .ro (fl (eI .i64) a3) a3.length none)] [(1, some [.int .i64 0, .int .i64 0, .int .i64 0]), (0, some [.int .i64 x100, .int .i64 x73, .int .i64 x74])] (by kernel_rfl) ?_
                                refine AWl_nilK [116, 121, 120, 12, 11, 5, 6, 4, 2, 1] [(116, .bool (decide (x75 ≤ 107))), (121, .bool (decide (x75 ≤ 107))), (120, .int .i64 x75), (12, .bool false), (11, .int .i64 (-1)), (5, .int .i64 (IntKind.i64.wrap (x71 + 1))), (6, .int .i64 x75), (4, .ptr 1 0), (2, .ptr 0 0), (1, .ro (fl (eI .i64) a3) a3.length none)] (by kernel_rfl) ?_
                                obtain rfl := Option.some.inj h213
                                refine Tgt.mk (Weak.ren [] [] (.cons rfl (.pure rfl) (.cons rfl (.pure rfl) (.cons rfl (.pure rfl) (.cons rfl (.pure rfl) (.cons rfl (.pure rfl) (.cons rfl (.ptr (l := 1) (l' := 1) rfl rfl) (.cons rfl (.ptr (l := 0) (l' := 0) rfl rfl) (.cons rfl (.pure (by simp [pureV, within, withinL, fl_pure])) .nil)))))))) (.cons rfl (.pure rfl) (.cons rfl (.pure rfl) .nil)) (by kernel_rfl) (fun _ h => h.elim) En_ok)
                            · skip
                              cases h115 : x104
                              · have h214 := bif_f h115 h211
                                refine AW_condF rfl ?_
                                refine AW_seq ?_
                                refine AW_region ?_
                                refine AWl_xrun 3 _ _ _ [(126, .bool ((x75 : Int) == 49)), (128, .bool ((x75 : Int) == 49)), (127, .int .i64 x75), (116, .bool false), (12, .bool false), (11, .int .i64 (-1)), (5, .int .i64 (IntKind.i64.wrap (x71 + 1))), (6, .int .i64 x75), (4, .ptr 1 0), (2, .ptr 0 0), (1, .ro (fl (eI .i64) a3) a3.length none)] [(1, some [.int .i64 0, .int .i64 0, .int .i64 0]), (0, some [.int .i64 x100, .int .i64 x73, .int .i64 x74])] (by kernel_rfl) ?_
                                refine AWl_nilK [126, 12, 11, 5, 6, 4, 2, 1] [(126, .bool ((x75 : Int) == 49)), (12, .bool false), (11, .int .i64 (-1)), (5, .int .i64 (IntKind.i64.wrap (x71 + 1))), (6, .int .i64 x75), (4, .ptr 1 0), (2, .ptr 0 0), (1, .ro (fl (eI .i64) a3) a3.length none)] (by kernel_rfl) ?_
                                refine athen_n ?_
                                cases h116 : ((x75 : Int) == 49)
                                · have h215 := bif_f h116 h214
                                  refine AW_condF rfl ?_
                                  obtain ⟨x105, h144, h216⟩ := bind_some h215
                                  refine AW_meetN (fun x105 => [(129, .bool x105), (12, .bool false), (11, .int .i64 (-1)), (5, .int .i64 (IntKind.i64.wrap (x71 + 1))), (6, .int .i64 x75), (4, .ptr 1 0), (2, .ptr 0 0), (1, .ro (fl (eI .i64) a3) a3.length none)]) (fun x105 => [(1, some [.int .i64 0, .int .i64 0, .int .i64 0]), (0, some [.int .i64 x100, .int .i64 x73, .int .i64 x74])]) x105 ?_ ?_
                                  · skip
                                    refine AW_region ?_
                                    refine AWl_xrun 3 _ _ _ [(132, .bool ((x75 : Int) == 38)), (131, .bool ((x75 : Int) == 38)), (130, .int .i64 x75), (126, .bool false), (12, .bool false), (11, .int .i64 (-1)), (5, .int .i64 (IntKind.i64.wrap (x71 + 1))), (6, .int .i64 x75), (4, .ptr 1 0), (2, .ptr 0 0), (1, .ro (fl (eI .i64) a3) a3.length none)] [(1, some [.int .i64 0, .int .i64 0, .int .i64 0]), (0, some [.int .i64 x100, .int .i64 x73, .int .i64 x74])] (by kernel_rfl) ?_
                                    cases h117 : ((x75 : Int) == 38)
                                    · have h217 := bif_f h117 h144
                                      refine AWl_xrun 4 _ _ _ [(129, .bool ((x75 : Int) == 48)), (135, .bool ((x75 : Int) == 48)), (134, .bool ((x75 : Int) == 48)), (133, .int .i64 x75), (132, .bool false), (131, .bool false), (130, .int .i64 x75), (126, .bool false), (12, .bool false), (11, .int .i64 (-1)), (5, .int .i64 (IntKind.i64.wrap (x71 + 1))), (6, .int .i64 x75), (4, .ptr 1 0), (2, .ptr 0 0), (1, .ro (fl (eI .i64) a3) a3.length none)] [(1, some [.int .i64 0, .int .i64 0, .int .i64 0]), (0, some [.int .i64 x100, .int .i64 x73, .int .i64 x74])] (by kernel_rfl) ?_
                                      refine AWl_nilK [129, 134, 133, 12, 11, 5, 6, 4, 2, 1] [(129, .bool ((x75 : Int) == 48)), (134, .bool ((x75 : Int) == 48)), (133, .int .i64 x75), (12, .bool false), (11, .int .i64 (-1)), (5, .int .i64 (IntKind.i64.wrap (x71 + 1))), (6, .int .i64 x75), (4, .ptr 1 0), (2, .ptr 0 0), (1, .ro (fl (eI .i64) a3) a3.length none)] (by kernel_rfl) ?_
                                      obtain rfl := Option.some.inj h217
                                      refine Tgt.mk (Weak.ren [] [] (.cons rfl (.pure rfl) (.cons rfl (.pure rfl) (.cons rfl (.pure rfl) (.cons rfl (.pure rfl) (.cons rfl (.pure rfl) (.cons rfl (.ptr (l := 1) (l' := 1) rfl rfl) (.cons rfl (.ptr (l := 0) (l' := 0) rfl rfl) (.cons rfl (.pure (by simp [pureV, within, withinL, fl_pure])) .nil)))))))) (.cons rfl (.pure rfl) (.cons rfl (.pure rfl) .nil)) (by kernel_rfl) (fun _ h => h.elim) En_ok)
                                    · have h218 := bif_t h117 h144
                                      refine AWl_xrun 4 _ _ _ [(129, .bool true), (135, .bool true), (134, .dead), (133, .dead), (132, .bool true), (131, .bool true), (130, .int .i64 x75), (126, .bool false), (12, .bool false), (11, .int .i64 (-1)), (5, .int .i64 (IntKind.i64.wrap (x71 + 1))), (6, .int .i64 x75), (4, .ptr 1 0), (2, .ptr 0 0), (1, .ro (fl (eI .i64) a3) a3.length none)] [(1, some [.int .i64 0, .int .i64 0, .int .i64 0]), (0, some [.int .i64 x100, .int .i64 x73, .int .i64 x74])] (by kernel_rfl) ?_
                                      refine AWl_nilK [129, 12, 11, 5, 6, 4, 2, 1] [(129, .bool true), (12, .bool false), (11, .int .i64 (-1)), (5, .int .i64 (IntKind.i64.wrap (x71 + 1))), (6, .int .i64 x75), (4, .ptr 1 0), (2, .ptr 0 0), (1, .ro (fl (eI .i64) a3) a3.length none)] (by kernel_rfl) ?_
                                      obtain rfl := Option.some.inj h218
                                      refine Tgt.mk (Weak.ren [] [] (.cons rfl (.pure rfl) (.cons rfl (.pure rfl) (.cons rfl (.pure rfl) (.cons rfl (.pure rfl) (.cons rfl (.pure rfl) (.cons rfl (.ptr (l := 1) (l' := 1) rfl rfl) (.cons rfl (.ptr (l := 0) (l' := 0) rfl rfl) (.cons rfl (.pure (by simp [pureV, within, withinL, fl_pure])) .nil)))))))) (.cons rfl (.pure rfl) (.cons rfl (.pure rfl) .nil)) (by kernel_rfl) (fun _ h => h.elim) En_ok)
                                  · skip
                                    cases h118 : x105
                                    · have h219 := bif_f h118 h216
                                      refine AW_condF rfl ?_
                                      refine AW_skip ?_
                                      refine ablock_n ?_
                                      obtain rfl := Option.some.inj h219
                                      refine Meet.on (Weak.ren [] [] (.cons rfl (.pure rfl) (.cons rfl (.pure rfl) (.cons rfl (.pure rfl) (.cons rfl (.ptr (l := 1) (l' := 1) rfl rfl) (.cons rfl (.ptr (l := 0) (l' := 0) rfl rfl) (.cons rfl (.pure (by simp [pureV, within, withinL, fl_pure])) .nil)))))) (.cons rfl (.pure rfl) (.cons rfl (.pure rfl) .nil)) (by kernel_rfl) (fun _ h => h.elim) En_ok)
                                    · have h220 := bif_t h118 h216
                                      refine AW_condT rfl ?_
                                      refine AW_seq ?_
                                      refine AW_region ?_
                                      refine AWl_xrun 3 _ _ _ [(12, .bool ((x75 : Int) == 48)), (137, .bool ((x75 : Int) == 48)), (136, .int .i64 x75), (129, .bool true), (12, .bool false), (11, .int .i64 (-1)), (5, .int .i64 (IntKind.i64.wrap (x71 + 1))), (6, .int .i64 x75), (4, .ptr 1 0), (2, .ptr 0 0), (1, .ro (fl (eI .i64) a3) a3.length none)] [(1, some [.int .i64 0, .int .i64 0, .int .i64 0]), (0, some [.int .i64 x100, .int .i64 x73, .int .i64 x74])] (by kernel_rfl) ?_
                                      refine AWl_nilK [12, 5, 4, 2, 1] [(12, .bool ((x75 : Int) == 48)), (5, .int .i64 (IntKind.i64.wrap (x71 + 1))), (4, .ptr 1 0), (2, .ptr 0 0), (1, .ro (fl (eI .i64) a3) a3.length none)] (by kernel_rfl) ?_
                                      refine athen_n ?_
                                      refine AW_seq ?_
                                      refine AW_region ?_
                                      refine AWl_xrun 2 _ _ _ [(139, .int .i64 (IntKind.i64.wrap (x71 + 1))), (138, .ro (fl (eI .i64) a3) a3.length none), (12, .bool ((x75 : Int) == 48)), (5, .int .i64 (IntKind.i64.wrap (x71 + 1))), (4, .ptr 1 0), (2, .ptr 0 0), (1, .ro (fl (eI .i64) a3) a3.length none)] [(1, some [.int .i64 0, .int .i64 0, .int .i64 0]), (0, some [.int .i64 x100, .int .i64 x73, .int .i64 x74])] (by kernel_rfl) ?_
                                      obtain ⟨h119, h221⟩ := req_some h220
                                      refine AWl_o (x := .ro (fl (eI .i64) (sub a3 ((IntKind.i64.wrap (x71 + 1)).toNat) a3.length)) ((sub a3 ((IntKind.i64.wrap (x71 + 1)).toNat) a3.length).length) none) (wl := []) (AOp_sliceRo (e := (eI .i64)) (l := a3) (a := (IntKind.i64.wrap (x71 + 1)).toNat) (b := a3.length) rfl rfl rfl rfl rfl (bnd_int rfl h119.1) rfl h119.2.1 h119.2.2 rfl) (by kernel_rfl) (by kernel_rfl) (by kernel_rfl) ?_
                                      refine AWl_xrun 1 _ _ _ [(13, .ro (fl (eI .i64) (sub a3 ((IntKind.i64.wrap (x71 + 1)).toNat) a3.length)) ((sub a3 ((IntKind.i64.wrap (x71 + 1)).toNat) a3.length).length) none), (140, .ro (fl (eI .i64) (sub a3 ((IntKind.i64.wrap (x71 + 1)).toNat) a3.length)) ((sub a3 ((IntKind.i64.wrap (x71 + 1)).toNat) a3.length).length) none), (139, .int .i64 (IntKind.i64.wrap (x71 + 1))), (138, .ro (fl (eI .i64) a3) a3.length none), (12, .bool ((x75 : Int) == 48)), (5, .int .i64 (IntKind.i64.wrap (x71 + 1))), (4, .ptr 1 0), (2, .ptr 0 0), (1, .ro (fl (eI .i64) a3) a3.length none)] [(1, some [.int .i64 0, .int .i64 0, .int .i64 0]), (0, some [.int .i64 x100, .int .i64 x73, .int .i64 x74])] (by kernel_rfl) ?_
                                      refine AWl_nilK [13, 12, 5, 4, 2, 1] [(13, .ro (fl (eI .i64) (sub a3 ((IntKind.i64.wrap (x71 + 1)).toNat) a3.length)) ((sub a3 ((IntKind.i64.wrap (x71 + 1)).toNat) a3.length).length) none), (12, .bool ((x75 : Int) == 48)), (5, .int .i64 (IntKind.i64.wrap (x71 + 1))), (4, .ptr 1 0), (2, .ptr 0 0), (1, .ro (fl (eI .i64) a3) a3.length none)] (by kernel_rfl) ?_
                                      refine athen_n ?_
                                      obtain ⟨x109, h143, h222⟩ := bind_some h221
                                      refine AW_meetN (fun x109 => [(155, .bool x109), (13, .ro (fl (eI .i64) (sub a3 ((IntKind.i64.wrap (x71 + 1)).toNat) a3.length)) ((sub a3 ((IntKind.i64.wrap (x71 + 1)).toNat) a3.length).length) none), (12, .bool ((x75 : Int) == 48)), (5, .int .i64 (IntKind.i64.wrap (x71 + 1))), (4, .ptr 1 0), (2, .ptr 0 0), (1, .ro (fl (eI .i64) a3) a3.length none)]) (fun x109 => [(1, some [.int .i64 0, .int .i64 0, .int .i64 0]), (0, some [.int .i64 x100, .int .i64 x73, .int .i64 x74])]) x109 ?_ ?_
                                      · skip
                                        refine AW_region ?_
                                        refine AWl_xrun 4 _ _ _ [(144, .bool (decide (((sub a3 ((IntKind.i64.wrap (x71 + 1)).toNat) a3.length).length : Int) > 1))), (143, .bool (decide (((sub a3 ((IntKind.i64.wrap (x71 + 1)).toNat) a3.length).length : Int) > 1))), (142, .int .i64 ((sub a3 ((IntKind.i64.wrap (x71 + 1)).toNat) a3.length).length : Int)), (141, .ro (fl (eI .i64) (sub a3 ((IntKind.i64.wrap (x71 + 1)).toNat) a3.length)) ((sub a3 ((IntKind.i64.wrap (x71 + 1)).toNat) a3.length).length) none), (13, .ro (fl (eI .i64) (sub a3 ((IntKind.i64.wrap (x71 + 1)).toNat) a3.length)) ((sub a3 ((IntKind.i64.wrap (x71 + 1)).toNat) a3.length).length) none), (12, .bool ((x75 : Int) == 48)), (5, .int .i64 (IntKind.i64.wrap (x71 + 1))), (4, .ptr 1 0), (2, .ptr 0 0), (1, .ro (fl (eI .i64) a3) a3.length none)] [(1, some [.int .i64 0, .int .i64 0, .int .i64 0]), (0, some [.int .i64 x100, .int .i64 x73, .int .i64 x74])] (by kernel_rfl) ?_
                                        cases h120 : (decide (((sub a3 ((IntKind.i64.wrap (x71 + 1)).toNat) a3.length).length : Int) > 1))
                                        · have h223 := bif_f h120 h143
                                          refine AWl_xrun 11 _ _ _ [(155, .bool false), (154, .dead), (153, .dead), (152, .dead), (151, .dead), (150, .bool false), (149, .bool false), (148, .dead), (147, .dead), (146, .dead), (145, .dead), (144, .bool false), (143, .bool false), (142, .int .i64 ((sub a3 ((IntKind.i64.wrap (x71 + 1)).toNat) a3.length).length : Int)), (141, .ro (fl (eI .i64) (sub a3 ((IntKind.i64.wrap (x71 + 1)).toNat) a3.length)) ((sub a3 ((IntKind.i64.wrap (x71 + 1)).toNat) a3.length).length) none), (13, .ro (fl (eI .i64) (sub a3 ((IntKind.i64.wrap (x71 + 1)).toNat) a3.length)) ((sub a3 ((IntKind.i64.wrap (x71 + 1)).toNat) a3.length).length) none), (12, .bool ((x75 : Int) == 48)), (5, .int .i64 (IntKind.i64.wrap (x71 + 1))), (4, .ptr 1 0), (2, .ptr 0 0), (1, .ro (fl (eI .i64) a3) a3.length none)] [(1, some [.int .i64 0, .int .i64 0, .int .i64 0]), (0, some [.int .i64 x100, .int .i64 x73, .int .i64 x74])] (by kernel_rfl) ?_
                                          refine AWl_nilK [155, 13, 12, 5, 4, 2, 1] [(155, .bool false), (13, .ro (fl (eI .i64) (sub a3 ((IntKind.i64.wrap (x71 + 1)).toNat) a3.length)) ((sub a3 ((IntKind.i64.wrap (x71 + 1)).toNat) a3.length).length) none), (12, .bool ((x75 : Int) == 48)), (5, .int .i64 (IntKind.i64.wrap (x71 + 1))), (4, .ptr 1 0), (2, .ptr 0 0), (1, .ro (fl (eI .i64) a3) a3.length none)] (by kernel_rfl) ?_
                                          obtain rfl := Option.some.inj h223
                                          refine Tgt.mk (Weak.ren [] [] (.cons rfl (.pure rfl) (.cons rfl (.pure (by simp [pureV, within, withinL, fl_pure])) (.cons rfl (.pure rfl) (.cons rfl (.pure rfl) (.cons rfl (.ptr (l := 1) (l' := 1) rfl rfl) (.cons rfl (.ptr (l := 0) (l' := 0) rfl rfl) (.cons rfl (.pure (by simp [pureV, within, withinL, fl_pure])) .nil))))))) (.cons rfl (.pure rfl) (.cons rfl (.pure rfl) .nil)) (by kernel_rfl) (fun _ h => h.elim) En_ok)
                                        · have h224 := bif_t h120 h143
                                          refine AWl_xrun 1 _ _ _ [(145, .ro (fl (eI .i64) (sub a3 ((IntKind.i64.wrap (x71 + 1)).toNat) a3.length)) ((sub a3 ((IntKind.i64.wrap (x71 + 1)).toNat) a3.length).length) none), (144, .bool true), (143, .bool true), (142, .int .i64 ((sub a3 ((IntKind.i64.wrap (x71 + 1)).toNat) a3.length).length : Int)), (141, .ro (fl (eI .i64) (sub a3 ((IntKind.i64.wrap (x71 + 1)).toNat) a3.length)) ((sub a3 ((IntKind.i64.wrap (x71 + 1)).toNat) a3.length).length) none), (13, .ro (fl (eI .i64) (sub a3 ((IntKind.i64.wrap (x71 + 1)).toNat) a3.length)) ((sub a3 ((IntKind.i64.wrap (x71 + 1)).toNat) a3.length).length) none), (12, .bool ((x75 : Int) == 48)), (5, .int .i64 (IntKind.i64.wrap (x71 + 1))), (4, .ptr 1 0), (2, .ptr 0 0), (1, .ro (fl (eI .i64) a3) a3.length none)] [(1, some [.int .i64 0, .int .i64 0, .int .i64 0]), (0, some [.int .i64 x100, .int .i64 x73, .int .i64 x74])] (by kernel_rfl) ?_
                                          obtain ⟨x106, h121, h225⟩ := bind_some h224
                                          refine AWl_o (x := .rop (fl (eI .i64) (sub a3 ((IntKind.i64.wrap (x71 + 1)).toNat) a3.length)) ((0 : Int).toNat * 1)) (wl := []) (AOp_idxRo (e := (eI .i64)) (l := (sub a3 ((IntKind.i64.wrap (x71 + 1)).toNat) a3.length)) 1 rfl rfl rfl rfl rfl rfl h121) (by kernel_rfl) (by kernel_rfl) (by kernel_rfl) ?_
                                          refine AWl_o (x := .int .i64 x106) (wl := []) (AOp_loadEl (e := (eI .i64)) (l := (sub a3 ((IntKind.i64.wrap (x71 + 1)).toNat) a3.length)) (i := 0) 0 1 1 rfl rfl rfl rfl rfl h121 rfl (by kernel_rfl) (by kernel_rfl)) (by kernel_rfl) (by kernel_rfl) (by kernel_rfl) ?_
                                          refine AWl_xrun 3 _ _ _ [(150, .bool ((x106 : Int) == 5)), (149, .bool ((x106 : Int) == 5)), (148, .bool ((x106 : Int) == 5)), (147, .int .i64 x106), (146, .rop (fl (eI .i64) (sub a3 ((IntKind.i64.wrap (x71 + 1)).toNat) a3.length)) ((0 : Int).toNat * 1)), (145, .ro (fl (eI .i64) (sub a3 ((IntKind.i64.wrap (x71 + 1)).toNat) a3.length)) ((sub a3 ((IntKind.i64.wrap (x71 + 1)).toNat) a3.length).length) none), (144, .bool true), (143, .bool true), (142, .int .i64 ((sub a3 ((IntKind.i64.wrap (x71 + 1)).toNat) a3.length).length : Int)), (141, .ro (fl (eI .i64) (sub a3 ((IntKind.i64.wrap (x71 + 1)).toNat) a3.length)) ((sub a3 ((IntKind.i64.wrap (x71 + 1)).toNat) a3.length).length) none), (13, .ro (fl (eI .i64) (sub a3 ((IntKind.i64.wrap (x71 + 1)).toNat) a3.length)) ((sub a3 ((IntKind.i64.wrap (x71 + 1)).toNat) a3.length).length) none), (12, .bool ((x75 : Int) == 48)), (5, .int .i64 (IntKind.i64.wrap (x71 + 1))), (4, .ptr 1 0), (2, .ptr 0 0), (1, .ro (fl (eI .i64) a3) a3.length none)] [(1, some [.int .i64 0, .int .i64 0, .int .i64 0]), (0, some [.int .i64 x100, .int .i64 x73, .int .i64 x74])] (by kernel_rfl) ?_
                                          cases h122 : ((x106 : Int) == 5)
                                          · have h226 := bif_f h122 h225
                                            refine AWl_xrun 5 _ _ _ [(155, .bool false), (154, .dead), (153, .dead), (152, .dead), (151, .dead), (150, .bool false), (149, .bool false), (148, .bool false), (147, .int .i64 x106), (146, .rop (fl (eI .i64) (sub a3 ((IntKind.i64.wrap (x71 + 1)).toNat) a3.length)) ((0 : Int).toNat * 1)), (145, .ro (fl (eI .i64) (sub a3 ((IntKind.i64.wrap (x71 + 1)).toNat) a3.length)) ((sub a3 ((IntKind.i64.wrap (x71 + 1)).toNat) a3.length).length) none), (144, .bool true), (143, .bool true), (142, .int .i64 ((sub a3 ((IntKind.i64.wrap (x71 + 1)).toNat) a3.length).length : Int)), (141, .ro (fl (eI .i64) (sub a3 ((IntKind.i64.wrap (x71 + 1)).toNat) a3.length)) ((sub a3 ((IntKind.i64.wrap (x71 + 1)).toNat) a3.length).length) none), (13, .ro (fl (eI .i64) (sub a3 ((IntKind.i64.wrap (x71 + 1)).toNat) a3.length)) ((sub a3 ((IntKind.i64.wrap (x71 + 1)).toNat) a3.length).length) none), (12, .bool ((x75 : Int) == 48)), (5, .int .i64 (IntKind.i64.wrap (x71 + 1))), (4, .ptr 1 0), (2, .ptr 0 0), (1, .ro (fl (eI .i64) a3) a3.length none)] [(1, some [.int .i64 0, .int .i64 0, .int .i64 0]), (0, some [.int .i64 x100, .int .i64 x73, .int .i64 x74])] (by kernel_rfl) ?_
                                            refine AWl_nilK [155, 148, 147, 146, 145, 13, 12, 5, 4, 2, 1] [(155, .bool false), (148, .bool false), (147, .int .i64 x106), (146, .rop (fl (eI .i64) (sub a3 ((IntKind.i64.wrap (x71 + 1)).toNat) a3.length)) ((0 : Int).toNat * 1)), (145, .ro (fl (eI .i64) (sub a3 ((IntKind.i64.wrap (x71 + 1)).toNat) a3.length)) ((sub a3 ((IntKind.i64.wrap (x71 + 1)).toNat) a3.length).length) none), (13, .ro (fl (eI .i64) (sub a3 ((IntKind.i64.wrap (x71 + 1)).toNat) a3.length)) ((sub a3 ((IntKind.i64.wrap (x71 + 1)).toNat) a3.length).length) none), (12, .bool ((x75 : Int) == 48)), (5, .int .i64 (IntKind.i64.wrap (x71 + 1))), (4, .ptr 1 0), (2, .ptr 0 0), (1, .ro (fl (eI .i64) a3) a3.length none)] (by kernel_rfl) ?_
                                            obtain rfl := Option.some.inj h226
                                            refine Tgt.mk (Weak.ren [] [] (.cons rfl (.pure rfl) (.cons rfl (.pure (by simp [pureV, within, withinL, fl_pure])) (.cons rfl (.pure rfl) (.cons rfl (.pure rfl) (.cons rfl (.ptr (l := 1) (l' := 1) rfl rfl) (.cons rfl (.ptr (l := 0) (l' := 0) rfl rfl) (.cons rfl (.pure (by simp [pureV, within, withinL, fl_pure])) .nil))))))) (.cons rfl (.pure rfl) (.cons rfl (.pure rfl) .nil)) (by kernel_rfl) (fun _ h => h.elim) En_ok)
                                          · have h227 := bif_t h122 h225
                                            refine AWl_xrun 1 _ _ _ [(151, .ro (fl (eI .i64) (sub a3 ((IntKind.i64.wrap (x71 + 1)).toNat) a3.length)) ((sub a3 ((IntKind.i64.wrap (x71 + 1)).toNat) a3.length).length) none), (150, .bool true), (149, .bool true), (148, .bool true), (147, .int .i64 x106), (146, .rop (fl (eI .i64) (sub a3 ((IntKind.i64.wrap (x71 + 1)).toNat) a3.length)) ((0 : Int).toNat * 1)), (145, .ro (fl (eI .i64) (sub a3 ((IntKind.i64.wrap (x71 + 1)).toNat) a3.length)) ((sub a3 ((IntKind.i64.wrap (x71 + 1)).toNat) a3.length).length) none), (144, .bool true), (143, .bool true), (142, .int .i64 ((sub a3 ((IntKind.i64.wrap (x71 + 1)).toNat) a3.length).length : Int)), (141, .ro (fl (eI .i64) (sub a3 ((IntKind.i64.wrap (x71 + 1)).toNat) a3.length)) ((sub a3 ((IntKind.i64.wrap (x71 + 1)).toNat) a3.length).length) none), (13, .ro (fl (eI .i64) (sub a3 ((IntKind.i64.wrap (x71 + 1)).toNat) a3.length)) ((sub a3 ((IntKind.i64.wrap (x71 + 1)).toNat) a3.length).length) none), (12, .bool ((x75 : Int) == 48)), (5, .int .i64 (IntKind.i64.wrap (x71 + 1))), (4, .ptr 1 0), (2, .ptr 0 0), (1, .ro (fl (eI .i64) a3) a3.length none)] [(1, some [.int .i64 0, .int .i64 0, .int .i64 0]), (0, some [.int .i64 x100, .int .i64 x73, .int .i64 x74])] (by kernel_rfl) ?_
                                            obtain ⟨x107, h123, h228⟩ := bind_some h227
                                            refine AWl_o (x := .rop (fl (eI .i64) (sub a3 ((IntKind.i64.wrap (x71 + 1)).toNat) a3.length)) ((1 : Int).toNat * 1)) (wl := []) (AOp_idxRo (e := (eI .i64)) (l := (sub a3 ((IntKind.i64.wrap (x71 + 1)).toNat) a3.length)) 1 rfl rfl rfl rfl rfl rfl h123) (by kernel_rfl) (by kernel_rfl) (by kernel_rfl) ?_
                                            refine AWl_o (x := .int .i64 x107) (wl := []) (AOp_loadEl (e := (eI .i64)) (l := (sub a3 ((IntKind.i64.wrap (x71 + 1)).toNat) a3.length)) (i := 1) 0 1 1 rfl rfl rfl rfl rfl h123 rfl (by kernel_rfl) (by kernel_rfl)) (by kernel_rfl) (by kernel_rfl) (by kernel_rfl) ?_
                                            obtain ⟨x108, h124, h229⟩ := bind_some h228
                                            refine AWl_o (x := .bool x108) (wl := []) (AOp_callP En_ok Tryd.call23 (caps := []) (xs := [.int .i64 x107]) rfl rfl (orielref12_byteLike_ok h124) rfl) (by kernel_rfl) (by kernel_rfl) (by kernel_rfl) ?_
                                            refine AWl_xrun 1 _ _ _ [(155, .bool x108), (154, .bool x108), (153, .int .i64 x107), (152, .rop (fl (eI .i64) (sub a3 ((IntKind.i64.wrap (x71 + 1)).toNat) a3.length)) ((1 : Int).toNat * 1)), (151, .ro (fl (eI .i64) (sub a3 ((IntKind.i64.wrap (x71 + 1)).toNat) a3.length)) ((sub a3 ((IntKind.i64.wrap (x71 + 1)).toNat) a3.length).length) none), (150, .bool true), (149, .bool true), (148, .bool true), (147, .int .i64 x106), (146, .rop (fl (eI .i64) (sub a3 ((IntKind.i64.wrap (x71 + 1)).toNat) a3.length)) ((0 : Int).toNat * 1)), (145, .ro (fl (eI .i64) (sub a3 ((IntKind.i64.wrap (x71 + 1)).toNat) a3.length)) ((sub a3 ((IntKind.i64.wrap (x71 + 1)).toNat) a3.length).length) none), (144, .bool true), (143, .bool true), (142, .int .i64 ((sub a3 ((IntKind.i64.wrap (x71 + 1)).toNat) a3.length).length : Int)), (141, .ro (fl (eI .i64) (sub a3 ((IntKind.i64.wrap (x71 + 1)).toNat) a3.length)) ((sub a3 ((IntKind.i64.wrap (x71 + 1)).toNat) a3.length).length) none), (13, .ro (fl (eI .i64) (sub a3 ((IntKind.i64.wrap (x71 + 1)).toNat) a3.length)) ((sub a3 ((IntKind.i64.wrap (x71 + 1)).toNat) a3.length).length) none), (12, .bool ((x75 : Int) == 48)), (5, .int .i64 (IntKind.i64.wrap (x71 + 1))), (4, .ptr 1 0), (2, .ptr 0 0), (1, .ro (fl (eI .i64) a3) a3.length none)] [(1, some [.int .i64 0, .int .i64 0, .int .i64 0]), (0, some [.int .i64 x100, .int .i64 x73, .int .i64 x74])] (by kernel_rfl) ?_
                                            refine AWl_nilK [155, 154, 153, 152, 151, 148, 147, 146, 145, 13, 12, 5, 4, 2, 1] [(155, .bool x108), (154, .bool x108), (153, .int .i64 x107), (152, .rop (fl (eI .i64) (sub a3 ((IntKind.i64.wrap (x71 + 1)).toNat) a3.length)) ((1 : Int).toNat * 1)), (151, .ro (fl (eI .i64) (sub a3 ((IntKind.i64.wrap (x71 + 1)).toNat) a3.length)) ((sub a3 ((IntKind.i64.wrap (x71 + 1)).toNat) a3.length).length) none), (148, .bool true), (147, .int .i64 x106), (146, .rop (fl (eI .i64) (sub a3 ((IntKind.i64.wrap (x71 + 1)).toNat) a3.length)) ((0 : Int).toNat * 1)), (145, .ro (fl (eI .i64) (sub a3 ((IntKind.i64.wrap (x71 + 1)).toNat) a3.length)) ((sub a3 ((IntKind.i64.wrap (x71 + 1)).toNat) a3.length).length) none), (13, .ro (fl (eI .i64) (sub a3 ((IntKind.i64.wrap (x71 + 1)).toNat) a3.length)) ((sub a3 ((IntKind.i64.wrap (x71 + 1)).toNat) a3.length).length) none), (12, .bool ((x75 : Int) == 48)), (5, .int .i64 (IntKind.i64.wrap (x71 + 1))), (4, .ptr 1 0), (2, .ptr 0 0), (1, .ro (fl (eI .i64) a3) a3.length none)] (by kernel_rfl) ?_
                                            obtain rfl := Option.some.inj h229
                                            refine Tgt.mk (Weak.ren [] [] (.cons rfl (.pure rfl) (.cons rfl (.pure (by simp [pureV, within, withinL, fl_pure])) (.cons rfl (.pure rfl) (.cons rfl (.pure rfl) (.cons rfl (.ptr (l := 1) (l' := 1) rfl rfl) (.cons rfl (.ptr (l := 0) (l' := 0) rfl rfl) (.cons rfl (.pure (by simp [pureV, within, withinL, fl_pure])) .nil))))))) (.cons rfl (.pure rfl) (.cons rfl (.pure rfl) .nil)) (by kernel_rfl) (fun _ h => h.elim) En_ok)
                                      · skip
                                        cases h125 : x109
                                        · have h230 := bif_f h125 h222
                                          refine AW_condF rfl ?_
                                          obtain ⟨x117, h141, h231⟩ := bind_some h230
                                          refine AW_meetN (fun x117 => [(188, .bool x117), (13, .ro (fl (eI .i64) (sub a3 ((IntKind.i64.wrap (x71 + 1)).toNat) a3.length)) ((sub a3 ((IntKind.i64.wrap (x71 + 1)).toNat) a3.length).length) none), (12, .bool ((x75 : Int) == 48)), (5, .int .i64 (IntKind.i64.wrap (x71 + 1))), (4, .ptr 1 0), (2, .ptr 0 0), (1, .ro (fl (eI .i64) a3) a3.length none)]) (fun x117 => [(1, some [.int .i64 0, .int .i64 0, .int .i64 0]), (0, some [.int .i64 x100, .int .i64 x73, .int .i64 x74])]) x117 ?_ ?_
                                          · skip
                                            refine AW_region ?_
                                            refine AWl_xrun 4 _ _ _ [(165, .bool (decide (((sub a3 ((IntKind.i64.wrap (x71 + 1)).toNat) a3.length).length : Int) > 3))), (164, .bool (decide (((sub a3 ((IntKind.i64.wrap (x71 + 1)).toNat) a3.length).length : Int) > 3))), (163, .int .i64 ((sub a3 ((IntKind.i64.wrap (x71 + 1)).toNat) a3.length).length : Int)), (162, .ro (fl (eI .i64) (sub a3 ((IntKind.i64.wrap (x71 + 1)).toNat) a3.length)) ((sub a3 ((IntKind.i64.wrap (x71 + 1)).toNat) a3.length).length) none), (155, .bool false), (13, .ro (fl (eI .i64) (sub a3 ((IntKind.i64.wrap (x71 + 1)).toNat) a3.length)) ((sub a3 ((IntKind.i64.wrap (x71 + 1)).toNat) a3.length).length) none), (12, .bool ((x75 : Int) == 48)), (5, .int .i64 (IntKind.i64.wrap (x71 + 1))), (4, .ptr 1 0), (2, .ptr 0 0), (1, .ro (fl (eI .i64) a3) a3.length none)] [(1, some [.int .i64 0, .int .i64 0, .int .i64 0]), (0, some [.int .i64 x100, .int .i64 x73, .int .i64 x74])] (by kernel_rfl) ?_
                                            cases h126 : (decide (((sub a3 ((IntKind.i64.wrap (x71 + 1)).toNat) a3.length).length : Int) > 3))
                                            · have h232 := bif_f h126 h141
                                              refine AWl_xrun 23 _ _ _ [(188, .bool false), (187, .dead), (186, .dead), (185, .dead), (184, .dead), (183, .bool false), (182, .bool false), (181, .dead), (180, .dead), (179, .dead), (178, .dead), (177, .bool false), (176, .bool false), (175, .dead), (174, .dead), (173, .dead), (172, .dead), (171, .bool false), (170, .bool false), (169, .dead), (168, .dead), (167, .dead), (166, .dead), (165, .bool false), (164, .bool false), (163, .int .i64 ((sub a3 ((IntKind.i64.wrap (x71 + 1)).toNat) a3.length).length : Int)), (162, .ro (fl (eI .i64) (sub a3 ((IntKind.i64.wrap (x71 + 1)).toNat) a3.length)) ((sub a3 ((IntKind.i64.wrap (x71 + 1)).toNat) a3.length).length) none), (155, .bool false), (13, .ro (fl (eI .i64) (sub a3 ((IntKind.i64.wrap (x71 + 1)).toNat) a3.length)) ((sub a3 ((IntKind.i64.wrap (x71 + 1)).toNat) a3.length).length) none), (12, .bool ((x75 : Int) == 48)), (5, .int .i64 (IntKind.i64.wrap (x71 + 1))), (4, .ptr 1 0), (2, .ptr 0 0), (1, .ro (fl (eI .i64) a3) a3.length none)] [(1, some [.int .i64 0, .int .i64 0, .int .i64 0]), (0, some [.int .i64 x100, .int .i64 x73, .int .i64 x74])] (by kernel_rfl) ?_
                                              refine AWl_nilK [188, 13, 12, 5, 4, 2, 1] [(188, .bool false), (13, .ro (fl (eI .i64) (sub a3 ((IntKind.i64.wrap (x71 + 1)).toNat) a3.length)) ((sub a3 ((IntKind.i64.wrap (x71 + 1)).toNat) a3.length).length) none), (12, .bool ((x75 : Int) == 48)), (5, .int .i64 (IntKind.i64.wrap (x71 + 1))), (4, .ptr 1 0), (2, .ptr 0 0), (1, .ro (fl (eI .i64) a3) a3.length none)] (by kernel_rfl) ?_
                                              obtain rfl := Option.some.inj h232
                                              refine Tgt.mk (Weak.ren [] [] (.cons rfl (.pure rfl) (.cons rfl (.pure (by simp [pureV, within, withinL, fl_pure])) (.cons rfl (.pure rfl) (.cons rfl (.pure rfl) (.cons rfl (.ptr (l := 1) (l' := 1) rfl rfl) (.cons rfl (.ptr (l := 0) (l' := 0) rfl rfl) (.cons rfl (.pure (by simp [pureV, within, withinL, fl_pure])) .nil))))))) (.cons rfl (.pure rfl) (.cons rfl (.pure rfl) .nil)) (by kernel_rfl) (fun _ h => h.elim) En_ok)
                                            · have h233 := bif_t h126 h141
                                              refine AWl_xrun 1 _ _ _ [(166, .ro (fl (eI .i64) (sub a3 ((IntKind.i64.wrap (x71 + 1)).toNat) a3.length)) ((sub a3 ((IntKind.i64.wrap (x71 + 1)).toNat) a3.length).length) none), (165, .bool true), (164, .bool true), (163, .int .i64 ((sub a3 ((IntKind.i64.wrap (x71 + 1)).toNat) a3.length).length : Int)), (162, .ro (fl (eI .i64) (sub a3 ((IntKind.i64.wrap (x71 + 1)).toNat) a3.length)) ((sub a3 ((IntKind.i64.wrap (x71 + 1)).toNat) a3.length).length) none), (155, .bool false), (13, .ro (fl (eI .i64) (sub a3 ((IntKind.i64.wrap (x71 + 1)).toNat) a3.length)) ((sub a3 ((IntKind.i64.wrap (x71 + 1)).toNat) a3.length).length) none), (12, .bool ((x75 : Int) == 48)), (5, .int .i64 (IntKind.i64.wrap (x71 + 1))), (4, .ptr 1 0), (2, .ptr 0 0), (1, .ro (fl (eI .i64) a3) a3.length none)] [(1, some [.int .i64 0, .int .i64 0, .int .i64 0]), (0, some [.int .i64 x100, .int .i64 x73, .int .i64 x74])] (by kernel_rfl) ?_
                                              obtain ⟨x110, h127, h234⟩ := bind_some h233
                                              refine AWl_o (x := .rop (fl (eI .i64) (sub a3 ((IntKind.i64.wrap (x71 + 1)).toNat) a3.length)) ((0 : Int).toNat * 1)) (wl := []) (AOp_idxRo (e := (eI .i64)) (l := (sub a3 ((IntKind.i64.wrap (x71 + 1)).toNat) a3.length)) 1 rfl rfl rfl rfl rfl rfl h127) (by kernel_rfl) (by kernel_rfl) (by kernel_rfl) ?_
                                              refine AWl_o (x := .int .i64 x110) (wl := []) (AOp_loadEl (e := (eI .i64)) (l := (sub a3 ((IntKind.i64.wrap (x71 + 1)).toNat) a3.length)) (i := 0) 0 1 1 rfl rfl rfl rfl rfl h127 rfl (by kernel_rfl) (by kernel_rfl)) (by kernel_rfl) (by kernel_rfl) (by kernel_rfl) ?_
                                              refine AWl_xrun 3 _ _ _ [(171, .bool ((x110 : Int) == 2)), (170, .bool ((x110 : Int) == 2)), (169, .bool ((x110 : Int) == 2)), (168, .int .i64 x110), (167, .rop (fl (eI .i64) (sub a3 ((IntKind.i64.wrap (x71 + 1)).toNat) a3.length)) ((0 : Int).toNat * 1)), (166, .ro (fl (eI .i64) (sub a3 ((IntKind.i64.wrap (x71 + 1)).toNat) a3.length)) ((sub a3 ((IntKind.i64.wrap (x71 + 1)).toNat) a3.length).length) none), (165, .bool true), (164, .bool true), (163, .int .i64 ((sub a3 ((IntKind.i64.wrap (x71 + 1)).toNat) a3.length).length : Int)), (162, .ro (fl (eI .i64) (sub a3 ((IntKind.i64.wrap (x71 + 1)).toNat) a3.length)) ((sub a3 ((IntKind.i64.wrap (x71 + 1)).toNat) a3.length).length) none), (155, .bool false), (13, .ro (fl (eI .i64) (sub a3 ((IntKind.i64.wrap (x71 + 1)).toNat) a3.length)) ((sub a3 ((IntKind.i64.wrap (x71 + 1)).toNat) a3.length).length) none), (12, .bool ((x75 : Int) == 48)), (5, .int .i64 (IntKind.i64.wrap (x71 + 1))), (4, .ptr 1 0), (2, .ptr 0 0), (1, .ro (fl (eI .i64) a3) a3.length none)] [(1, some [.int .i64 0, .int .i64 0, .int .i64 0]), (0, some [.int .i64 x100, .int .i64 x73, .int .i64 x74])] (by kernel_rfl) ?_
                                              cases h128 : ((x110 : Int) == 2)
                                              · have h235 := bif_f h128 h234
                                                refine AWl_xrun 17 _ _ _ [(188, .bool false), (187, .dead), (186, .dead), (185, .dead), (184, .dead), (183, .bool false), (182, .bool false), (181, .dead), (180, .dead), (179, .dead), (178, .dead), (177, .bool false), (176, .bool false), (175, .dead), (174, .dead), (173, .dead), (172, .dead), (171, .bool false), (170, .bool false), (169, .bool false), (168, .int .i64 x110), (167, .rop (fl (eI .i64) (sub a3 ((IntKind.i64.wrap (x71 + 1)).toNat) a3.length)) ((0 : Int).toNat * 1)), (166, .ro (fl (eI .i64) (sub a3 ((IntKind.i64.wrap (x71 + 1)).toNat) a3.length)) ((sub a3 ((IntKind.i64.wrap (x71 + 1)).toNat) a3.length).length) none), (165, .bool true), (164, .bool true), (163, .int .i64 ((sub a3 ((IntKind.i64.wrap (x71 + 1)).toNat) a3.length).length : Int)), (162, .ro (fl (eI .i64) (sub a3 ((IntKind.i64.wrap (x71 + 1)).toNat) a3.length)) ((sub a3 ((IntKind.i64.wrap (x71 + 1)).toNat) a3.length).length) none), (155, .bool false), (13, .ro (fl (eI .i64) (sub a3 ((IntKind.i64.wrap (x71 + 1)).toNat) a3.length)) ((sub a3 ((IntKind.i64.wrap (x71 + 1)).toNat) a3.length).length) none), (12, .bool ((x75 : Int) == 48)), (5, .int .i64 (IntKind.i64.wrap (x71 + 1))), (4, .ptr 1 0), (2, .ptr 0 0), (1, .ro (fl (eI .i64) a3) a3.length none)] [(1, some [.int .i64 0, .int .i64 0, .int .i64 0]), (0, some [.int .i64 x100, .int .i64 x73, .int .i64 x74])] (by kernel_rfl) ?_
                                                refine AWl_nilK [188, 169, 168, 167, 166, 13, 12, 5, 4, 2, 1] [(188, .bool false), (169, .bool false), (168, .int .i64 x110), (167, .rop (fl (eI .i64) (sub a3 ((IntKind.i64.wrap (x71 + 1)).toNat) a3.length)) ((0 : Int).toNat * 1)), (166, .ro (fl (eI .i64) (sub a3 ((IntKind.i64.wrap (x71 + 1)).toNat) a3.length)) ((sub a3 ((IntKind.i64.wrap (x71 + 1)).toNat) a3.length).length) none), (13, .ro (fl (eI .i64) (sub a3 ((IntKind.i64.wrap (x71 + 1)).toNat) a3.length)) ((sub a3 ((IntKind.i64.wrap (x71 + 1)).toNat) a3.length).length) none), (12, .bool ((x75 : Int) == 48)), (5, .int .i64 (IntKind.i64.wrap (x71 + 1))), (4, .ptr 1 0), (2, .ptr 0 0), (1, .ro (fl (eI .i64) a3) a3.length none)] (by kernel_rfl) ?_
                                                obtain rfl := Option.some.inj h235
                                                refine Tgt.mk (Weak.ren [] [] (.cons rfl (.pure rfl) (.cons rfl (.pure (by simp [pureV, within, withinL, fl_pure])) (.cons rfl (.pure rfl) (.cons rfl (.pure rfl) (.cons rfl (.ptr (l := 1) (l' := 1) rfl rfl) (.cons rfl (.ptr (l := 0) (l' := 0) rfl rfl) (.cons rfl (.pure (by simp [pureV, within, withinL, fl_pure])) .nil))))))) (.cons rfl (.pure rfl) (.cons rfl (.pure rfl) .nil)) (by kernel_rfl) (fun _ h => h.elim) En_ok)
                                              · have h236 := bif_t h128 h234
                                                refine AWl_xrun 1 _ _ _ [(172, .ro (fl (eI .i64) (sub a3 ((IntKind.i64.wrap (x71 + 1)).toNat) a3.length)) ((sub a3 ((IntKind.i64.wrap (x71 + 1)).toNat) a3.length).length) none), (171, .bool true), (170, .bool true), (169, .bool true), (168, .int .i64 x110), (167, .rop (fl (eI .i64) (sub a3 ((IntKind.i64.wrap (x71 + 1)).toNat) a3.length)) ((0 : Int).toNat * 1)), (166, .ro (fl (eI .i64) (sub a3 ((IntKind.i64.wrap (x71 + 1)).toNat) a3.length)) ((sub a3 ((IntKind.i64.wrap (x71 + 1)).toNat) a3.length).length) none), (165, .bool true), (164, .bool true), (163, .int .i64 ((sub a3 ((IntKind.i64.wrap (x71 + 1)).toNat) a3.length).length : Int)), (162, .ro (fl (eI .i64) (sub a3 ((IntKind.i64.wrap (x71 + 1)).toNat) a3.length)) ((sub a3 ((IntKind.i64.wrap (x71 + 1)).toNat) a3.length).length) none), (155, .bool false), (13, .ro (fl (eI .i64) (sub a3 ((IntKind.i64.wrap (x71 + 1)).toNat) a3.length)) ((sub a3 ((IntKind.i64.wrap (x71 + 1)).toNat) a3.length).length) none), (12, .bool ((x75 : Int) == 48)), (5, .int .i64 (IntKind.i64.wrap (x71 + 1))), (4, .ptr 1 0), (2, .ptr 0 0), (1, .ro (fl (eI .i64) a3) a3.length none)] [(1, some [.int .i64 0, .int .i64 0, .int .i64 0]), (0, some [.int .i64 x100, .int .i64 x73, .int .i64 x74])] (by kernel_rfl) ?_
                                                obtain ⟨x111, h129, h237⟩ := bind_some h236
                                                refine AWl_o (x := .rop (fl (eI .i64) (sub a3 ((IntKind.i64.wrap (x71 + 1)).toNat) a3.length)) ((1 : Int).toNat * 1)) (wl := []) (AOp_idxRo (e := (eI .i64)) (l := (sub a3 ((IntKind.i64.wrap (x71 + 1)).toNat) a3.length)) 1 rfl rfl rfl rfl rfl rfl h129) (by kernel_rfl) (by kernel_rfl) (by kernel_rfl) ?_
                                                refine AWl_o (x := .int .i64 x111) (wl := []) (AOp_loadEl (e := (eI .i64)) (l := (sub a3 ((IntKind.i64.wrap (x71 + 1)).toNat) a3.length)) (i := 1) 0 1 1 rfl rfl rfl rfl rfl h129 rfl (by kernel_rfl) (by kernel_rfl)) (by kernel_rfl) (by kernel_rfl) (by kernel_rfl) ?_
                                                obtain ⟨x112, h130, h238⟩ := bind_some h237
                                                refine AWl_o (x := .bool x112) (wl := []) (AOp_callP En_ok Tryd.call23 (caps := []) (xs := [.int .i64 x111]) rfl rfl (orielref12_byteLike_ok h130) rfl) (by kernel_rfl) (by kernel_rfl) (by kernel_rfl) ?_
                                                refine AWl_xrun 2 _ _ _ [(177, .bool x112), (176, .bool x112), (175, .bool x112), (174, .int .i64 x111), (173, .rop (fl (eI .i64) (sub a3 ((IntKind.i64.wrap (x71 + 1)).toNat) a3.length)) ((1 : Int).toNat * 1)), (172, .ro (fl (eI .i64) (sub a3 ((IntKind.i64.wrap (x71 + 1)).toNat) a3.length)) ((sub a3 ((IntKind.i64.wrap (x71 + 1)).toNat) a3.length).length) none), (171, .bool true), (170, .bool true), (169, .bool true), (168, .int .i64 x110), (167, .rop (fl (eI .i64) (sub a3 ((IntKind.i64.wrap (x71 + 1)).toNat) a3.length)) ((0 : Int).toNat * 1)), (166, .ro (fl (eI .i64) (sub a3 ((IntKind.i64.wrap (x71 + 1)).toNat) a3.length)) ((sub a3 ((IntKind.i64.wrap (x71 + 1)).toNat) a3.length).length) none), (165, .bool true), (164, .bool true), (163, .int .i64 ((sub a3 ((IntKind.i64.wrap (x71 + 1)).toNat) a3.length).length : Int)), (162, .ro (fl (eI .i64) (sub a3 ((IntKind.i64.wrap (x71 + 1)).toNat) a3.length)) ((sub a3 ((IntKind.i64.wrap (x71 + 1)).toNat) a3.length).length) none), (155, .bool false), (13, .ro (fl (eI .i64) (sub a3 ((IntKind.i64.wrap (x71 + 1)).toNat) a3.length)) ((sub a3 ((IntKind.i64.wrap (x71 + 1)).toNat) a3.length).length) none), (12, .bool ((x75 : Int) == 48)), (5, .int .i64 (IntKind.i64.wrap (x71 + 1))), (4, .ptr 1 0), (2, .ptr 0 0), (1, .ro (fl (eI .i64) a3) a3.length none)] [(1, some [.int .i64 0, .int .i64 0, .int .i64 0]), (0, some [.int .i64 x100, .int .i64 x73, .int .i64 x74])] (by kernel_rfl) ?_
                                                cases h131 : x112
                                                · have h239 := bif_f h131 h238
                                                  refine AWl_xrun 11 _ _ _ [(188, .bool false), (187, .dead), (186, .dead), (185, .dead), (184, .dead), (183, .bool false), (182, .bool false), (181, .dead), (180, .dead), (179, .dead), (178, .dead), (177, .bool false), (176, .bool false), (175, .bool false), (174, .int .i64 x111), (173, .rop (fl (eI .i64) (sub a3 ((IntKind.i64.wrap (x71 + 1)).toNat) a3.length)) ((1 : Int).toNat * 1)), (172, .ro (fl (eI .i64) (sub a3 ((IntKind.i64.wrap (x71 + 1)).toNat) a3.length)) ((sub a3 ((IntKind.i64.wrap (x71 + 1)).toNat) a3.length).length) none), (171, .bool true), (170, .bool true), (169, .bool true), (168, .int .i64 x110), (167, .rop (fl (eI .i64) (sub a3 ((IntKind.i64.wrap (x71 + 1)).toNat) a3.length)) ((0 : Int).toNat * 1)), (166, .ro (fl (eI .i64) (sub a3 ((IntKind.i64.wrap (x71 + 1)).toNat) a3.length)) ((sub a3 ((IntKind.i64.wrap (x71 + 1)).toNat) a3.length).length) none), (165, .bool true), (164, .bool true), (163, .int .i64 ((sub a3 ((IntKind.i64.wrap (x71 + 1)).toNat) a3.length).length : Int)), (162, .ro (fl (eI .i64) (sub a3 ((IntKind.i64.wrap (x71 + 1)).toNat) a3.length)) ((sub a3 ((IntKind.i64.wrap (x71 + 1)).toNat) a3.length).length) none), (155, .bool false), (13, .ro (fl (eI .i64) (sub a3 ((IntKind.i64.wrap (x71 + 1)).toNat) a3.length)) ((sub a3 ((IntKind.i64.wrap (x71 + 1)).toNat) a3.length).length) none), (12, .bool ((x75 : Int) == 48)), (5, .int .i64 (IntKind.i64.wrap (x71 + 1))), (4, .ptr 1 0), (2, .ptr 0 0), (1, .ro (fl (eI .i64) a3) a3.length none)] [(1, some [.int .i64 0, .int .i64 0, .int .i64 0]), (0, some [.int .i64 x100, .int .i64 x73, .int .i64 x74])] (by kernel_rfl) ?_
                                                  refine AWl_nilK [188, 175, 174, 173, 172, 169, 168, 167, 166, 13, 12, 5, 4, 2, 1] [(188, .bool false), (175, .bool false), (174, .int .i64 x111), (173, .rop (fl (eI .i64) (sub a3 ((IntKind.i64.wrap (x71 + 1)).toNat) a3.length)) ((1 : Int).toNat * 1)), (172, .ro (fl (eI .i64) (sub a3 ((IntKind.i64.wrap (x71 + 1)).toNat) a3.length)) ((sub a3 ((IntKind.i64.wrap (x71 + 1)).toNat) a3.length).length) none), (169, .bool true), (168, .int .i64 x110), (167, .rop (fl (eI .i64) (sub a3 ((IntKind.i64.wrap (x71 + 1)).toNat) a3.length)) ((0 : Int).toNat * 1)), (166, .ro (fl (eI .i64) (sub a3 ((IntKind.i64.wrap (x71 + 1)).toNat) a3.length)) ((sub a3 ((IntKind.i64.wrap (x71 + 1)).toNat) a3.length).length) none), (13, .ro (fl (eI .i64) (sub a3 ((IntKind.i64.wrap (x71 + 1)).toNat) a3.length)) ((sub a3 ((IntKind.i64.wrap (x71 + 1)).toNat) a3.length).length) none), (12, .bool ((x75 : Int) == 48)), (5, .int .i64 (IntKind.i64.wrap (x71 + 1))), (4, .ptr 1 0), (2, .ptr 0 0), (1, .ro (fl (eI .i64) a3) a3.length none)] (by kernel_rfl) ?_
                                                  obtain rfl := Option.some.inj h239
                                                  refine Tgt.mk (Weak.ren [] [] (.cons rfl (.pure rfl) (.cons rfl (.pure (by simp [pureV, within, withinL, fl_pure])) (.cons rfl (.pure rfl) (.cons rfl (.pure rfl) (.cons rfl (.ptr (l := 1) (l' := 1) rfl rfl) (.cons rfl (.ptr (l := 0) (l' := 0) rfl rfl) (.cons rfl (.pure (by simp [pureV, within, withinL, fl_pure])) .nil))))))) (.cons rfl (.pure rfl) (.cons rfl (.pure rfl) .nil)) (by kernel_rfl) (fun _ h => h.elim) En_ok)
                                                · have h240 := bif_t h131 h238
                                                  refine AWl_xrun 1 _ _ _ [(178, .ro (fl (eI .i64) (sub a3 ((IntKind.i64.wrap (x71 + 1)).toNat) a3.length)) ((sub a3 ((IntKind.i64.wrap (x71 + 1)).toNat) a3.length).length) none), (177, .bool true), (176, .bool true), (175, .bool true), (174, .int .i64 x111), (173, .rop (fl (eI .i64) (sub a3 ((IntKind.i64.wrap (x71 + 1)).toNat) a3.length)) ((1 : Int).toNat * 1)), (172, .ro (fl (eI .i64) (sub a3 ((IntKind.i64.wrap (x71 + 1)).toNat) a3.length)) ((sub a3 ((IntKind.i64.wrap (x71 + 1)).toNat) a3.length).length) none), (171, .bool true), (170, .bool true), (169, .bool true), (168, .int .i64 x110), (167, .rop (fl (eI .i64) (sub a3 ((IntKind.i64.wrap (x71 + 1)).toNat) a3.length)) ((0 : Int).toNat * 1)), (166, .ro (fl (eI .i64) (sub a3 ((IntKind.i64.wrap (x71 + 1)).toNat) a3.length)) ((sub a3 ((IntKind.i64.wrap (x71 + 1)).toNat) a3.length).length) none), (165, .bool true), (164, .bool true), (163, .int .i64 ((sub a3 ((IntKind.i64.wrap (x71 + 1)).toNat) a3.length).length : Int)), (162, .ro (fl (eI .i64) (sub a3 ((IntKind.i64.wrap (x71 + 1)).toNat) a3.length)) ((sub a3 ((IntKind.i64.wrap (x71 + 1)).toNat) a3.length).length) none), (155, .bool false), (13, .ro (fl (eI .i64) (sub a3 ((IntKind.i64.wrap (x71 + 1)).toNat) a3.length)) ((sub a3 ((IntKind.i64.wrap (x71 + 1)).toNat) a3.length).length) none), (12, .bool ((x75 : Int) == 48)), (5, .int .i64 (IntKind.i64.wrap (x71 + 1))), (4, .ptr 1 0), (2, .ptr 0 0), (1, .ro (fl (eI .i64) a3) a3.length none)] [(1, some [.int .i64 0, .int .i64 0, .int .i64 0]), (0, some [.int .i64 x100, .int .i64 x73, .int .i64 x74])] (by kernel_rfl) ?_
                                                  obtain ⟨x113, h132, h241⟩ := bind_some h240
                                                  refine AWl_o (x := .rop (fl (eI .i64) (sub a3 ((IntKind.i64.wrap (x71 + 1)).toNat) a3.length)) ((2 : Int).toNat * 1)) (wl := []) (AOp_idxRo (e := (eI .i64)) (l := (sub a3 ((IntKind.i64.wrap (x71 + 1)).toNat) a3.length)) 1 rfl rfl rfl rfl rfl rfl h132) (by kernel_rfl) (by kernel_rfl) (by kernel_rfl) ?_
                                                  refine AWl_o (x := .int .i64 x113) (wl := []) (AOp_loadEl (e := (eI .i64)) (l := (sub a3 ((IntKind.i64.wrap (x71 + 1)).toNat) a3.length)) (i := 2) 0 1 1 rfl rfl rfl rfl rfl h132 rfl (by kernel_rfl) (by kernel_rfl)) (by kernel_rfl) (by kernel_rfl) (by kernel_rfl) ?_
                                                  obtain ⟨x114, h133, h242⟩ := bind_some h241
                                                  refine AWl_o (x := .bool x114) (wl := []) (AOp_callP En_ok Tryd.call23 (caps := []) (xs := [.int .i64 x113]) rfl rfl (orielref12_byteLike_ok h133) rfl) (by kernel_rfl) (by kernel_rfl) (by kernel_rfl) ?_
                                                  refine AWl_xrun 2 _ _ _ [(183, .bool x114), (182, .bool x114), (181, .bool x114), (180, .int .i64 x113), (179, .rop (fl (eI .i64) (sub a3 ((IntKind.i64.wrap (x71 + 1)).toNat) a3.length)) ((2 : Int).toNat * 1)), (178, .ro (fl (eI .i64) (sub a3 ((IntKind.i64.wrap (x71 + 1)).toNat) a3.length)) ((sub a3 ((IntKind.i64.wrap (x71 + 1)).toNat) a3.length).length) none), (177, .bool true), (176, .bool true), (175, .bool true), (174, .int .i64 x111), (173, .rop (fl (eI .i64) (sub a3 ((IntKind.i64.wrap (x71 + 1)).toNat) a3.length)) ((1 : Int).toNat * 1)), (172, .ro (fl (eI .i64) (sub a3 ((IntKind.i64.wrap (x71 + 1)).toNat) a3.length)) ((sub a3 ((IntKind.i64.wrap (x71 + 1)).toNat) a3.length).length) none), (171, .bool true), (170, .bool true), (169, .bool true), (168, .int .i64 x110), (167, .rop (fl (eI .i64) (sub a3 ((IntKind.i64.wrap (x71 + 1)).toNat) a3.length)) ((0 : Int).toNat * 1)), (166, .ro (fl (eI .i64) (sub a3 ((IntKind.i64.wrap (x71 + 1)).toNat) a3.length)) ((sub a3 ((IntKind.i64.wrap (x71 + 1)).toNat) a3.length).length) none), (165, .bool true), (164, .bool true), (163, .int .i64 ((sub a3 ((IntKind.i64.wrap (x71 + 1)).toNat) a3.length).length : Int)), (162, .ro (fl (eI .i64) (sub a3 ((IntKind.i64.wrap (x71 + 1)).toNat) a3.length)) ((sub a3 ((IntKind.i64.wrap (x71 + 1)).toNat) a3.length).length) none), (155, .bool false), (13, .ro (fl (eI .i64) (sub a3 ((IntKind.i64.wrap (x71 + 1)).toNat) a3.length)) ((sub a3 ((IntKind.i64.wrap (x71 + 1)).toNat) a3.length).length) none), (12, .bool ((x75 : Int) == 48)), (5, .int .i64 (IntKind.i64.wrap (x71 + 1))), (4, .ptr 1 0), (2, .ptr 0 0), (1, .ro (fl (eI .i64) a3) a3.length none)] [(1, some [.int .i64 0, .int .i64 0, .int .i64 0]), (0, some [.int .i64 x100, .int .i64 x73, .int .i64 x74])] (by kernel_rfl) ?_
                                                  cases h134 : x114
                                                  · have h243 := bif_f h134 h242
                                                    refine AWl_xrun 5 _ _ _ [(188, .bool false), (187, .dead), (186, .dead), (185, .dead), (184, .dead), (183, .bool false), (182, .bool false), (181, .bool false), (180, .int .i64 x113), (179, .rop (fl (eI .i64) (sub a3 ((IntKind.i64.wrap (x71 + 1)).toNat) a3.length)) ((2 : Int).toNat * 1)), (178, .ro (fl (eI .i64) (sub a3 ((IntKind.i64.wrap (x71 + 1)).toNat) a3.length)) ((sub a3 ((IntKind.i64.wrap (x71 + 1)).toNat) a3.length).length) none), (177, .bool true), (176, .bool true), (175, .bool true), (174, .int .i64 x111), (173, .rop (fl (eI .i64) (sub a3 ((IntKind.i64.wrap (x71 + 1)).toNat) a3.length)) ((1 : Int).toNat * 1)), (172, .ro (fl (eI .i64) (sub a3 ((IntKind.i64.wrap (x71 + 1)).toNat) a3.length)) ((sub a3 ((IntKind.i64.wrap (x71 + 1)).toNat) a3.length).length) none), (171, .bool true), (170, .bool true), (169, .bool true), (168, .int .i64 x110), (167, .rop (fl (eI .i64) (sub a3 ((IntKind.i64.wrap (x71 + 1)).toNat) a3.length)) ((0 : Int).toNat * 1)), (166, .ro (fl (eI .i64) (sub a3 ((IntKind.i64.wrap (x71 + 1)).toNat) a3.length)) ((sub a3 ((IntKind.i64.wrap (x71 + 1)).toNat) a3.length).length) none), (165, .bool true), (164, .bool true), (163, .int .i64 ((sub a3 ((IntKind.i64.wrap (x71 + 1)).toNat) a3.length).length : Int)), (162, .ro (fl (eI .i64) (sub a3 ((IntKind.i64.wrap (x71 + 1)).toNat) a3.length)) ((sub a3 ((IntKind.i64.wrap (x71 + 1)).toNat) a3.length).length) none), (155, .bool false), (13, .ro (fl (eI .i64) (sub a3 ((IntKind.i64.wrap (x71 + 1)).toNat) a3.length)) ((sub a3 ((IntKind.i64.wrap (x71 + 1)).toNat) a3.length).length) none), (12, .bool ((x75 : Int) == 48)), (5, .int .i64 (IntKind.i64.wrap (x71 + 1))), (4, .ptr 1 0), (2, .ptr 0 0), (1, .ro (fl (eI .i64) a3) a3.length none)] [(1, some [.int .i64 0, .int .i64 0, .int .i64 0]), (0, some [.int .i64 x100, .int .i64 x73, .int .i64 x74])] (by kernel_rfl) ?_
                                                    refine AWl_nilK [188, 181, 180, 179, 178, 175, 174, 173, 172, 169, 168, 167, 166, 13, 12, 5, 4, 2, 1] [(188, .bool false), (181, .bool false), (180, .int .i64 x113), (179, .rop (fl (eI .i64) (sub a3 ((IntKind.i64.wrap (x71 + 1)).toNat) a3.length)) ((2 : Int).toNat * 1)), (178, .ro (fl (eI .i64) (sub a3 ((IntKind.i64.wrap (x71 + 1)).toNat) a3.length)) ((sub a3 ((IntKind.i64.wrap (x71 + 1)).toNat) a3.length).length) none), (175, .bool true), (174, .int .i64 x111), (173, .rop (fl (eI .i64) (sub a3 ((IntKind.i64.wrap (x71 + 1)).toNat) a3.length)) ((1 : Int).toNat * 1)), (172, .ro (fl (eI .i64) (sub a3 ((IntKind.i64.wrap (x71 + 1)).toNat) a3.length)) ((sub a3 ((IntKind.i64.wrap (x71 + 1)).toNat) a3.length).length) none), (169, .bool true), (168, .int .i64 x110), (167, .rop (fl (eI .i64) (sub a3 ((IntKind.i64.wrap (x71 + 1)).toNat) a3.length)) ((0 : Int).toNat * 1)), (166, .ro (fl (eI .i64) (sub a3 ((IntKind.i64.wrap (x71 + 1)).toNat) a3.length)) ((sub a3 ((IntKind.i64.wrap (x71 + 1)).toNat) a3.length).length) none), (13, .ro (fl (eI .i64) (sub a3 ((IntKind.i64.wrap (x71 + 1)).toNat) a3.length)) ((sub a3 ((IntKind.i64.wrap (x71 + 1)).toNat) a3.length).length) none), (12, .bool ((x75 : Int) == 48)), (5, .int .i64 (IntKind.i64.wrap (x71 + 1))), (4, .ptr 1 0), (2, .ptr 0 0), (1, .ro (fl (eI .i64) a3) a3.length none)] (by kernel_rfl) ?_
                                                    obtain rfl := Option.some.inj h243
                                                    refine Tgt.mk (Weak.ren [] [] (.cons rfl (.pure rfl) (.cons rfl (.pure (by simp [pureV, within, withinL, fl_pure])) (.cons rfl (.pure rfl) (.cons rfl (.pure rfl) (.cons rfl (.ptr (l := 1) (l' := 1) rfl rfl) (.cons rfl (.ptr (l := 0) (l' := 0) rfl rfl) (.cons rfl (.pure (by simp [pureV, within, withinL, fl_pure])) .nil))))))) (.cons rfl (.pure rfl) (.cons rfl (.pure rfl) .nil)) (by kernel_rfl) (fun _ h => h.elim) En_ok)
                                                  · have h244 := bif_t h134 h242
                                                    refine AWl_xrun 1 _ _ _ [(184, .ro (fl (eI .i64) (sub a3 ((IntKind.i64.wrap (x71 + 1)).toNat) a3.length)) ((sub a3 ((IntKind.i64.wrap (x71 + 1)).toNat) a3.length).length) none), (183, .bool true), (182, .bool true), (181, .bool true), (180, .int .i64 x113), (179, .rop (fl (eI .i64) (sub a3 ((IntKind.i64.wrap (x71 + 1)).toNat) a3.length)) ((2 : Int).toNat * 1)), (178, .ro (fl (eI .i64) (sub a3 ((IntKind.i64.wrap (x71 + 1)).toNat) a3.length)) ((sub a3 ((IntKind.i64.wrap (x71 + 1)).toNat) a3.length).length) none), (177, .bool true), (176, .bool true), (175, .bool true), (174, .int .i64 x111), (173, .rop (fl (eI .i64) (sub a3 ((IntKind.i64.wrap (x71 + 1)).toNat) a3.length)) ((1 : Int).toNat * 1)), (172, .ro (fl (eI .i64) (sub a3 ((IntKind.i64.wrap (x71 + 1)).toNat) a3.length)) ((sub a3 ((IntKind.i64.wrap (x71 + 1)).toNat) a3.length).length) none), (171, .bool true), (170, .bool true), (169, .bool true), (168, .int .i64 x110), (167, .rop (fl (eI .i64) (sub a3 ((IntKind.i64.wrap (x71 + 1)).toNat) a3.length)) ((0 : Int).toNat * 1)), (166, .ro (fl (eI .i64) (sub a3 ((IntKind.i64.wrap (x71 + 1)).toNat) a3.length)) ((sub a3 ((IntKind.i64.wrap (x71 + 1)).toNat) a3.length).length) none), (165, .bool true), (164, .bool true), (163, .int .i64 ((sub a3 ((IntKind.i64.wrap (x71 + 1)).toNat) a3.length).length : Int)), (162, .ro (fl (eI .i64) (sub a3 ((IntKind.i64.wrap (x71 + 1)).toNat) a3.length)) ((sub a3 ((IntKind.i64.wrap (x71 + 1)).toNat) a3.length).length) none), (155, .bool false), (13, .ro (fl (eI .i64) (sub a3 ((IntKind.i64.wrap (x71 + 1)).toNat) a3.length)) ((sub a3 ((IntKind.i64.wrap (x71 + 1)).toNat) a3.length).length) none), (12, .bool ((x75 : Int) == 48)), (5, .int .i64 (IntKind.i64.wrap (x71 + 1))), (4, .ptr 1 0), (2, .ptr 0 0), (1, .ro (fl (eI .i64) a3) a3.length none)] [(1, some [.int .i64 0, .int .i64 0, .int .i64 0]), (0, some [.int .i64 x100, .int .i64 x73, .int .i64 x74])] (by kernel_rfl) ?_
                                                    obtain ⟨x115, h135, h245⟩ := bind_some h244
                                                    refine AWl_o (x := .rop (fl (eI .i64) (sub a3 ((IntKind.i64.wrap (x71 + 1)).toNat) a3.length)) ((3 : Int).toNat * 1)) (wl := []) (AOp_idxRo (e := (eI .i64)) (l := (sub a3 ((IntKind.i64.wrap (x71 + 1)).toNat) a3.length)) 1 rfl rfl rfl rfl rfl rfl h135) (by kernel_rfl) (by kernel_rfl) (by kernel_rfl) ?_
                                                    refine AWl_o (x := .int .i64 x115) (wl := []) (AOp_loadEl (e := (eI .i64)) (l := (sub a3 ((IntKind.i64.wrap (x71 + 1)).toNat) a3.length)) (i := 3) 0 1 1 rfl rfl rfl rfl rfl h135 rfl (by kernel_rfl) (by kernel_rfl)) (by kernel_rfl) (by kernel_rfl) (by kernel_rfl) ?_
                                                    obtain ⟨x116, h136, h246⟩ := bind_some h245
                                                    refine AWl_o (x := .bool x116) (wl := []) (AOp_callP En_ok Tryd.call23 (caps := []) (xs := [.int .i64 x115]) rfl rfl (orielref12_byteLike_ok h136) rfl) (by kernel_rfl) (by kernel_rfl) (by kernel_rfl) ?_
                                                    refine AWl_xrun 1 _ _ _ [(188, .bool x116), (187, .bool x116), (186, .int .i64 x115), (185, .rop (fl (eI .i64) (sub a3 ((IntKind.i64.wrap (x71 + 1)).toNat) a3.length)) ((3 : Int).toNat * 1)), (184, .ro (fl (eI .i64) (sub a3 ((IntKind.i64.wrap (x71 + 1)).toNat) a3.length)) ((sub a3 ((IntKind.i64.wrap (x71 + 1)).toNat) a3.length).length) none), (183, .bool true), (182, .bool true), (181, .bool true), (180, .int .i64 x113), (179, .rop (fl (eI .i64) (sub a3 ((IntKind.i64.wrap (x71 + 1)).toNat) a3.length)) ((2 : Int).toNat * 1)), (178, .ro (fl (eI .i64) (sub a3 ((IntKind.i64.wrap (x71 + 1)).toNat) a3.length)) ((sub a3 ((IntKind.i64.wrap (x71 + 1)).toNat) a3.length).length) none), (177, .bool true), (176, .bool true), (175, .bool true), (174, .int .i64 x111), (173, .rop (fl (eI .i64) (sub a3 ((IntKind.i64.wrap (x71 + 1)).toNat) a3.length)) ((1 : Int).toNat * 1)), (172, .ro (fl (eI .i64) (sub a3 ((IntKind.i64.wrap (x71 + 1)).toNat) a3.length)) ((sub a3 ((IntKind.i64.wrap (x71 + 1)).toNat) a3.length).length) none), (171, .bool true), (170, .bool true), (169, .bool true), (168, .int .i64 x110), (167, .rop (fl (eI .i64) (sub a3 ((IntKind.i64.wrap (x71 + 1)).toNat) a3.length)) ((0 : Int).toNat * 1)), (166, .ro (fl (eI .i64) (sub a3 ((IntKind.i64.wrap (x71 + 1)).toNat) a3.length)) ((sub a3 ((IntKind.i64.wrap (x71 + 1)).toNat) a3.length).length) none), (165, .bool true), (164, .bool true), (163, .int .i64 ((sub a3 ((IntKind.i64.wrap (x71 + 1)).toNat) a3.length).length : Int)), (162, .ro (fl (eI .i64) (sub a3 ((IntKind.i64.wrap (x71 + 1)).toNat) a3.length)) ((sub a3 ((IntKind.i64.wrap (x71 + 1)).toNat) a3.length).length) none), (155, .bool false), (13, .ro (fl (eI .i64) (sub a3 ((IntKind.i64.wrap (x71 + 1)).toNat) a3.length)) ((sub a3 ((IntKind.i64.wrap (x71 + 1)).toNat) a3.length).length) none), (12, .bool ((x75 : Int) == 48)), (5, .int .i64 (IntKind.i64.wrap (x71 + 1))), (4, .ptr 1 0), (2, .ptr 0 0), (1, .ro (fl (eI .i64) a3) a3.length none)] [(1, some [.int .i64 0, .int .i64 0, .int .i64 0]), (0, some [.int .i64 x100, .int .i64 x73, .int .i64 x74])] (by kernel_rfl) ?_
                                                    refine AWl_nilK [188, 187, 186, 185, 184, 181, 180, 179, 178, 175, 174, 173, 172, 169, 168, 167, 166, 13, 12, 5, 4, 2, 1] [(188, .bool x116), (187, .bool x116), (186, .int .i64 x115), (185, .rop (fl (eI .i64) (sub a3 ((IntKind.i64.wrap (x71 + 1)).toNat) a3.length)) ((3 : Int).toNat * 1)), (184, .ro (fl (eI .i64) (sub a3 ((IntKind.i64.wrap (x71 + 1)).toNat) a3.length)) ((sub a3 ((IntKind.i64.wrap (x71 + 1)).toNat) a3.length).length) none), (181, .bool true), (180, .int .i64 x113), (179, .rop (fl (eI .i64) (sub a3 ((IntKind.i64.wrap (x71 + 1)).toNat) a3.length)) ((2 : Int).toNat * 1)), (178, .ro (fl (eI .i64) (sub a3 ((IntKind.i64.wrap (x71 + 1)).toNat) a3.length)) ((sub a3 ((IntKind.i64.wrap (x71 + 1)).toNat) a3.length).length) none), (175, .bool true), (174, .int .i64 x111), (173, .rop (fl (eI .i64) (sub a3 ((IntKind.i64.wrap (x71 + 1)).toNat) a3.length)) ((1 : Int).toNat * 1)), (172, .ro (fl (eI .i64) (sub a3 ((IntKind.i64.wrap (x71 + 1)).toNat) a3.length)) ((sub a3 ((IntKind.i64.wrap (x71 + 1)).toNat) a3.length).length) none), (169, .bool true), (168, .int .i64 x110), (167, .rop (fl (eI .i64) (sub a3 ((IntKind.i64.wrap (x71 + 1)).toNat) a3.length)) ((0 : Int).toNat * 1)), (166, .ro (fl (eI .i64) (sub a3 ((IntKind.i64.wrap (x71 + 1)).toNat) a3.length)) ((sub a3 ((IntKind.i64.wrap (x71 + 1)).toNat) a3.length).length) none), (13, .ro (fl (eI .i64) (sub a3 ((IntKind.i64.wrap (x71 + 1)).toNat) a3.length)) ((sub a3 ((IntKind.i64.wrap (x71 + 1)).toNat) a3.length).length) none), (12, .bool ((x75 : Int) == 48)), (5, .int .i64 (IntKind.i64.wrap (x71 + 1))), (4, .ptr 1 0), (2, .ptr 0 0), (1, .ro (fl (eI .i64) a3) a3.length none)] (by kernel_rfl) ?_
                                                    obtain rfl := Option.some.inj h246
                                                    refine Tgt.mk (Weak.ren [] [] (.cons rfl (.pure rfl) (.cons rfl (.pure (by simp [pureV, within, withinL, fl_pure])) (.cons rfl (.pure rfl) (.cons rfl (.pure rfl) (.cons rfl (.ptr (l := 1) (l' := 1) rfl rfl) (.cons rfl (.ptr (l := 0) (l' := 0) rfl rfl) (.cons rfl (.pure (by simp [pureV, within, withinL, fl_pure])) .nil))))))) (.cons rfl (.pure rfl) (.cons rfl (.pure rfl) .nil)) (by kernel_rfl) (fun _ h => h.elim) En_ok)
                                          · skip
                                            cases h137 : x117
                                            · have h247 := bif_f h137 h231
                                              refine AW_condF rfl ?_
                                              refine AW_seq ?_
                                              refine AW_region ?_
                                              refine AWl_xrun 2 _ _ _ [(215, .agg [.int .i64 x100, .int .i64 x73, .int .i64 x74]), (188, .bool false), (13, .ro (fl (eI .i64) (sub a3 ((IntKind.i64.wrap (x71 + 1)).toNat) a3.length)) ((sub a3 ((IntKind.i64.wrap (x71 + 1)).toNat) a3.length).length) none), (12, .bool ((x75 : Int) == 48)), (5, .int .i64 (IntKind.i64.wrap (x71 + 1))), (4, .ptr 1 0), (2, .ptr 0 0), (1, .ro (fl (eI .i64) a3) a3.length none)] [(1, some [.int .i64 x100, .int .i64 x73, .int .i64 x74]), (0, some [.int .i64 x100, .int .i64 x73, .int .i64 x74])] (by kernel_rfl) ?_
                                              refine AWl_nilK [4] [(4, .ptr 1 0)] (by kernel_rfl) ?_
                                              refine athen_n ?_
                                              refine AW_ret ?_
                                              refine ablock_ret ?_
                                              obtain ⟨x156, h248, rfl⟩ := map_some h247
                                              have h249 : some x156 = some _ := h197
                                              cases h249
                                              refine Meet.off (by simp) ?_
                                              refine ablock_ret ?_
                                              obtain rfl := Option.some.inj h248
                                              refine Round.off (by simp) (Tgt.mk (Weak.ren [] [] (.cons rfl (.ptr (l := 1) (l' := 1) rfl rfl) .nil) (.cons rfl (.pure rfl) .nil) (by kernel_rfl) (fun _ h => h.elim) En_ok))
                                            · have h250 := bif_t h137 h231
                                              refine AW_condT rfl ?_
                                              refine AW_seq ?_
                                              refine AW_region ?_
                                              refine AWl_xrun 1 _ _ _ [(189, .ro (fl (eI .i64) (sub a3 ((IntKind.i64.wrap (x71 + 1)).toNat) a3.length)) ((sub a3 ((IntKind.i64.wrap (x71 + 1)).toNat) a3.length).length) none), (188, .bool true), (13, .ro (fl (eI .i64) (sub a3 ((IntKind.i64.wrap (x71 + 1)).toNat) a3.length)) ((sub a3 ((IntKind.i64.wrap (x71 + 1)).toNat) a3.length).length) none), (12, .bool ((x75 : Int) == 48)), (5, .int .i64 (IntKind.i64.wrap (x71 + 1))), (4, .ptr 1 0), (2, .ptr 0 0), (1, .ro (fl (eI .i64) a3) a3.length none)] [(1, some [.int .i64 0, .int .i64 0, .int .i64 0]), (0, some [.int .i64 x100, .int .i64 x73, .int .i64 x74])] (by kernel_rfl) ?_
                                              obtain ⟨x118, h138, h251⟩ := bind_some h250
                                              refine AWl_o (x := .rop (fl (eI .i64) (sub a3 ((IntKind.i64.wrap (x71 + 1)).toNat) a3.length)) ((1 : Int).toNat * 1)) (wl := []) (AOp_idxRo (e := (eI .i64)) (l := (sub a3 ((IntKind.i64.wrap (x71 + 1)).toNat) a3.length)) 1 rfl rfl rfl rfl rfl rfl h138) (by kernel_rfl) (by kernel_rfl) (by kernel_rfl) ?_
                                              refine AWl_o (x := .int .i64 x118) (wl := []) (AOp_loadEl (e := (eI .i64)) (l := (sub a3 ((IntKind.i64.wrap (x71 + 1)).toNat) a3.length)) (i := 1) 0 1 1 rfl rfl rfl rfl rfl h138 rfl (by kernel_rfl) (by kernel_rfl)) (by kernel_rfl) (by kernel_rfl) (by kernel_rfl) ?_
                                              refine AWl_xrun 3 _ _ _ [(14, .int .i64 (IntKind.i64.wrap (Int.tdiv (IntKind.i64.wrap (6 * x118)) 256))), (193, .int .i64 (IntKind.i64.wrap (Int.tdiv (IntKind.i64.wrap (6 * x118)) 256))), (192, .int .i64 (IntKind.i64.wrap (6 * x118))), (191, .int .i64 x118), (190, .rop (fl (eI .i64) (sub a3 ((IntKind.i64.wrap (x71 + 1)).toNat) a3.length)) ((1 : Int).toNat * 1)), (189, .ro (fl (eI .i64) (sub a3 ((IntKind.i64.wrap (x71 + 1)).toNat) a3.length)) ((sub a3 ((IntKind.i64.wrap (x71 + 1)).toNat) a3.length).length) none), (188, .bool true), (13, .ro (fl (eI .i64) (sub a3 ((IntKind.i64.wrap (x71 + 1)).toNat) a3.length)) ((sub a3 ((IntKind.i64.wrap (x71 + 1)).toNat) a3.length).length) none), (12, .bool ((x75 : Int) == 48)), (5, .int .i64 (IntKind.i64.wrap (x71 + 1))), (4, .ptr 1 0), (2, .ptr 0 0), (1, .ro (fl (eI .i64) a3) a3.length none)] [(1, some [.int .i64 0, .int .i64 0, .int .i64 0]), (0, some [.int .i64 x100, .int .i64 x73, .int .i64 x74])] (by kernel_rfl) ?_
                                              refine AWl_nilK [14, 13, 12, 5, 4, 2, 1] [(14, .int .i64 (IntKind.i64.wrap (Int.tdiv (IntKind.i64.wrap (6 * x118)) 256))), (13, .ro (fl (eI .i64) (sub a3 ((IntKind.i64.wrap (x71 + 1)).toNat) a3.length)) ((sub a3 ((IntKind.i64.wrap (x71 + 1)).toNat) a3.length).length) none), (12, .bool ((x75 : Int) == 48)), (5, .int .i64 (IntKind.i64.wrap (x71 + 1))), (4, .ptr 1 0), (2, .ptr 0 0), (1, .ro (fl (eI .i64) a3) a3.length none)] (by kernel_rfl) ?_
                                              refine athen_n ?_
                                              refine AW_seq ?_
                                              refine AW_region ?_
                                              refine AWl_xrun 1 _ _ _ [(194, .ro (fl (eI .i64) (sub a3 ((IntKind.i64.wrap (x71 + 1)).toNat) a3.length)) ((sub a3 ((IntKind.i64.wrap (x71 + 1)).toNat) a3.length).length) none), (14, .int .i64 (IntKind.i64.wrap (Int.tdiv (IntKind.i64.wrap (6 * x118)) 256))), (13, .ro (fl (eI .i64) (sub a3 ((IntKind.i64.wrap (x71 + 1)).toNat) a3.length)) ((sub a3 ((IntKind.i64.wrap (x71 + 1)).toNat) a3.length).length) none), (12, .bool ((x75 : Int) == 48)), (5, .int .i64 (IntKind.i64.wrap (x71 + 1))), (4, .ptr 1 0), (2, .ptr 0 0), (1, .ro (fl (eI .i64) a3) a3.length none)] [(1, some [.int .i64 0, .int .i64 0, .int .i64 0]), (0, some [.int .i64 x100, .int .i64 x73, .int .i64 x74])] (by kernel_rfl) ?_
                                              obtain ⟨x119, h139, h252⟩ := bind_some h251
                                              refine AWl_o (x := .rop (fl (eI .i64) (sub a3 ((IntKind.i64.wrap (x71 + 1)).toNat) a3.length)) ((2 : Int).toNat * 1)) (wl := []) (AOp_idxRo (e := (eI .i64)) (l := (sub a3 ((IntKind.i64.wrap (x71 + 1)).toNat) a3.length)) 1 rfl rfl rfl rfl rfl rfl h139) (by kernel_rfl) (by kernel_rfl) (by kernel_rfl) ?_
                                              refine AWl_o (x := .int .i64 x119) (wl := []) (AOp_loadEl (e := (eI .i64)) (l := (sub a3 ((IntKind.i64.wrap (x71 + 1)).toNat) a3.length)) (i := 2) 0 1 1 rfl rfl rfl rfl rfl h139 rfl (by kernel_rfl) (by kernel_rfl)) (by kernel_rfl) (by kernel_rfl) (by kernel_rfl) ?_
                                              refine AWl_xrun 3 _ _ _ [(15, .int .i64 (IntKind.i64.wrap (Int.tdiv (IntKind.i64.wrap (6 * x119)) 256))), (198, .int .i64 (IntKind.i64.wrap (Int.tdiv (IntKind.i64.wrap (6 * x119)) 256))), (197, .int .i64 (IntKind.i64.wrap (6 * x119))), (196, .int .i64 x119), (195, .rop (fl (eI .i64) (sub a3 ((IntKind.i64.wrap (x71 + 1)).toNat) a3.length)) ((2 : Int).toNat * 1)), (194, .ro (fl (eI .i64) (sub a3 ((IntKind.i64.wrap (x71 + 1)).toNat) a3.length)) ((sub a3 ((IntKind.i64.wrap (x71 + 1)).toNat) a3.length).length) none), (14, .int .i64 (IntKind.i64.wrap (Int.tdiv (IntKind.i64.wrap (6 * x118)) 256))), (13, .ro (fl (eI .i64) (sub a3 ((IntKind.i64.wrap (x71 + 1)).toNat) a3.length)) ((sub a3 ((IntKind.i64.wrap (x71 + 1)).toNat) a3.length).length) none), (12, .bool ((x75 : Int) == 48)), (5, .int .i64 (IntKind.i64.wrap (x71 + 1))), (4, .ptr 1 0), (2, .ptr 0 0), (1, .ro (fl (eI .i64) a3) a3.length none)] [(1, some [.int .i64 0, .int .i64 0, .int .i64 0]), (0, some [.int .i64 x100, .int .i64 x73, .int .i64 x74])] (by kernel_rfl) ?_
                                              refine AWl_nilK [15, 14, 13, 12, 5, 4, 2, 1] [(15, .int .i64 (IntKind.i64.wrap (Int.tdiv (IntKind.i64.wrap (6 * x119)) 256))), (14, .int .i64 (IntKind.i64.wrap (Int.tdiv (IntKind.i64.wrap (6 * x118)) 256))), (13, .ro (fl (eI .i64) (sub a3 ((IntKind.i64.wrap (x71 + 1)).toNat) a3.length)) ((sub a3 ((IntKind.i64.wrap (x71 + 1)).toNat) a3.length).length) none), (12, .bool ((x75 : Int) == 48)), (5, .int .i64 (IntKind.i64.wrap (x71 + 1))), (4, .ptr 1 0), (2, .ptr 0 0), (1, .ro (fl (eI .i64) a3) a3.length none)] (by kernel_rfl) ?_
                                              refine athen_n ?_
                                              refine AW_seq ?_
                                              refine AW_region ?_
                                              refine AWl_xrun 1 _ _ _ [(199, .ro (fl (eI .i64) (sub a3 ((IntKind.i64.wrap (x71 + 1)).toNat) a3.length)) ((sub a3 ((IntKind.i64.wrap (x71 + 1)).toNat) a3.length).length) none), (15, .int .i64 (IntKind.i64.wrap (Int.tdiv (IntKind.i64.wrap (6 * x119)) 256))), (14, .int .i64 (IntKind.i64.wrap (Int.tdiv (IntKind.i64.wrap (6 * x118)) 256))), (13, .ro (fl (eI .i64) (sub a3 ((IntKind.i64.wrap (x71 + 1)).toNat) a3.length)) ((sub a3 ((IntKind.i64.wrap (x71 + 1)).toNat) a3.length).length) none), (12, .bool ((x75 : Int) == 48)), (5, .int .i64 (IntKind.i64.wrap (x71 + 1))), (4, .ptr 1 0), (2, .ptr 0 0), (1, .ro (fl (eI .i64) a3) a3.length none)] [(1, some [.int .i64 0, .int .i64 0, .int .i64 0]), (0, some [.int .i64 x100, .int .i64 x73, .int .i64 x74])] (by kernel_rfl) ?_
                                              obtain ⟨x120, h140, h253⟩ := bind_some h252
                                              refine AWl_o (x := .rop (fl (eI .i64) (sub a3 ((IntKind.i64.wrap (x71 + 1)).toNat) a3.length)) ((3 : Int).toNat * 1)) (wl := []) (AOp_idxRo (e := (eI .i64)) (l := (sub a3 ((IntKind.i64.wrap (x71 + 1)).toNat) a3.length)) 1 rfl rfl rfl rfl rfl rfl h140) (by kernel_rfl) (by kernel_rfl) (by kernel_rfl) ?_
                                              refine AWl_o (x := .int .i64 x120) (wl := []) (AOp_loadEl (e := (eI .i64)) (l := (sub a3 ((IntKind.i64.wrap (x71 + 1)).toNat) a3.length)) (i := 3) 0 1 1 rfl rfl rfl rfl rfl h140 rfl (by kernel_rfl) (by kernel_rfl)) (by kernel_rfl) (by kernel_rfl) (by kernel_rfl) ?_
                                              refine AWl_xrun 3 _ _ _ [(16, .int .i64 (IntKind.i64.wrap (Int.tdiv (IntKind.i64.wrap (6 * x120)) 256))), (203, .int .i64 (IntKind.i64.wrap (Int.tdiv (IntKind.i64.wrap (6 * x120)) 256))), (202, .int .i64 (IntKind.i64.wrap (6 * x120))), (201, .int .i64 x120), (200, .rop (fl (eI .i64) (sub a3 ((IntKind.i64.wrap (x71 + 1)).toNat) a3.length)) ((3 : Int).toNat * 1)), (199, .ro (fl (eI .i64) (sub a3 ((IntKind.i64.wrap (x71 + 1)).toNat) a3.length)) ((sub a3 ((IntKind.i64.wrap (x71 + 1)).toNat) a3.length).length) none), (15, .int .i64 (IntKind.i64.wrap (Int.tdiv (IntKind.i64.wrap (6 * x119)) 256))), (14, .int .i64 (IntKind.i64.wrap (Int.tdiv (IntKind.i64.wrap (6 * x118)) 256))), (13, .ro (fl (eI .i64) (sub a3 ((IntKind.i64.wrap (x71 + 1)).toNat) a3.length)) ((sub a3 ((IntKind.i64.wrap (x71 + 1)).toNat) a3.length).length) none), (12, .bool ((x75 : Int) == 48)), (5, .int .i64 (IntKind.i64.wrap (x71 + 1))), (4, .ptr 1 0), (2, .ptr 0 0), (1, .ro (fl (eI .i64) a3) a3.length none)] [(1, some [.int .i64 0, .int .i64 0, .int .i64 0]), (0, some [.int .i64 x100, .int .i64 x73, .int .i64 x74])] (by kernel_rfl) ?_
                                              refine AWl_nilK [16, 15, 14, 12, 5, 4, 2, 1] [(16, .int .i64 (IntKind.i64.wrap (Int.tdiv (IntKind.i64.wrap (6 * x120)) 256))), (15, .int .i64 (IntKind.i64.wrap (Int.tdiv (IntKind.i64.wrap (6 * x119)) 256))), (14, .int .i64 (IntKind.i64.wrap (Int.tdiv (IntKind.i64.wrap (6 * x118)) 256))), (12, .bool ((x75 : Int) == 48)), (5, .int .i64 (IntKind.i64.wrap (x71 + 1))), (4, .ptr 1 0), (2, .ptr 0 0), (1, .ro (fl (eI .i64) a3) a3.length none)] (by kernel_rfl) ?_
                                              refine athen_n ?_
                                              refine AW_seq ?_
                                              refine AW_region ?_
                                              refine AWl_xrun 10 _ _ _ [(11, .int .i64 (IntKind.i64.wrap ((IntKind.i64.wrap ((IntKind.i64.wrap ((IntKind.i64.wrap (16 + (IntKind.i64.wrap (36 * (IntKind.i64.wrap (Int.tdiv (IntKind.i64.wrap (6 * x118)) 256)))))) + (IntKind.i64.wrap (6 * (IntKind.i64.wrap (Int.tdiv (IntKind.i64.wrap (6 * x119)) 256)))))) + (IntKind.i64.wrap (Int.tdiv (IntKind.i64.wrap (6 * x120)) 256)))) + 1))), (212, .int .i64 (IntKind.i64.wrap ((IntKind.i64.wrap ((IntKind.i64.wrap ((IntKind.i64.wrap (16 + (IntKind.i64.wrap (36 * (IntKind.i64.wrap (Int.tdiv (IntKind.i64.wrap (6 * x118)) 256)))))) + (IntKind.i64.wrap (6 * (IntKind.i64.wrap (Int.tdiv (IntKind.i64.wrap (6 * x119)) 256)))))) + (IntKind.i64.wrap (Int.tdiv (IntKind.i64.wrap (6 * x120)) 256)))) + 1))), (211, .int .i64 (IntKind.i64.wrap ((IntKind.i64.wrap ((IntKind.i64.wrap (16 + (IntKind.i64.wrap (36 * (IntKind.i64.wrap (Int.tdiv (IntKind.i64.wrap (6 * x118)) 256)))))) + (IntKind.i64.wrap (6 * (IntKind.i64.wrap (Int.tdiv (IntKind.i64.wrap (6 * x119)) 256)))))) + (IntKind.i64.wrap (Int.tdiv (IntKind.i64.wrap (6 * x120)) 256))))), (210, .int .i64 (IntKind.i64.wrap (Int.tdiv (IntKind.i64.wrap (6 * x120)) 256))), (209, .int .i64 (IntKind.i64.wrap ((IntKind.i64.wrap (16 + (IntKind.i64.wrap (36 * (IntKind.i64.wrap (Int.tdiv (IntKind.i64.wrap (6 * x118)) 256)))))) + (IntKind.i64.wrap (6 * (IntKind.i64.wrap (Int.tdiv (IntKind.i64.wrap (6 * x119)) 256))))))), (208, .int .i64 (IntKind.i64.wrap (6 * (IntKind.i64.wrap (Int.tdiv (IntKind.i64.wrap (6 * x119)) 256))))), (207, .int .i64 (IntKind.i64.wrap (Int.tdiv (IntKind.i64.wrap (6 * x119)) 256))), (206, .int .i64 (IntKind.i64.wrap (16 + (IntKind.i64.wrap (36 * (IntKind.i64.wrap (Int.tdiv (IntKind.i64.wrap (6 * x118)) 256))))))), (205, .int .i64 (IntKind.i64.wrap (36 * (IntKind.i64.wrap (Int.tdiv (IntKind.i64.wrap (6 * x118)) 256))))), (204, .int .i64 (IntKind.i64.wrap (Int.tdiv (IntKind.i64.wrap (6 * x118)) 256))), (16, .int .i64 (IntKind.i64.wrap (Int.tdiv (IntKind.i64.wrap (6 * x120)) 256))), (15, .int .i64 (IntKind.i64.wrap (Int.tdiv (IntKind.i64.wrap (6 * x119)) 256))), (14, .int .i64 (IntKind.i64.wrap (Int.tdiv (IntKind.i64.wrap (6 * x118)) 256))), (12, .bool ((x75 : Int) == 48)), (5, .int .i64 (IntKind.i64.wrap (x71 + 1))), (4, .ptr 1 0), (2, .ptr 0 0), (1, .ro (fl (eI .i64) a3) a3.length none)] [(1, some [.int .i64 0, .int .i64 0, .int .i64 0]), (0, some [.int .i64 x100, .int .i64 x73, .int .i64 x74])] (by kernel_rfl) ?_
                                              refine AWl_nilK [11, 12, 5, 4, 2, 1] [(11, .int .i64 (IntKind.i64.wrap ((IntKind.i64.wrap ((IntKind.i64.wrap ((IntKind.i64.wrap (16 + (IntKind.i64.wrap (36 * (IntKind.i64.wrap (Int.tdiv (IntKind.i64.wrap (6 * x118)) 256)))))) + (IntKind.i64.wrap (6 * (IntKind.i64.wrap (Int.tdiv (IntKind.i64.wrap (6 * x119)) 256)))))) + (IntKind.i64.wrap (Int.tdiv (IntKind.i64.wrap (6 * x120)) 256)))) + 1))), (12, .bool ((x75 : Int) == 48)), (5, .int .i64 (IntKind.i64.wrap (x71 + 1))), (4, .ptr 1 0), (2, .ptr 0 0), (1, .ro (fl (eI .i64) a3) a3.length none)] (by kernel_rfl) ?_
                                              refine athen_n ?_
                                              refine AW_region ?_
                                              refine AWl_xrun 3 _ _ _ [(5, .int .i64 (IntKind.i64.wrap ((IntKind.i64.wrap (x71 + 1)) + 4))), (214, .int .i64 (IntKind.i64.wrap ((IntKind.i64.wrap (x71 + 1)) + 4))), (213, .int .i64 (IntKind.i64.wrap (x71 + 1))), (11, .int .i64 (IntKind.i64.wrap ((IntKind.i64.wrap ((IntKind.i64.wrap ((IntKind.i64.wrap (16 + (IntKind.i64.wrap (36 * (IntKind.i64.wrap (Int.tdiv (IntKind.i64.wrap (6 * x118)) 256)))))) + (IntKind.i64.wrap (6 * (IntKind.i64.wrap (Int.tdiv (IntKind.i64.wrap (6 * x119)) 256)))))) + (IntKind.i64.wrap (Int.tdiv (IntKind.i64.wrap (6 * x120)) 256)))) + 1))), (12, .bool ((x75 : Int) == 48)), (5, .int .i64 (IntKind.i64.wrap (x71 + 1))), (4, .ptr 1 0), (2, .ptr 0 0), (1, .ro (fl (eI .i64) a3) a3.length none)] [(1, some [.int .i64 0, .int .i64 0, .int .i64 0]), (0, some [.int .i64 x100, .int .i64 x73, .int .i64 x74])] (by kernel_rfl) ?_
                                              refine AWl_nilK [5, 11, 12, 4, 2, 1] [(5, .int .i64 (IntKind.i64.wrap ((IntKind.i64.wrap (x71 + 1)) + 4))), (11, .int .i64 (IntKind.i64.wrap ((IntKind.i64.wrap ((IntKind.i64.wrap ((IntKind.i64.wrap (16 + (IntKind.i64.wrap (36 * (IntKind.i64.wrap (Int.tdiv (IntKind.i64.wrap (6 * x118)) 256)))))) + (IntKind.i64.wrap (6 * (IntKind.i64.wrap (Int.tdiv (IntKind.i64.wrap (6 * x119)) 256)))))) + (IntKind.i64.wrap (Int.tdiv (IntKind.i64.wrap (6 * x120)) 256)))) + 1))), (12, .bool ((x75 : Int) == 48)), (4, .ptr 1 0), (2, .ptr 0 0), (1, .ro (fl (eI .i64) a3) a3.length none)] (by kernel_rfl) ?_
                                              refine ablock_n ?_
                                              obtain rfl := Option.some.inj h253
                                              refine Meet.on (Weak.ren [] [] (.cons rfl (.pure rfl) (.cons rfl (.pure rfl) (.cons rfl (.pure rfl) (.cons rfl (.ptr (l := 1) (l' := 1) rfl rfl) (.cons rfl (.ptr (l := 0) (l' := 0) rfl rfl) (.cons rfl (.pure (by simp [pureV, within, withinL, fl_pure])) .nil)))))) (.cons rfl (.pure rfl) (.cons rfl (.pure rfl) .nil)) (by kernel_rfl) (fun _ h => h.elim) En_ok)
                                        · have h254 := bif_t h125 h222
                                          refine AW_condT rfl ?_
                                          refine AW_seq ?_
                                          refine AW_region ?_
                                          refine AWl_xrun 1 _ _ _ [(156, .ro (fl (eI .i64) (sub a3 ((IntKind.i64.wrap (x71 + 1)).toNat) a3.length)) ((sub a3 ((IntKind.i64.wrap (x71 + 1)).toNat) a3.length).length) none), (155, .bool true), (13, .ro (fl (eI .i64) (sub a3 ((IntKind.i64.wrap (x71 + 1)).toNat) a3.length)) ((sub a3 ((IntKind.i64.wrap (x71 + 1)).toNat) a3.length).length) none), (12, .bool ((x75 : Int) == 48)), (5, .int .i64 (IntKind.i64.wrap (x71 + 1))), (4, .ptr 1 0), (2, .ptr 0 0), (1, .ro (fl (eI .i64) a3) a3.length none)] [(1, some [.int .i64 0, .int .i64 0, .int .i64 0]), (0, some [.int .i64 x100, .int .i64 x73, .int .i64 x74])] (by kernel_rfl) ?_
                                          obtain ⟨x122, h142, h255⟩ := bind_some h254
                                          refine AWl_o (x := .rop (fl (eI .i64) (sub a3 ((IntKind.i64.wrap (x71 + 1)).toNat) a3.length)) ((1 : Int).toNat * 1)) (wl := []) (AOp_idxRo (e := (eI .i64)) (l := (sub a3 ((IntKind.i64.wrap (x71 + 1)).toNat) a3.length)) 1 rfl rfl rfl rfl rfl rfl h142) (by kernel_rfl) (by kernel_rfl) (by kernel_rfl) ?_
                                          refine AWl_o (x := .int .i64 x122) (wl := []) (AOp_loadEl (e := (eI .i64)) (l := (sub a3 ((IntKind.i64.wrap (x71 + 1)).toNat) a3.length)) (i := 1) 0 1 1 rfl rfl rfl rfl rfl h142 rfl (by kernel_rfl) (by kernel_rfl)) (by kernel_rfl) (by kernel_rfl) (by kernel_rfl) ?_
                                          refine AWl_xrun 2 _ _ _ [(11, .int .i64 (IntKind.i64.wrap (x122 + 1))), (159, .int .i64 (IntKind.i64.wrap (x122 + 1))), (158, .int .i64 x122), (157, .rop (fl (eI .i64) (sub a3 ((IntKind.i64.wrap (x71 + 1)).toNat) a3.length)) ((1 : Int).toNat * 1)), (156, .ro (fl (eI .i64) (sub a3 ((IntKind.i64.wrap (x71 + 1)).toNat) a3.length)) ((sub a3 ((IntKind.i64.wrap (x71 + 1)).toNat) a3.length).length) none), (155, .bool true), (13, .ro (fl (eI .i64) (sub a3 ((IntKind.i64.wrap (x71 + 1)).toNat) a3.length)) ((sub a3 ((IntKind.i64.wrap (x71 + 1)).toNat) a3.length).length) none), (12, .bool ((x75 : Int) == 48)), (5, .int .i64 (IntKind.i64.wrap (x71 + 1))), (4, .ptr 1 0), (2, .ptr 0 0), (1, .ro (fl (eI .i64) a3) a3.length none)] [(1, some [.int .i64 0, .int .i64 0, .int .i64 0]), (0, some [.int .i64 x100, .int .i64 x73, .int .i64 x74])] (by kernel_rfl) ?_
                                          refine AWl_nilK [11, 12, 5, 4, 2, 1] [(11, .int .i64 (IntKind.i64.wrap (x122 + 1))), (12, .bool ((x75 : Int) == 48)), (5, .int .i64 (IntKind.i64.wrap (x71 + 1))), (4, .ptr 1 0), (2, .ptr 0 0), (1, .ro (fl (eI .i64) a3) a3.length none)] (by kernel_rfl) ?_
                                          refine athen_n ?_
                                          refine AW_region ?_
                                          refine AWl_xrun 3 _ _ _ [(5, .int .i64 (IntKind.i64.wrap ((IntKind.i64.wrap (x71 + 1)) + 2))), (161, .int .i64 (IntKind.i64.wrap ((IntKind.i64.wrap (x71 + 1)) + 2))), (160, .int .i64 (IntKind.i64.wrap (x71 + 1))), (11, .int .i64 (IntKind.i64.wrap (x122 + 1))), (12, .bool ((x75 : Int) == 48)), (5, .int .i64 (IntKind.i64.wrap (x71 + 1))), (4, .ptr 1 0), (2, .ptr 0 0), (1, .ro (fl (eI .i64) a3) a3.length none)] [(1, some [.int .i64 0, .int .i64 0, .int .i64 0]), (0, some [.int .i64 x100, .int .i64 x73, .int .i64 x74])] (by kernel_rfl) ?_
                                          refine AWl_nilK [5, 11, 12, 4, 2, 1] [(5, .int .i64 (IntKind.i64.wrap ((IntKind.i64.wrap (x71 + 1)) + 2))), (11, .int .i64 (IntKind.i64.wrap (x122 + 1))), (12, .bool ((x75 : Int) == 48)), (4, .ptr 1 0), (2, .ptr 0 0), (1, .ro (fl (eI .i64) a3) a3.length none)] (by kernel_rfl) ?_
                                          refine ablock_n ?_
                                          obtain rfl := Option.some.inj h255
                                          refine Meet.on (Weak.ren [] [] (.cons rfl (.pure rfl) (.cons rfl (.pure rfl) (.cons rfl (.pure rfl) (.cons rfl (.ptr (l := 1) (l' := 1) rfl rfl) (.cons rfl (.ptr (l := 0) (l' := 0) rfl rfl) (.cons rfl (.pure (by simp [pureV, within, withinL, fl_pure])) .nil)))))) (.cons rfl (.pure rfl) (.cons rfl (.pure rfl) .nil)) (by kernel_rfl) (fun _ h => h.elim) En_ok)
                                · have h256 := bif_t h116 h214
                                  refine AW_condT rfl ?_
                                  refine AW_seq ?_
                                  refine AW_region ?_
                                  refine AWl_xrun 1 _ _ _ [(11, .int .i64 0), (126, .bool true), (12, .bool false), (11, .int .i64 (-1)), (5, .int .i64 (IntKind.i64.wrap (x71 + 1))), (6, .int .i64 x75), (4, .ptr 1 0), (2, .ptr 0 0), (1, .ro (fl (eI .i64) a3) a3.length none)] [(1, some [.int .i64 0, .int .i64 0, .int .i64 0]), (0, some [.int .i64 x100, .int .i64 x73, .int .i64 x74])] (by kernel_rfl) ?_
                                  refine AWl_nilK [11, 5, 4, 2, 1] [(11, .int .i64 0), (5, .int .i64 (IntKind.i64.wrap (x71 + 1))), (4, .ptr 1 0), (2, .ptr 0 0), (1, .ro (fl (eI .i64) a3) a3.length none)] (by kernel_rfl) ?_
                                  refine athen_n ?_
                                  refine AW_region ?_
                                  refine AWl_xrun 1 _ _ _ [(12, .bool true), (11, .int .i64 0), (5, .int .i64 (IntKind.i64.wrap (x71 + 1))), (4, .ptr 1 0), (2, .ptr 0 0), (1, .ro (fl (eI .i64) a3) a3.length none)] [(1, some [.int .i64 0, .int .i64 0, .int .i64 0]), (0, some [.int .i64 x100, .int .i64 x73, .int .i64 x74])] (by kernel_rfl) ?_
                                  refine AWl_nilK [12, 11, 5, 4, 2, 1] [(12, .bool true), (11, .int .i64 0), (5, .int .i64 (IntKind.i64.wrap (x71 + 1))), (4, .ptr 1 0), (2, .ptr 0 0), (1, .ro (fl (eI .i64) a3) a3.length none)] (by kernel_rfl) ?_
                                  refine ablock_n ?_
                                  obtain rfl := Option.some.inj h256
                                  refine Meet.on (Weak.ren [] [] (.cons rfl (.pure rfl) (.cons rfl (.pure rfl) (.cons rfl (.pure rfl) (.cons rfl (.ptr (l := 1) (l' := 1) rfl rfl) (.cons rfl (.ptr (l := 0) (l' := 0) rfl rfl) (.cons rfl (.pure (by simp [pureV, within, withinL, fl_pure])) .nil)))))) (.cons rfl (.pure rfl) (.cons rfl (.pure rfl) .nil)) (by kernel_rfl) (fun _ h => h.elim) En_ok)
                              · have h257 := bif_t h115 h211
                                refine AW_condT rfl ?_
                                refine AW_seq ?_
                                refine AW_region ?_
                                refine AWl_xrun 4 _ _ _ [(11, .int .i64 (IntKind.i64.wrap ((IntKind.i64.wrap (x75 - 100)) + 9))), (125, .int .i64 (IntKind.i64.wrap ((IntKind.i64.wrap (x75 - 100)) + 9))), (124, .int .i64 (IntKind.i64.wrap (x75 - 100))), (123, .int .i64 x75), (116, .bool true), (12, .bool false), (11, .int .i64 (-1)), (5, .int .i64 (IntKind.i64.wrap (x71 + 1))), (6, .int .i64 x75), (4, .ptr 1 0), (2, .ptr 0 0), (1, .ro (fl (eI .i64) a3) a3.length none)] [(1, some [.int .i64 0, .int .i64 0, .int .i64 0]), (0, some [.int .i64 x100, .int .i64 x73, .int .i64 x74])] (by kernel_rfl) ?_
                                refine AWl_nilK [11, 5, 4, 2, 1] [(11, .int .i64 (IntKind.i64.wrap ((IntKind.i64.wrap (x75 - 100)) + 9))), (5, .int .i64 (IntKind.i64.wrap (x71 + 1))), (4, .ptr 1 0), (2, .ptr 0 0), (1, .ro (fl (eI .i64) a3) a3.length none)] (by kernel_rfl) ?_
                                refine athen_n ?_
                                refine AW_region ?_
                                refine AWl_xrun 1 _ _ _ [(12, .bool true), (11, .int .i64 (IntKind.i64.wrap ((IntKind.i64.wrap (x75 - 100)) + 9))), (5, .int .i64 (IntKind.i64.wrap (x71 + 1))), (4, .ptr 1 0), (2, .ptr 0 0), (1, .ro (fl (eI .i64) a3) a3.length none)] [(1, some [.int .i64 0, .int .i64 0, .int .i64 0]), (0, some [.int .i64 x100, .int .i64 x73, .int .i64 x74])] (by kernel_rfl) ?_
                                refine AWl_nilK [12, 11, 5, 4, 2, 1] [(12, .bool true), (11, .int .i64 (IntKind.i64.wrap ((IntKind.i64.wrap (x75 - 100)) + 9))), (5, .int .i64 (IntKind.i64.wrap (x71 + 1))), (4, .ptr 1 0), (2, .ptr 0 0), (1, .ro (fl (eI .i64) a3) a3.length none)] (by kernel_rfl) ?_
                                refine ablock_n ?_
                                obtain rfl := Option.some.inj h257
                                refine Meet.on (Weak.ren [] [] (.cons rfl (.pure rfl) (.cons rfl (.pure rfl) (.cons rfl (.pure rfl) (.cons rfl (.ptr (l := 1) (l' := 1) rfl rfl) (.cons rfl (.ptr (l := 0) (l' := 0) rfl rfl) (.cons rfl (.pure (by simp [pureV, within, withinL, fl_pure])) .nil)))))) (.cons rfl (.pure rfl) (.cons rfl (.pure rfl) .nil)) (by kernel_rfl) (fun _ h => h.elim) En_ok)
                          · have h258 := bif_t h113 h207
                            refine AW_condT rfl ?_
                            refine AW_seq ?_
                            refine AW_region ?_
                            refine AWl_xrun 4 _ _ _ [(11, .int .i64 (IntKind.i64.wrap ((IntKind.i64.wrap (x75 - 40)) + 1))), (115, .int .i64 (IntKind.i64.wrap ((IntKind.i64.wrap (x75 - 40)) + 1))), (114, .int .i64 (IntKind.i64.wrap (x75 - 40))), (113, .int .i64 x75), (106, .bool true), (12, .bool false), (11, .int .i64 (-1)), (5, .int .i64 (IntKind.i64.wrap (x71 + 1))), (6, .int .i64 x75), (4, .ptr 1 0), (2, .ptr 0 0), (1, .ro (fl (eI .i64) a3) a3.length none)] [(1, some [.int .i64 0, .int .i64 0, .int .i64 0]), (0, some [.int .i64 x100, .int .i64 x73, .int .i64 x74])] (by kernel_rfl) ?_
                            refine AWl_nilK [11, 5, 4, 2, 1] [(11, .int .i64 (IntKind.i64.wrap ((IntKind.i64.wrap (x75 - 40)) + 1))), (5, .int .i64 (IntKind.i64.wrap (x71 + 1))), (4, .ptr 1 0), (2, .ptr 0 0), (1, .ro (fl (eI .i64) a3) a3.length none)] (by kernel_rfl) ?_
                            refine athen_n ?_
                            refine AW_region ?_
                            refine AWl_xrun 1 _ _ _ [(12, .bool true), (11, .int .i64 (IntKind.i64.wrap ((IntKind.i64.wrap (x75 - 40)) + 1))), (5, .int .i64 (IntKind.i64.wrap (x71 + 1))), (4, .ptr 1 0), (2, .ptr 0 0), (1, .ro (fl (eI .i64) a3) a3.length none)] [(1, some [.int .i64 0, .int .i64 0, .int .i64 0]), (0, some [.int .i64 x100, .int .i64 x73, .int .i64 x74])] (by kernel_rfl) ?_
                            refine AWl_nilK [12, 11, 5, 4, 2, 1] [(12, .bool true), (11, .int .i64 (IntKind.i64.wrap ((IntKind.i64.wrap (x75 - 40)) + 1))), (5, .int .i64 (IntKind.i64.wrap (x71 + 1))), (4, .ptr 1 0), (2, .ptr 0 0), (1, .ro (fl (eI .i64) a3) a3.length none)] (by kernel_rfl) ?_
                            refine ablock_n ?_
                            obtain rfl := Option.some.inj h258
                            refine Meet.on (Weak.ren [] [] (.cons rfl (.pure rfl) (.cons rfl (.pure rfl) (.cons rfl (.pure rfl) (.cons rfl (.ptr (l := 1) (l' := 1) rfl rfl) (.cons rfl (.ptr (l := 0) (l' := 0) rfl rfl) (.cons rfl (.pure (by simp [pureV, within, withinL, fl_pure])) .nil)))))) (.cons rfl (.pure rfl) (.cons rfl (.pure rfl) .nil)) (by kernel_rfl) (fun _ h => h.elim) En_ok)
                      · have h259 := bif_t h111 h205
                        refine AW_condT rfl ?_
                        refine AW_region ?_
                        refine AWl_xrun 1 _ _ _ [(11, .int .i64 0), (103, .bool true), (12, .bool false), (11, .int .i64 (-1)), (5, .int .i64 (IntKind.i64.wrap (x71 + 1))), (6, .int .i64 x75), (4, .ptr 1 0), (2, .ptr 0 0), (1, .ro (fl (eI .i64) a3) a3.length none)] [(1, some [.int .i64 0, .int .i64 0, .int .i64 0]), (0, some [.int .i64 x100, .int .i64 x73, .int .i64 x74])] (by kernel_rfl) ?_
                        refine AWl_nilK [11, 12, 5, 4, 2, 1] [(11, .int .i64 0), (12, .bool false), (5, .int .i64 (IntKind.i64.wrap (x71 + 1))), (4, .ptr 1 0), (2, .ptr 0 0), (1, .ro (fl (eI .i64) a3) a3.length none)] (by kernel_rfl) ?_
                        refine ablock_n ?_
                        obtain rfl := Option.some.inj h259
                        refine Meet.on (Weak.ren [] [] (.cons rfl (.pure rfl) (.cons rfl (.pure rfl) (.cons rfl (.pure rfl) (.cons rfl (.ptr (l := 1) (l' := 1) rfl rfl) (.cons rfl (.ptr (l := 0) (l' := 0) rfl rfl) (.cons rfl (.pure (by simp [pureV, within, withinL, fl_pure])) .nil)))))) (.cons rfl (.pure rfl) (.cons rfl (.pure rfl) .nil)) (by kernel_rfl) (fun _ h => h.elim) En_ok)
                    · have h260 := bif_t h110 h202
                      refine AW_condT rfl ?_
                      refine AW_region ?_
                      refine AWl_xrun 4 _ _ _ [(11, .int .i64 (IntKind.i64.wrap ((IntKind.i64.wrap (x75 - 90)) + 9))), (102, .int .i64 (IntKind.i64.wrap ((IntKind.i64.wrap (x75 - 90)) + 9))), (101, .int .i64 (IntKind.i64.wrap (x75 - 90))), (100, .int .i64 x75), (93, .bool true), (12, .bool false), (11, .int .i64 (-1)), (5, .int .i64 (IntKind.i64.wrap (x71 + 1))), (6, .int .i64 x75), (4, .ptr 1 0), (2, .ptr 0 0), (1, .ro (fl (eI .i64) a3) a3.length none)] [(1, some [.int .i64 0, .int .i64 0, .int .i64 0]), (0, some [.int .i64 x100, .int .i64 x73, .int .i64 x74])] (by kernel_rfl) ?_
                      refine AWl_nilK [11, 12, 5, 4, 2, 1] [(11, .int .i64 (IntKind.i64.wrap ((IntKind.i64.wrap (x75 - 90)) + 9))), (12, .bool false), (5, .int .i64 (IntKind.i64.wrap (x71 + 1))), (4, .ptr 1 0), (2, .ptr 0 0), (1, .ro (fl (eI .i64) a3) a3.length none)] (by kernel_rfl) ?_
                      refine ablock_n ?_
                      obtain rfl := Option.some.inj h260
                      refine Meet.on (Weak.ren [] [] (.cons rfl (.pure rfl) (.cons rfl (.pure rfl) (.cons rfl (.pure rfl) (.cons rfl (.ptr (l := 1) (l' := 1) rfl rfl) (.cons rfl (.ptr (l := 0) (l' := 0) rfl rfl) (.cons rfl (.pure (by simp [pureV, within, withinL, fl_pure])) .nil)))))) (.cons rfl (.pure rfl) (.cons rfl (.pure rfl) .nil)) (by kernel_rfl) (fun _ h => h.elim) En_ok)
                · have h261 := bif_t h108 h198
                  refine AW_condT rfl ?_
                  refine AW_region ?_
                  refine AWl_xrun 4 _ _ _ [(11, .int .i64 (IntKind.i64.wrap ((IntKind.i64.wrap (x75 - 30)) + 1))), (92, .int .i64 (IntKind.i64.wrap ((IntKind.i64.wrap (x75 - 30)) + 1))), (91, .int .i64 (IntKind.i64.wrap (x75 - 30))), (90, .int .i64 x75), (83, .bool true), (12, .bool false), (11, .int .i64 (-1)), (5, .int .i64 (IntKind.i64.wrap (x71 + 1))), (6, .int .i64 x75), (4, .ptr 1 0), (2, .ptr 0 0), (1, .ro (fl (eI .i64) a3) a3.length none)] [(1, some [.int .i64 0, .int .i64 0, .int .i64 0]), (0, some [.int .i64 x100, .int .i64 x73, .int .i64 x74])] (by kernel_rfl) ?_
                  refine AWl_nilK [11, 12, 5, 4, 2, 1] [(11, .int .i64 (IntKind.i64.wrap ((IntKind.i64.wrap (x75 - 30)) + 1))), (12, .bool false), (5, .int .i64 (IntKind.i64.wrap (x71 + 1))), (4, .ptr 1 0), (2, .ptr 0 0), (1, .ro (fl (eI .i64) a3) a3.length none)] (by kernel_rfl) ?_
                  refine ablock_n ?_
                  obtain rfl := Option.some.inj h261
                  refine Meet.on (Weak.ren [] [] (.cons rfl (.pure rfl) (.cons rfl (.pure rfl) (.cons rfl (.pure rfl) (.cons rfl (.ptr (l := 1) (l' := 1) rfl rfl) (.cons rfl (.ptr (l := 0) (l' := 0) rfl rfl) (.cons rfl (.pure (by simp [pureV, within, withinL, fl_pure])) .nil)))))) (.cons rfl (.pure rfl) (.cons rfl (.pure rfl) .nil)) (by kernel_rfl) (fun _ h => h.elim) En_ok)
            · rintro ⟨x129, x130, x131⟩ rfl
              obtain ⟨x134, h155, h262⟩ := bind_some h197
              refine AW_meetN (fun x134 => [(12, .bool x129), (11, .int .i64 x130), (5, .int .i64 x131), (4, .ptr 1 0), (2, .ptr 0 0), (1, .ro (fl (eI .i64) a3) a3.length none)]) (fun x134 => [(1, some [.int .i64 0, .int .i64 0, .int .i64 0]), (0, some [.int .i64 x100, .int .i64 x73, .int .i64 x134])]) x134 ?_ ?_
              · skip
                obtain ⟨x132, h151, h263⟩ := bind_some h155
                refine AW_meetN (fun x132 => [(220, .bool x132), (12, .bool x129), (11, .int .i64 x130), (5, .int .i64 x131), (4, .ptr 1 0), (2, .ptr 0 0), (1, .ro (fl (eI .i64) a3) a3.length none)]) (fun x132 => [(1, some [.int .i64 0, .int .i64 0, .int .i64 0]), (0, some [.int .i64 x100, .int .i64 x73, .int .i64 x74])]) x132 ?_ ?_
                · skip
                  refine AW_region ?_
                  refine AWl_xrun 3 _ _ _ [(218, .bool (decide (x130 ≥ 0))), (217, .bool (decide (x130 ≥ 0))), (216, .int .i64 x130), (12, .bool x129), (11, .int .i64 x130), (5, .int .i64 x131), (4, .ptr 1 0), (2, .ptr 0 0), (1, .ro (fl (eI .i64) a3) a3.length none)] [(1, some [.int .i64 0, .int .i64 0, .int .i64 0]), (0, some [.int .i64 x100, .int .i64 x73, .int .i64 x74])] (by kernel_rfl) ?_
                  cases h149 : (decide (x130 ≥ 0))
                  · have h264 := bif_f h149 h151
                    refine AWl_xrun 2 _ _ _ [(220, .bool false), (219, .dead), (218, .bool false), (217, .bool false), (216, .int .i64 x130), (12, .bool x129), (11, .int .i64 x130), (5, .int .i64 x131), (4, .ptr 1 0), (2, .ptr 0 0), (1, .ro (fl (eI .i64) a3) a3.length none)] [(1, some [.int .i64 0, .int .i64 0, .int .i64 0]), (0, some [.int .i64 x100, .int .i64 x73, .int .i64 x74])] (by kernel_rfl) ?_
                    refine AWl_nilK [220, 12, 11, 5, 4, 2, 1] [(220, .bool false), (12, .bool x129), (11, .int .i64 x130), (5, .int .i64 x131), (4, .ptr 1 0), (2, .ptr 0 0), (1, .ro (fl (eI .i64) a3) a3.length none)] (by kernel_rfl) ?_
                    obtain rfl := Option.some.inj h264
                    refine Tgt.mk (Weak.ren [] [] (.cons rfl (.pure rfl) (.cons rfl (.pure rfl) (.cons rfl (.pure rfl) (.cons rfl (.pure rfl) (.cons rfl (.ptr (l := 1) (l' := 1) rfl rfl) (.cons rfl (.ptr (l := 0) (l' := 0) rfl rfl) (.cons rfl (.pure (by simp [pureV, within, withinL, fl_pure])) .nil))))))) (.cons rfl (.pure rfl) (.cons rfl (.pure rfl) .nil)) (by kernel_rfl) (fun _ h => h.elim) En_ok)
                  · have h265 := bif_t h149 h151
                    refine AWl_xrun 2 _ _ _ [(220, .bool x129), (219, .bool x129), (218, .bool true), (217, .bool true), (216, .int .i64 x130), (12, .bool x129), (11, .int .i64 x130), (5, .int .i64 x131), (4, .ptr 1 0), (2, .ptr 0 0), (1, .ro (fl (eI .i64) a3) a3.length none)] [(1, some [.int .i64 0, .int .i64 0, .int .i64 0]), (0, some [.int .i64 x100, .int .i64 x73, .int .i64 x74])] (by kernel_rfl) ?_
                    refine AWl_nilK [220, 219, 12, 11, 5, 4, 2, 1] [(220, .bool x129), (219, .bool x129), (12, .bool x129), (11, .int .i64 x130), (5, .int .i64 x131), (4, .ptr 1 0), (2, .ptr 0 0), (1, .ro (fl (eI .i64) a3) a3.length none)] (by kernel_rfl) ?_
                    obtain rfl := Option.some.inj h265
                    refine Tgt.mk (Weak.ren [] [] (.cons rfl (.pure rfl) (.cons rfl (.pure rfl) (.cons rfl (.pure rfl) (.cons rfl (.pure rfl) (.cons rfl (.ptr (l := 1) (l' := 1) rfl rfl) (.cons rfl (.ptr (l := 0) (l' := 0) rfl rfl) (.cons rfl (.pure (by simp [pureV, within, withinL, fl_pure])) .nil))))))) (.cons rfl (.pure rfl) (.cons rfl (.pure rfl) .nil)) (by kernel_rfl) (fun _ h => h.elim) En_ok)
                · skip
                  cases h150 : x132
                  · have h266 := bif_f h150 h263
                    refine AW_condF rfl ?_
                    refine AW_skip ?_
                    obtain rfl := Option.some.inj h266
                    refine Tgt.mk (Weak.ren [] [] (.cons rfl (.pure rfl) (.cons rfl (.pure rfl) (.cons rfl (.pure rfl) (.cons rfl (.ptr (l := 1) (l' := 1) rfl rfl) (.cons rfl (.ptr (l := 0) (l' := 0) rfl rfl) (.cons rfl (.pure (by simp [pureV, within, withinL, fl_pure])) .nil)))))) (.cons rfl (.pure rfl) (.cons rfl (.pure rfl) .nil)) (by kernel_rfl) (fun _ h => h.elim) En_ok)
                  · have h267 := bif_t h150 h263
                    refine AW_condT rfl ?_
                    refine AW_region ?_
                    refine AWl_xrun 3 _ _ _ [(222, .ptr 0 2), (221, .int .i64 x130), (220, .bool true), (12, .bool x129), (11, .int .i64 x130), (5, .int .i64 x131), (4, .ptr 1 0), (2, .ptr 0 0), (1, .ro (fl (eI .i64) a3) a3.length none)] [(1, some [.int .i64 0, .int .i64 0, .int .i64 0]), (0, some [.int .i64 x100, .int .i64 x73, .int .i64 x130])] (by kernel_rfl) ?_
                    refine AWl_nilK [12, 11, 5, 4, 2, 1] [(12, .bool x129), (11, .int .i64 x130), (5, .int .i64 x131), (4, .ptr 1 0), (2, .ptr 0 0), (1, .ro (fl (eI .i64) a3) a3.length none)] (by kernel_rfl) ?_
                    obtain rfl := Option.some.inj h267
                    refine Tgt.mk (Weak.ren [] [] (.cons rfl (.pure rfl) (.cons rfl (.pure rfl) (.cons rfl (.pure rfl) (.cons rfl (.ptr (l := 1) (l' := 1) rfl rfl) (.cons rfl (.ptr (l := 0) (l' := 0) rfl rfl) (.cons rfl (.pure (by simp [pureV, within, withinL, fl_pure])) .nil)))))) (.cons rfl (.pure rfl) (.cons rfl (.pure rfl) .nil)) (by kernel_rfl) (fun _ h => h.elim) En_ok)
              · skip
                obtain ⟨x135, h154, h268⟩ := bind_some h262
                refine AW_meetN (fun x135 => [(228, .bool x135), (11, .int .i64 x130), (5, .int .i64 x131), (4, .ptr 1 0), (2, .ptr 0 0), (1, .ro (fl (eI .i64) a3) a3.length none)]) (fun x135 => [(1, some [.int .i64 0, .int .i64 0, .int .i64 0]), (0, some [.int .i64 x100, .int .i64 x73, .int .i64 x134])]) x135 ?_ ?_
                · skip
                  refine AW_region ?_
                  refine AWl_xrun 3 _ _ _ [(225, .bool (decide (x130 ≥ 0))), (224, .bool (decide (x130 ≥ 0))), (223, .int .i64 x130), (12, .bool x129), (11, .int .i64 x130), (5, .int .i64 x131), (4, .ptr 1 0), (2, .ptr 0 0), (1, .ro (fl (eI .i64) a3) a3.length none)] [(1, some [.int .i64 0, .int .i64 0, .int .i64 0]), (0, some [.int .i64 x100, .int .i64 x73, .int .i64 x134])] (by kernel_rfl) ?_
                  cases h152 : (decide (x130 ≥ 0))
                  · have h269 := bif_f h152 h154
                    refine AWl_xrun 3 _ _ _ [(228, .bool false), (227, .dead), (226, .dead), (225, .bool false), (224, .bool false), (223, .int .i64 x130), (12, .bool x129), (11, .int .i64 x130), (5, .int .i64 x131), (4, .ptr 1 0), (2, .ptr 0 0), (1, .ro (fl (eI .i64) a3) a3.length none)] [(1, some [.int .i64 0, .int .i64 0, .int .i64 0]), (0, some [.int .i64 x100, .int .i64 x73, .int .i64 x134])] (by kernel_rfl) ?_
                    refine AWl_nilK [228, 11, 5, 4, 2, 1] [(228, .bool false), (11, .int .i64 x130), (5, .int .i64 x131), (4, .ptr 1 0), (2, .ptr 0 0), (1, .ro (fl (eI .i64) a3) a3.length none)] (by kernel_rfl) ?_
                    obtain rfl := Option.some.inj h269
                    refine Tgt.mk (Weak.ren [] [] (.cons rfl (.pure rfl) (.cons rfl (.pure rfl) (.cons rfl (.pure rfl) (.cons rfl (.ptr (l := 1) (l' := 1) rfl rfl) (.cons rfl (.ptr (l := 0) (l' := 0) rfl rfl) (.cons rfl (.pure (by simp [pureV, within, withinL, fl_pure])) .nil)))))) (.cons rfl (.pure rfl) (.cons rfl (.pure rfl) .nil)) (by kernel_rfl) (fun _ h => h.elim) En_ok)
                  · have h270 := bif_t h152 h154
                    refine AWl_xrun 3 _ _ _ [(228, .bool (!x129)), (227, .bool (!x129)), (226, .bool x129), (225, .bool true), (224, .bool true), (223, .int .i64 x130), (12, .bool x129), (11, .int .i64 x130), (5, .int .i64 x131), (4, .ptr 1 0), (2, .ptr 0 0), (1, .ro (fl (eI .i64) a3) a3.length none)] [(1, some [.int .i64 0, .int .i64 0, .int .i64 0]), (0, some [.int .i64 x100, .int .i64 x73, .int .i64 x134])] (by kernel_rfl) ?_
                    refine AWl_nilK [228, 227, 226, 11, 5, 4, 2, 1] [(228, .bool (!x129)), (227, .bool (!x129)), (226, .bool x129), (11, .int .i64 x130), (5, .int .i64 x131), (4, .ptr 1 0), (2, .ptr 0 0), (1, .ro (fl (eI .i64) a3) a3.length none)] (by kernel_rfl) ?_
                    obtain rfl := Option.some.inj h270
                    refine Tgt.mk (Weak.ren [] [] (.cons rfl (.pure rfl) (.cons rfl (.pure rfl) (.cons rfl (.pure rfl) (.cons rfl (.ptr (l := 1) (l' := 1) rfl rfl) (.cons rfl (.ptr (l := 0) (l' := 0) rfl rfl) (.cons rfl (.pure (by simp [pureV, within, withinL, fl_pure])) .nil)))))) (.cons rfl (.pure rfl) (.cons rfl (.pure rfl) .nil)) (by kernel_rfl) (fun _ h => h.elim) En_ok)
                · skip
                  cases h153 : x135
                  · have h271 := bif_f h153 h268
                    refine AW_condF rfl ?_
                    refine AW_skip ?_
                    refine ablock_n ?_
                    obtain rfl := Option.some.inj h271
                    refine Round.on (Weak.ren [] [] (.cons rfl (.pure rfl) (.cons rfl (.ptr (l := 1) (l' := 1) rfl rfl) (.cons rfl (.ptr (l := 0) (l' := 0) rfl rfl) (.cons rfl (.pure (by simp [pureV, within, withinL, fl_pure])) .nil)))) (.cons rfl (.pure rfl) (.cons rfl (.pure rfl) .nil)) (by kernel_rfl) (fun _ h => h.elim) En_ok)
                  · have h272 := bif_t h153 h268
                    refine AW_condT rfl ?_
                    refine AW_region ?_
                    refine AWl_xrun 3 _ _ _ [(230, .ptr 0 1), (229, .int .i64 x130), (228, .bool true), (11, .int .i64 x130), (5, .int .i64 x131), (4, .ptr 1 0), (2, .ptr 0 0), (1, .ro (fl (eI .i64) a3) a3.length none)] [(1, some [.int .i64 0, .int .i64 0, .int .i64 0]), (0, some [.int .i64 x100, .int .i64 x130, .int .i64 x134])] (by kernel_rfl) ?_
                    refine AWl_nilK [5, 4, 2, 1] [(5, .int .i64 x131), (4, .ptr 1 0), (2, .ptr 0 0), (1, .ro (fl (eI .i64) a3) a3.length none)] (by kernel_rfl) ?_
                    refine ablock_n ?_
                    obtain rfl := Option.some.inj h272
                    refine Round.on (Weak.ren [] [] (.cons rfl (.pure rfl) (.cons rfl (.ptr (l := 1) (l' := 1) rfl rfl) (.cons rfl (.ptr (l := 0) (l' := 0) rfl rfl) (.cons rfl (.pure (by simp [pureV, within, withinL, fl_pure])) .nil)))) (.cons rfl (.pure rfl) (.cons rfl (.pure rfl) .nil)) (by kernel_rfl) (fun _ h => h.elim) En_ok)
        · have h273 := bif_t h83 h173
          refine AW_condT rfl ?_
          refine AW_seq ?_
          refine AW_region ?_
          refine AWl_xrun 2 _ _ _ [(38, .agg [.int .i64 0, .int .i64 0, .int .i64 0]), (37, .bool true), (5, .int .i64 (IntKind.i64.wrap (x71 + 1))), (6, .int .i64 x75), (4, .ptr 1 0), (2, .ptr 0 0), (1, .ro (fl (eI .i64) a3) a3.length none)] [(1, some [.int .i64 0, .int .i64 0, .int .i64 0]), (0, some [.int .i64 0, .int .i64 0, .int .i64 0])] (by kernel_rfl) ?_
          refine AWl_nilK [5, 4, 2, 1] [(5, .int .i64 (IntKind.i64.wrap (x71 + 1))), (4, .ptr 1 0), (2, .ptr 0 0), (1, .ro (fl (eI .i64) a3) a3.length none)] (by kernel_rfl) ?_
          refine athen_n ?_
          refine AW_exit ?_
          refine athen_exit ?_
          refine ablock_eq ?_
          obtain rfl := Option.some.inj h273
          refine Round.on (Weak.ren [] [] (.cons rfl (.pure rfl) (.cons rfl (.ptr (l := 1) (l' := 1) rfl rfl) (.cons rfl (.ptr (l := 0) (l' := 0) rfl rfl) (.cons rfl (.pure (by simp [pureV, within, withinL, fl_pure])) .nil)))) (.cons rfl (.pure rfl) (.cons rfl (.pure rfl) .nil)) (by kernel_rfl) (fun _ h => h.elim) En_ok)
    · rcases x149 with ⟨x143, x144, x145⟩ | ⟨x146, x147, x148⟩
      · rintro e al L ⟨rfl, h274⟩ -
        refine ⟨_, _, h274, ?_⟩
        refine ablock_eq ?_
        refine athen_n ?_
        refine AW_seq ?_
        refine AW_region ?_
        refine AWl_xrun 2 _ _ _ [(231, .agg [.int .i64 x143, .int .i64 x144, .int .i64 x145]), (4, .ptr 1 0), (2, .ptr 0 0)] [(1, some [.int .i64 x143, .int .i64 x144, .int .i64 x145]), (0, some [.int .i64 x143, .int .i64 x144, .int .i64 x145])] (by kernel_rfl) ?_
        refine AWl_nilK [4] [(4, .ptr 1 0)] (by kernel_rfl) ?_
        refine athen_n ?_
        refine AW_ret ?_
        obtain ⟨rfl, h275⟩ := Prod.mk.inj (Option.some.inj h168)
        obtain ⟨rfl, rfl⟩ := Prod.mk.inj (h275)
        refine RetsW.mk [(4, .ptr 1 0)] [(1, some [.int .i64 x143, .int .i64 x144, .int .i64 x145])] (Weak.ren [] [] (.cons rfl (.ptr (l := 1) (l' := 1) rfl rfl) .nil) (.cons rfl (.pure rfl) .nil) (by kernel_rfl) (fun _ h => h.elim) En_ok) (rets1 (x := .agg [.int .i64 x143, .int .i64 x144, .int .i64 x145]) (.inl rfl) (by kernel_rfl) (.pure rfl))
      · rintro e al L ⟨rfl, h274⟩ -
        refine ⟨_, _, h274, ?_⟩
        refine ablock_ret ?_
        refine athen_ret ?_
        obtain ⟨rfl, h276⟩ := Prod.mk.inj (Option.some.inj h168)
        obtain ⟨rfl, rfl⟩ := Prod.mk.inj (h276)
        refine RetsW.mk [(4, .ptr 1 0)] [(1, some [.int .i64 x146, .int .i64 x147, .int .i64 x148])] (Weak.ren [] [] (.cons rfl (.ptr (l := 1) (l' := 1) rfl rfl) .nil) (.cons rfl (.pure rfl) .nil) (by kernel_rfl) (fun _ h => h.elim) En_ok) (rets1 (x := .agg [.int .i64 x146, .int .i64 x147, .int .i64 x148]) (.inl rfl) (by kernel_rfl) (.pure rfl))
end Go.SH
