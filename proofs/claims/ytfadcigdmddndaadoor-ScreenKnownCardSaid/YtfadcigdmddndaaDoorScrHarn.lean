/- The frame of the closed statements of Screen. -/
import Derived.Test.YtfadcigdmddndaaDoorShZe
import Derived.Test.YtfadcigdmddndaaDoorShW
import Derived.Test.YtfadcigdmddndaaDoorScrTab
import Derived.Test.YtfadcigdmddndaaDoorProg
import Derived.Test.YtfadcigdmddndaaDoorRows
import Derived.KernelRfl
import Derived.ProofKit
import Derived.LaidMore
import Derived.OpenShut
import Derived.Stop.Joined
import Derived.Lib.LaidTab
import Derived.Lib.SmallJoins
set_option linter.unusedVariables false
set_option linter.unusedSimpArgs false

namespace Go.SH
theorem fl_ints (k : IntKind) (zs : List Int) : fl (eI k) zs = zs.map (PV.int k) := by
  induction zs with
  | nil => rfl
  | cons z r ih => rw [fl_cons, ih]; rfl

theorem chunks {α : Type} (s : Nat) : ∀ (n : Nat) (cs : List α) (f : Nat → List α), cs.length = n * s → (∀ i, i < n → (cs.drop (i * s)).take s = f i) → cs = (List.range n).flatMap f
  | 0, cs, f, h, _ => by simp at h; simp [h]
  | n + 1, cs, f, h, hf => by
    have h0 := hf 0 (by omega)
    simp only [Nat.zero_mul, List.drop_zero] at h0
    have ih := chunks s n (cs.drop s) (fun i => f (i + 1)) (by rw [List.length_drop, h, Nat.succ_mul]; omega) (fun i hi => by
      have := hf (i + 1) (by omega)
      rw [List.drop_drop, ← this]; congr 2; rw [Nat.succ_mul]; omega)
    rw [List.range_succ_eq_map, List.flatMap_cons, List.flatMap_map, ← ih, ← h0, List.take_append_drop]

/-- An array of arrays of integers. -/
theorem cells_of_tab2 {H : Type} {enc : TypeId × Value → H} {P : Program} {w : World} {base : Nat} {sp : Nat → Bool} {held : Bool} {fuel : Nat} {t e e2 : TypeId} {n s : Nat} {k : IntKind} {cs : List Value} {rows : List (List Int)} {p : List MemPlace}
    (ht : P.underlying t = some (.array n e)) (he : P.underlying e = some (.array s e2)) (he2 : P.underlying e2 = some (.int k)) (hc2 : P.cellsOf e2 = 1) (hce : P.cellsOf e = s) (hct : P.cellsOf t = n * s)
    (h : DataW.trod enc P w base sp held fuel t cs = some (.agg (rows.map (Lib.tabData k)), p)) : cs = (List.range n).flatMap fun i => (rows.getD i []).map (Value.int k) := by
  cases fuel with
  | zero => simp [DataW.trod] at h
  | succ fuel =>
    simp only [DataW.trod, ht, hce, hct] at h
    split at h
    · rename_i hl
      obtain ⟨xs, hm, hx⟩ := Option.map_eq_some_iff.1 h
      have hxs : xs.map (·.1) = rows.map fun zs => (Lib.tabData k zs : DataW H) := by
        have := congrArg Prod.fst hx
        simpa using this
      have hxl : xs.length = n := by simpa using Lib.mapM_length hm
      have hrl : rows.length = n := by
        have := congrArg List.length hxs
        simp at this
        omega
      refine chunks s n cs _ hl fun i hi => ?_
      obtain ⟨b, hb, hf⟩ := Lib.mapM_at hm i i (by simp [hi])
      have h2 : (xs.map (·.1))[i]? = some b.1 := by simp [hb]
      rw [hxs] at h2
      simp only [List.getElem?_map, Option.map_eq_some_iff] at h2
      obtain ⟨zs, hz, hzb⟩ := h2
      obtain ⟨b1, b2⟩ := b
      simp only at hzb; subst hzb
      rw [List.getD_eq_getElem?_getD, hz, Option.getD_some]
      exact Lib.cells_of_tab he he2 hc2 hce hf
    · cases h
end Go.SH

namespace Go.Proofs.YtfadcigdmddndaaDoor
open Go.ChangeShapes Go.WideShapes Go.ChangeAt Go.RowKit Go.Joins Go.SH

noncomputable def En : Env := ⟨Tryd.prog, scrG⟩
theorem En_ok : GOK En := by
  intro g cells h
  simp only [En, scrG, lget] at h
  split at h
  · simp at h; subst h; exact withinL_labs _ _ (by
      have : ∀ zs : List Int, labsL (zs.map fun n => PV.int .i32 n) = [] := by
        intro zs; induction zs with
        | nil => rfl
        | cons z r ih => simp [labsL, labs, ih]
      rw [this]; simp)
  · split at h
    · simp at h; subst h; exact withinL_labs _ _ (by
        have : ∀ zs : List Int, labsL (zs.map fun n => PV.int .u8 n) = [] := by
          intro zs; induction zs with
          | nil => rfl
          | cons z r ih => simp [labsL, labs, ih]
        rw [this]; simp)
    · simp at h
theorem all_names : (Tryd.prog.funcs.toList.all fun fn => !(fn.name == "runtime.NumGoroutine")) = true := by kernel_rfl
theorem En_pok : POK En where
  g := En_ok
  mixed := by kernel_rfl
  names := fun f fn h => by
    have h' : Tryd.prog.funcs[f]? = some fn := h
    have := List.all_eq_true.1 all_names fn (List.mem_of_getElem? (i := f) (by rw [Array.getElem?_toList]; exact h'))
    simpa using this

theorem own : ownKnob Tryd.prog.godebug = none := by kernel_rfl
theorem laidOut : laidOutB Tryd.prog = true := by kernel_rfl
def laid2 : List (String × DataW Unit) := [("math/bits.deBruijn64tab", Rows.laid_math_bits_deBruijn64tab), ("oriel/cols.bounds", Rows.laid_oriel_cols_bounds)]
theorem gB : Tryd.prog.globalNamed "oriel/cols.bounds" = some 0 := by kernel_rfl
theorem tB : (Tryd.prog.globals[0]?).map (·.type) = some 106 := by kernel_rfl
theorem gD : Tryd.prog.globalNamed "math/bits.deBruijn64tab" = some 1 := by kernel_rfl
theorem tD : (Tryd.prog.globals[1]?).map (·.type) = some 137 := by kernel_rfl
def rows_bounds : List (List Int) := (List.range 22).map fun i => (scr_bounds.drop (3 * i)).take 3
theorem bounds_rows : (Rows.laid_oriel_cols_bounds : DataW Unit) = .agg (rows_bounds.map (Lib.tabData .i32)) := by kernel_rfl
theorem dB64_tab : (Rows.laid_math_bits_deBruijn64tab : DataW Unit) = Lib.tabData .u8 scr_dB64 := by kernel_rfl
theorem bounds_flat : ((List.range 22).flatMap fun i => (rows_bounds.getD i []).map (Value.int .i32)) = scr_bounds.map fun z => Value.int .i32 z := by kernel_rfl

theorem door_met (os : Os) (args : Array Value) : laidMetH Tryd.prog laid2 ((World.doorLaid Tryd.prog 400 os).forCall (fun _ _ => 0) ⟨#[], args, []⟩).memory :=
  laidMetH_of_parts3 (fuel := 8) (laidMet_of_run' 8 (by kernel_rfl) (by kernel_rfl)) (by kernel_rfl) (by kernel_rfl)

theorem of_laid {W : World} (h : laidMetH Tryd.prog laid2 W) : (∀ i, i < scr_bounds.length → W.cell? ⟨0, i, none⟩ = some (.int .i32 (scr_bounds.getD i 0))) ∧ ∀ i, i < scr_dB64.length → W.cell? ⟨1, i, none⟩ = some (.int .u8 (scr_dB64.getD i 0)) := by
  rw [MakeChecks.laidMetH_plain _ _ _ (by kernel_rfl)] at h
  obtain ⟨ps, ⟨g0, t0, cs0, f0, p0, q0, hg0, ht0, hv0, hd0, ⟨g1, t1, cs1, f1, p1, q1, hg1, ht1, hv1, hd1, _, _⟩, _⟩, _, _⟩ := h
  obtain rfl := Option.some.inj (gD.symm.trans hg0)
  obtain rfl := Option.some.inj (tD.symm.trans ht0)
  obtain rfl := Option.some.inj (gB.symm.trans hg1)
  obtain rfl := Option.some.inj (tB.symm.trans ht1)
  rw [dB64_tab] at hd0
  rw [bounds_rows] at hd1
  have hc0 : cs0.toList = scr_dB64.map fun z => Value.int .u8 z := Lib.cells_of_tab (k := .u8) Tryd.underlying137 Tryd.underlying5 (by kernel_rfl) (by kernel_rfl) hd0
  have hc1 : cs1.toList = scr_bounds.map fun z => Value.int .i32 z := (cells_of_tab2 (k := .i32) Tryd.underlying106 Tryd.underlying105 Tryd.underlying21 (by kernel_rfl) (by kernel_rfl) (by kernel_rfl) hd1).trans bounds_flat
  have i0 : Lib.TabIs Tryd.prog W "math/bits.deBruijn64tab" .u8 scr_dB64 := by unfold Lib.TabIs; rw [hv0, ← hc0]
  have i1 : Lib.TabIs Tryd.prog W "oriel/cols.bounds" .i32 scr_bounds := by unfold Lib.TabIs; rw [hv1, ← hc1]
  exact ⟨fun i hi => i1.cell gB i hi, fun i hi => i0.cell gD i hi⟩

theorem En_globals {W : World} (h : laidMetH Tryd.prog laid2 W) : ∀ g cells, lget En.G g = some cells → VR W (fun _ => none) av0 (.rop cells 0) (.pointer (some ⟨g, 0, none⟩)) := by
  intro g cells hg
  obtain ⟨h1, h2⟩ := of_laid h
  have hz : ∀ (g : Nat) (v : Value), W.cell? ⟨g, 0, none⟩ = some v → g < W.heap.size := by
    intro g v hv
    rcases Nat.lt_or_ge g W.heap.size with h' | h'
    · exact h'
    · simp [World.cell?, Array.getElem?_eq_none h'] at hv
  simp only [En, scrG, lget] at hg
  split at hg
  · rename_i e; subst e
    simp at hg; subst hg
    have := vr_tab (k := .i32) (hz 0 _ (h1 0 (by decide))) h1
    rw [fl_ints] at this; exact this
  · split at hg
    · rename_i e; subst e
      simp at hg; subst hg
      have := vr_tab (k := .u8) (hz 1 _ (h2 0 (by decide))) h2
      rw [fl_ints] at this; exact this
    · simp at hg

set_option maxRecDepth 100000 in
theorem known_lifted (hrun : Pure En 3 [] (.bool true)) (os : Os) (started : os.Started) (H : Type) (enc : TypeId × Value → H) :
    ReturnsInHanded {} Tryd.checked os 3 .any (fun w args => (Rows.screenKnownSpec.pre enc Tryd.prog Tryd.f3 [] false w args ∧ laidMetH Tryd.prog laid2 w) ∧ sizedMet enc Tryd.prog Tryd.f3 (OpenSpec.ofChange Rows.screenKnownSpec) false w args)
      (Rows.screenKnownSpec.post enc Tryd.prog Tryd.f3 false true false false) := by
  refine returnsInHanded_of_change_and (C := Tryd.checked) (X := fun w _ => laidMetH Tryd.prog laid2 w) (fun _ _ _ hh h => h.of_heap hh) own started (by kernel_rfl) Tryd.func3
    (ChangeSpec.witness_shaped (enc := enc) (C := Tryd.checked) (os := os) (X := fun w _ => laidMetH Tryd.prog laid2 w) false (World.doorLaid Tryd.prog 400 os) #[] 8 rfl (World.shaped_of_RefB (by kernel_rfl) (by kernel_rfl)) (by kernel_rfl) (by kernel_rfl) (by kernel_rfl) (door_met os _)) ?_
  intro W base args ds gs before hval0 hW _ _ hL _
  have hW' := hW
  obtain ⟨p, q, hA0, hV, rfl, hfz, hnd⟩ := hW
  have hA : DataW.TrodAll enc Tryd.prog W 0 (fun _ => true) true Tryd.f3.params.toList args.toList ds p := hA0
  rw [Tryd.params3] at hA
  obtain ⟨hargs, rfl, rfl⟩ := trodAll_nil hA
  obtain rfl : args = #[] := by simpa using hargs
  obtain ⟨rfl, rfl⟩ := trodVars_none hV
  refine (law_calls' hrun W [] .nil (En_globals hL)).mono fun e W' ⟨he, bel⟩ => ?_
  subst he
  exact ⟨_, rfl, _, _, _, [], _, [], hW', trodAll_mk1 (shut_bool Tryd.underlying4 _), trodAll_mk0, rfl, bel.frame _, fun h => by cases h⟩
end Go.Proofs.YtfadcigdmddndaaDoor
