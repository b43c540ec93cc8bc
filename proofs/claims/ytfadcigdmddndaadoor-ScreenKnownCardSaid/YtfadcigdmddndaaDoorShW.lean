/- From a contract to a statement of the seat. -/
import Derived.Test.YtfadcigdmddndaaDoorShV
import Derived.ProofKit
import Derived.LaidMore
import Derived.OpenShut
import Derived.Below
set_option linter.unusedVariables false
set_option linter.unusedSimpArgs false
namespace Go.SH
open Go.RowKit

/-- Arguments that nobody writes. -/
def av0 : Nat → Prop := avo (fun _ => False) (fun _ => none) []
theorem av0_no (β : Nat) : ¬ av0 β := by
  rintro (h | ⟨l, c, a, s, h, _⟩)
  · exact h
  · simp [lget] at h

/-- A law's run: it answers true, and what was there stays. -/
theorem law_calls {E : Env} {f : FuncId} {args : List PV} (h : Pure E f args (.bool true)) (w : World) (cargs : Array Value) (hl : cargs.size = args.length)
    (hv : ∀ (i : Nat) (x : PV) (u : Value), args[i]? = some x → cargs[i]? = some u → VR w (fun _ => none) av0 x u)
    (hg : ∀ g cells, lget E.G g = some cells → VR w (fun _ => none) av0 (.rop cells 0) (.pointer (some ⟨g, 0, none⟩))) :
    Calls E.P f cargs w fun e w' => e = .returned (.bool true) ∧ Below w.heap.size w w' := by
  have := h (fun _ => False) w (fun _ => none) cargs.toList (by simpa using hl) (fun i x u hx hu => hv i x u hx (by simpa using hu)) ⟨by simp [lget], by simp [lget], by simp, fun _ h => h.elim⟩ hg
  refine this.mono ?_
  rintro e w' ⟨r, c, L', σ', rfl, ⟨rfl, rfl⟩, hvr, _, hgr⟩
  cases hvr
  refine ⟨rfl, hgr.out.1, hgr.out.2.2, hgr.out.2.1, hgr.size, fun k hk => (hgr.keep k hk ?_).2⟩
  rintro ⟨l, c, a, s, h, _⟩
  simp [lget] at h

/-- What is told of a slice of integers that came in. -/
def IsRow (k : IntKind) (w : World) (a : Option Addr) (len cap : Nat) (zs : List Int) : Prop :=
  (a = none ∧ len = 0 ∧ cap = 0 ∧ zs = []) ∨
  ∃ x, a = some x ∧ len ≤ cap ∧ zs.length = cap ∧ (0 < len → x.block < w.heap.size) ∧ (∀ i, i < zs.length → w.cell? (x.add i) = some (.int k (zs.getD i 0))) ∧ ∀ n ∈ zs, (Lit.int k n).wf = true

theorem vr_ints {w : World} {k : IntKind} {a : Option Addr} {len cap : Nat} {zs : List Int} (h : IsRow k w a len cap zs) :
    VR w (fun _ => none) av0 (.ro (fl (eI k) (zs.take len)) (zs.take len).length none) (.slice a len cap) := by
  rcases h with ⟨rfl, rfl, rfl, rfl⟩ | ⟨x, rfl, hl, hz, hb, hc, hwz⟩
  · exact .roE _ _ (by simp)
  · by_cases h0 : zs.take len = []
    · have : len = 0 := by
        have := congrArg List.length h0; rw [List.length_take] at this; simp only [List.length_nil] at this; omega
      subst this
      exact .roE _ _ (by simp)
    · have hlen : (zs.take len).length = len := by simp; omega
      have hpos : 0 < len := by
        rcases Nat.eq_zero_or_pos len with e | e
        · subst e; simp at h0
        · exact e
      obtain ⟨b, off, rfl, hcell⟩ := ints_at hc (by omega)
      rw [hlen]
      refine .ro ((zs.take len).map fun z => .int k z) ⟨hb hpos, av0_no _, fun i v hi => ?_⟩ (by simp [fl_length, eI]) (fun i y v hy hv => ?_) hl (by simp)
      · simp only [List.getElem?_map, Option.map_eq_some_iff] at hi
        obtain ⟨z, hz', rfl⟩ := hi
        have hi2 : i < zs.length := by have := (List.getElem?_eq_some_iff.1 hz').1; simp at this; omega
        rw [hcell i hi2]
        rw [List.getElem?_take] at hz'
        split at hz'
        · simp [List.getD, hz']
        · simp at hz'
      · simp only [List.getElem?_map, Option.map_eq_some_iff] at hv
        obtain ⟨z, hz', rfl⟩ := hv
        have := fl_get (e := eI k) (k := 0) hz' Nat.zero_lt_one
        simp [eI] at this
        simp only [eI] at hy
        rw [this] at hy
        simp at hy; subst hy
        exact .int _ _

/-- A table that lies as its initialiser lays it. -/
theorem vr_tab {w : World} {k : IntKind} {g : Nat} {zs : List Int} (hg : g < w.heap.size) (h : ∀ i, i < zs.length → w.cell? ⟨g, i, none⟩ = some (.int k (zs.getD i 0))) :
    VR w (fun _ => none) av0 (.rop (fl (eI k) zs) 0) (.pointer (some ⟨g, 0, none⟩)) := by
  refine .rop (off := 0) (add := 0) (zs.map fun z => .int k z) ⟨hg, av0_no _, fun i v hi => ?_⟩ (by simp [fl_length, eI]) (fun i y v hy hv => ?_)
  · simp only [List.getElem?_map, Option.map_eq_some_iff] at hi
    obtain ⟨z, hz', rfl⟩ := hi
    have hi2 : i < zs.length := (List.getElem?_eq_some_iff.1 hz').1
    rw [Nat.zero_add, h i hi2]
    simp [List.getD, hz']
  · simp only [List.getElem?_map, Option.map_eq_some_iff] at hv
    obtain ⟨z, hz', rfl⟩ := hv
    have := fl_get (e := eI k) (k := 0) hz' Nat.zero_lt_one
    simp [eI] at this
    simp only [eI] at hy
    rw [this] at hy
    simp at hy; subst hy
    exact .int _ _

inductive VRs (w : World) (σ : Sig) (av : Nat → Prop) : List PV → List Value → Prop where
  | nil : VRs w σ av [] []
  | cons {x : PV} {v : Value} {xs : List PV} {vs : List Value} (h : VR w σ av x v) (r : VRs w σ av xs vs) : VRs w σ av (x :: xs) (v :: vs)

theorem VRs.get {w : World} {σ : Sig} {av : Nat → Prop} {xs : List PV} {cs : List Value} (h : VRs w σ av xs cs) : xs.length = cs.length ∧ ∀ (i : Nat) (x : PV) (v : Value), xs[i]? = some x → cs[i]? = some v → VR w σ av x v := by
  induction h with
  | nil => simp
  | cons h _ ih =>
    refine ⟨by simp [ih.1], fun i x v hx hv => ?_⟩
    cases i with
    | zero => simp at hx hv; subst hx; subst hv; exact h
    | succ i => exact ih.2 i x v (by simpa using hx) (by simpa using hv)
theorem VRs.agg {w : World} {σ : Sig} {av : Nat → Prop} {xs : List PV} {cs : List Value} (h : VRs w σ av xs cs) : VR w σ av (.agg xs) (.agg cs.toArray) := .agg cs h.get.1 h.get.2

/-- A law's run, its arguments one by one. -/
theorem law_calls' {E : Env} {f : FuncId} {args : List PV} (h : Pure E f args (.bool true)) (w : World) (cargs : List Value) (hv : VRs w (fun _ => none) av0 args cargs)
    (hg : ∀ g cells, lget E.G g = some cells → VR w (fun _ => none) av0 (.rop cells 0) (.pointer (some ⟨g, 0, none⟩))) :
    Calls E.P f cargs.toArray w fun e w' => e = .returned (.bool true) ∧ Below w.heap.size w w' :=
  law_calls h w cargs.toArray (by simpa using hv.get.1.symm) (fun i x u hx hu => hv.get.2 i x u hx (by simpa using hu)) hg
end Go.SH
