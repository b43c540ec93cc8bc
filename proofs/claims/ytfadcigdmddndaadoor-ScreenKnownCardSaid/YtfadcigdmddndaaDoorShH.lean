/- Structs and slices that are built, fields, elements, and the rest of the plain operations. -/
import Derived.Test.YtfadcigdmddndaaDoorShG
import Derived.Great.BuildSlice
set_option linter.unusedVariables false
set_option linter.unusedSimpArgs false
namespace Go.SH

theorem foldl_set (off : Nat) : ∀ (vs : List Value) (k : Nat) (cs : Array Value), off + k + vs.length ≤ cs.size →
    ((vs.zipIdx k).foldl (fun cs (p : Value × Nat) => cs.setIfInBounds (off + p.2) p.1) cs).size = cs.size ∧
    ∀ j, ((vs.zipIdx k).foldl (fun cs (p : Value × Nat) => cs.setIfInBounds (off + p.2) p.1) cs)[j]? = if off + k ≤ j ∧ j < off + k + vs.length then vs[j - (off + k)]? else cs[j]?
  | [], k, cs, _ => ⟨rfl, fun j => by simp; intro h1 h2; omega⟩
  | v :: r, k, cs, h => by
    simp only [List.length_cons] at h
    obtain ⟨h1, h2⟩ := foldl_set off r (k + 1) (cs.setIfInBounds (off + k) v) (by simp; omega)
    simp only [List.zipIdx_cons, List.foldl_cons]
    refine ⟨by rw [h1]; simp, fun j => ?_⟩
    rw [h2]
    by_cases hj : off + (k + 1) ≤ j ∧ j < off + (k + 1) + r.length
    · rw [if_pos hj, if_pos (by simp; omega)]
      have : j - (off + k) = (j - (off + (k + 1))) + 1 := by omega
      rw [this]; simp
    · rw [if_neg hj]
      by_cases hj2 : j = off + k
      · subst hj2
        have hi : off + k < cs.size := by omega
        rw [if_pos (by simp)]
        simp [hi]
      · rw [if_neg (by simp; omega)]
        simp [Ne.symm hj2]

def xfill (place : Nat → Option (Nat × Nat)) (cells : List PV) : List (Nat × PV) → Option (List PV)
  | [] => some cells
  | (i, v) :: rest => match place i with
    | none => none
    | some (off, size) => if (pcells v).length = size ∧ off + size ≤ cells.length ∧ (pcells v).all PV.one = true then xfill place (splice cells off (pcells v)) rest else none

theorem xfill_ok {w : World} {σ : Sig} {av : Nat → Prop} {place : Nat → Option (Nat × Nat)} : ∀ (ps : List (Nat × PV)) (vs : List (Nat × Value)) (cells : List PV) (cs : Array Value) (r : List PV), ps.length = vs.length →
    (∀ (j : Nat) (p : Nat × PV) (v : Nat × Value), ps[j]? = some p → vs[j]? = some v → p.1 = v.1 ∧ VR w σ av p.2 v.2) → cells.length = cs.size →
    (∀ (i : Nat) (x : PV), cells[i]? = some x → ∃ v, cs[i]? = some v ∧ VR w σ av x v) → xfill place cells ps = some r →
    ∃ rs, Instr.fill place cs vs = some rs ∧ rs.size = r.length ∧ ∀ (i : Nat) (x : PV), r[i]? = some x → ∃ v, rs[i]? = some v ∧ VR w σ av x v
  | [], [], cells, cs, r, _, _, hl, hv, h => by
    simp [xfill] at h; subst h
    exact ⟨cs, rfl, hl.symm, hv⟩
  | (i, x) :: ps, (i', v) :: vs, cells, cs, r, hn, hp, hl, hv, h => by
    obtain ⟨he, hx⟩ := hp 0 _ _ rfl rfl
    simp at he hx; subst he
    simp only [xfill] at h
    simp only [Instr.fill]
    split at h
    · simp at h
    · rename_i off size hpl
      split at h
      · rename_i hc
        obtain ⟨c1, c2, c3⟩ := hc
        obtain ⟨q1, q2, q3⟩ := pcells_ok hx c3
        have hsz : v.cells.size = size := by omega
        obtain ⟨f1, f2⟩ := foldl_set off v.cells.toList 0 cs (by simp; omega)
        simp only [Nat.add_zero, Array.length_toList] at f1 f2
        have hz : v.cells.zipIdx.foldl (fun cs (p : Value × Nat) => cs.setIfInBounds (off + p.2) p.1) cs = (v.cells.toList.zipIdx 0).foldl (fun cs (p : Value × Nat) => cs.setIfInBounds (off + p.2) p.1) cs := by
          rw [← Array.foldl_toList]; simp
        rw [hpl]
        simp only
        rw [if_neg (by simp; omega), hz]
        refine xfill_ok ps vs _ _ r (by simpa using hn) (fun j p v' h1 h2 => hp (j + 1) p v' (by simpa using h1) (by simpa using h2)) ?_ ?_ h
        · rw [f1, length_splice (by omega)]; exact hl
        · intro j y hy
          rw [getElem?_splice (by omega)] at hy
          rw [f2]
          by_cases hj : off ≤ j ∧ j < off + (pcells x).length
          · rw [if_pos hj] at hy
            rw [if_pos (by omega)]
            simpa using q3 _ y hy
          · rw [if_neg hj] at hy
            rw [if_neg (by omega)]
            exact hv j y hy
      · simp at h

def xparts (G : List (Nat × List PV)) (al : Al) : List (Nat × Operand) → Option (List (Nat × PV))
  | [] => some []
  | (i, o) :: r => match xev G al o, xparts G al r with
    | some x, some xs => some ((i, x) :: xs)
    | _, _ => none

theorem xparts_ok {E : Env} {A : Nat → Prop} {w : World} {σ : Sig} {al : Al} {L : Lb} {a : Act} (r : Rel E A w σ al L a) {ra : Al} (h1 : ∀ t y, lget ra t = some y → lget al t = some y) :
    ∀ (os : List (Nat × Operand)) (ps : List (Nat × PV)), xparts E.G ra os = some ps → ps.length = (os.map fun (i, x) => (i, a.eval x)).length ∧
      ∀ (j : Nat) (p : Nat × PV) (v : Nat × Value), ps[j]? = some p → (os.map fun (i, x) => (i, a.eval x))[j]? = some v → p.1 = v.1 ∧ VR w σ (avo A σ L) p.2 v.2
  | [], ps, h => by simp [xparts] at h; subst h; simp
  | (i, o) :: os, ps, h => by
    simp only [xparts] at h
    split at h
    · rename_i x xs h2 h3
      simp at h; subst h
      obtain ⟨e1, e2⟩ := xparts_ok r h1 os xs h3
      refine ⟨by simp [e1], fun j p v hp hv => ?_⟩
      cases j with
      | zero => simp at hp hv; subst hp; subst hv; exact ⟨rfl, xev_ok r h1 h2⟩
      | succ j => exact e2 j p v (by simpa using hp) (by simpa using hv)
    · simp at h

def xplaces (P : Program) : List Field → Option (List (Nat × Nat))
  | [] => some []
  | f :: fs => match P.info? f.type, xplaces P fs with
    | some i, some r => some ((f.offset, i.size) :: r)
    | _, _ => none

theorem xplaces_eq (P : Program) : ∀ (fs : List Field), fs.mapM (fun f => (P.info? f.type).map fun i => (f.offset, i.size)) = xplaces P fs
  | [] => rfl
  | f :: fs => by
    simp only [List.mapM_cons, xplaces]
    rw [xplaces_eq P fs]
    cases P.info? f.type <;> cases xplaces P fs <;> rfl

def xbuild (P : Program) (T : TypeId) (ps : List (Nat × PV)) : Option (List PV) :=
  match zcells P T, P.underlying T with
  | some z, some (.struct fields) => match xplaces P fields.toList with
    | some places => xfill (fun (i : Nat) => places[i]?) z ps
    | none => none
  | some z, some (.array _ e) => match P.info? e with
    | some ie => xfill (fun i => some (i * ie.size, ie.size)) z ps
    | none => none
  | _, _ => none

section
variable {E : Env} {d : Option Tmp} {ty : TypeId} {pos : String} {after : Array Edge} {g : Option (Nat × Bool)} {ra : Al} {rl : Lb}

theorem zc {P : Program} {T : TypeId} {z : List PV} (h : zcells P T = some z) : ∃ it v, P.info? T = some it ∧ it.zero = some v ∧ cpvs v.cells.toList = some z := by
  unfold zcells at h
  split at h
  · rename_i i hi
    split at h
    · rename_i v hv; exact ⟨i, v, hi, hv, h⟩
    · simp at h
  · simp at h

theorem cpvs_vals {w : World} {σ : Sig} {av : Nat → Prop} {vs : Array Value} {z : List PV} (h : cpvs vs.toList = some z) :
    z.length = vs.size ∧ ∀ (i : Nat) (x : PV), z[i]? = some x → ∃ v, vs[i]? = some v ∧ VR w σ av x v := by
  obtain ⟨h1, h2⟩ := cpvs_ok (w := w) (σ := σ) (av := av) h
  refine ⟨by simpa using h1, fun i x hx => ?_⟩
  have hi : i < vs.size := by have := (List.getElem?_eq_some_iff.1 hx).1; simp at h1; omega
  exact ⟨vs[i], by simp [hi], h2 i x _ hx (by simp [hi])⟩

theorem AOp_build {T : TypeId} {parts : Array (Nat × Operand)} {ps : List (Nat × PV)} {cells : List PV} (hp : xparts E.G ra parts.toList = some ps) (h : xbuild E.P T ps = some cells) :
    AOp E ⟨d, .build T parts, ty, pos, after, g⟩ ra rl (.agg cells) [] := by
  refine AOp_val fun A w σ al L a r h1 h2 => ?_
  obtain ⟨e1, e2⟩ := xparts_ok r h1 _ _ hp
  have hpt : (parts.map fun (i, x) => (i, a.eval x)).toList = parts.toList.map fun (i, x) => (i, a.eval x) := by simp
  have fin : ∀ (cs : Array Value), E.P.built T (parts.map fun (i, x) => (i, a.eval x)).toList = some cs → cs.size = cells.length → (∀ (i : Nat) (x : PV), cells[i]? = some x → ∃ v, cs[i]? = some v ∧ VR w σ (avo A σ L) x v) →
      ∃ c, (execOp a.eval ⟨d, .build T parts, ty, pos, after, g⟩).run E.P w = .ok (.value c) w ∧ VR w σ (avo A σ L) (.agg cells) c := by
    intro cs hb hs hv
    refine ⟨.agg cs, by simp [execOp, run_build w T _ cs hb], ?_⟩
    refine VR.agg cs.toList (by simp [hs]) fun i x v hx hv' => ?_
    obtain ⟨u, hu, hr⟩ := hv i x hx
    simp [hu] at hv'; subst hv'; exact hr
  unfold xbuild at h
  split at h
  · rename_i z fields hz hu
    obtain ⟨it, zv, z1, z2, z3⟩ := zc hz
    obtain ⟨l1, l2⟩ := cpvs_vals (w := w) (σ := σ) (av := avo A σ L) z3
    split at h
    · rename_i places hpl
      obtain ⟨rs, f1, f2, f3⟩ := xfill_ok (place := fun (i : Nat) => places[i]?) ps (parts.toList.map fun (i, x) => (i, a.eval x)) z zv.cells cells e1 e2 l1 l2 h
      refine fin rs ?_ f2 f3
      unfold Program.built
      simp only [z1, hu, z2, xplaces_eq, hpl, hpt]
      have : (fun (i : Nat) => places.toArray[i]?) = fun (i : Nat) => places[i]? := by funext i; simp
      rw [this]; exact f1
    · simp at h
  · rename_i z n e hz hu
    obtain ⟨it, zv, z1, z2, z3⟩ := zc hz
    obtain ⟨l1, l2⟩ := cpvs_vals (w := w) (σ := σ) (av := avo A σ L) z3
    split at h
    · rename_i ie hie
      obtain ⟨rs, f1, f2, f3⟩ := xfill_ok (place := fun i => some (i * ie.size, ie.size)) ps (parts.toList.map fun (i, x) => (i, a.eval x)) z zv.cells cells e1 e2 l1 l2 h
      refine fin rs ?_ f2 f3
      unfold Program.built
      simp only [z1, hu, z2, hie, hpt]
      exact f1
    · simp at h
  · simp at h

/-- So many zero cells. -/
def zrow (z : List PV) (n : Nat) : List PV := (List.range n).map fun i => z.getD (i % z.length) .dead

theorem zrow_vals {w : World} {σ : Sig} {av : Nat → Prop} {vs : Array Value} {z : List PV} (h : cpvs vs.toList = some z) (n : Nat) (hz : n = 0 ∨ 0 < z.length) :
    (zrow z n).length = ((Array.range n).map (vs[· % vs.size]!)).size ∧ ∀ (i : Nat) (x : PV), (zrow z n)[i]? = some x → ∃ v, ((Array.range n).map (vs[· % vs.size]!))[i]? = some v ∧ VR w σ av x v := by
  obtain ⟨h1, h2⟩ := cpvs_vals (w := w) (σ := σ) (av := av) h
  refine ⟨by simp [zrow], fun i x hx => ?_⟩
  have hi : i < n := by have := (List.getElem?_eq_some_iff.1 hx).1; simpa [zrow] using this
  have hp : 0 < z.length := by omega
  have hm : i % z.length < z.length := Nat.mod_lt _ hp
  simp [zrow, List.getElem?_range hi] at hx
  obtain ⟨v, hv, hr⟩ := h2 (i % z.length) x (by rw [← hx]; simp [List.getElem?_eq_getElem hm])
  refine ⟨v, ?_, hr⟩
  rw [h1] at hv
  have hm' : i % vs.size < vs.size := by rw [← h1]; exact hm
  simp [hi]
  rw [Array.getElem?_eq_getElem hm'] at hv
  simp at hv
  rw [getElem!_pos vs _ hm']; exact hv

def xbuildSlice (P : Program) (T : TypeId) (len : Nat) (ps : List (Nat × PV)) : Option (List PV × Nat) :=
  match P.underlying T with
  | some (.slice e) => match P.info? e, zcells P e with
    | some ie, some z => if len * ie.size ≤ 2 ^ 24 ∧ 0 < ie.size ∧ 0 < z.length then (xfill (fun i => some (i * ie.size, ie.size)) (zrow z (len * ie.size)) ps).map fun c => (c, ie.size) else none
    | _, _ => none
  | _ => none

theorem AOp_buildSlice {T : TypeId} {len : Nat} {parts : Array (Nat × Operand)} {ps : List (Nat × PV)} {cells : List PV} {sz : Nat} (lab : Nat) (hp : xparts E.G ra parts.toList = some ps)
    (h : xbuildSlice E.P T len ps = some (cells, sz)) (hrl : lget rl lab = none) : AOp E ⟨d, .buildSlice T len parts, ty, pos, after, g⟩ ra rl (.rw lab 0 len sz (some len)) [(lab, some cells)] := by
  refine AOp_new (fun A w σ al L a r h1 h2 => ?_) hrl
  obtain ⟨e1, e2⟩ := xparts_ok r h1 _ _ hp
  unfold xbuildSlice at h
  split at h
  · rename_i e hu
    split at h
    · rename_i ie z hie hz
      split at h
      · rename_i hc
        simp only [Option.map_eq_some_iff, Prod.mk.injEq] at h
        obtain ⟨c, h, rfl, rfl⟩ := h
        obtain ⟨it, zv, z1, z2, z3⟩ := zc hz
        rw [hie] at z1; simp at z1; subst z1
        have key : ∀ (cs : Array Value), Instr.fill (fun i => some (i * ie.size, ie.size)) ((Array.range (len * ie.size)).map (zv.cells[· % zv.cells.size]!)) (parts.toList.map fun (i, x) => (i, a.eval x)) = some cs →
            (execOp a.eval ⟨d, .buildSlice T len parts, ty, pos, after, g⟩).run E.P w = .ok (.value (.slice (some ⟨w.heap.size, 0, none⟩) len len)) (w.alloc (.cells cs e)) := by
          intro cs hf
          by_cases h0 : len * ie.size = 0
          · have hlen : len = 0 := by
              rcases Nat.mul_eq_zero.1 h0 with h | h
              · exact h
              · omega
            subst hlen
            have hr0 : Array.range 0 = #[] := rfl
            simp [hr0] at hf
            simp [execOp, Instr.buildSlice, run_underlying hu, sizeOf, typeInfo, hie, newRow, hr0, hf]
          · have := run_buildSlice w T e len (parts.map fun (i, x) => (i, a.eval x)) cs ie zv hu hie z2 (by omega) h0 (by simpa using hf)
            simp [execOp, this]
        obtain ⟨l1, l2⟩ := zrow_vals (w := w) (σ := σ) (av := avo A σ L) z3 (len * ie.size) (.inr hc.2.2)
        obtain ⟨rs, f1, f2, f3⟩ := xfill_ok (place := fun i => some (i * ie.size, ie.size)) ps (parts.toList.map fun (i, x) => (i, a.eval x)) _ _ c e1 e2 l1 l2 h
        refine ⟨rs, e, _, key rs f1, f2, f3, fun w' σ' av' hs => ?_⟩
        have hcl : rs.size = len * ie.size := by
          have := l1; simp [zrow] at this
          rw [f2]
          have aux : ∀ (ps : List (Nat × PV)) (cells r : List PV), xfill (fun i => some (i * ie.size, ie.size)) cells ps = some r → r.length = cells.length := by
            intro ps
            induction ps with
            | nil => intro cells r h; simp [xfill] at h; rw [h]
            | cons p q ih =>
              intro cells r h
              simp only [xfill] at h
              split at h
              · rename_i hc; rw [ih _ _ h, length_splice (by omega)]
              · simp at h
          rw [aux _ _ _ h]; simp [zrow]
        exact .rw (off := 0) hs (Nat.le_refl _) (by simp) (by simp [hcl])
      · simp at h
    · simp at h
  · simp at h

end
end Go.SH
