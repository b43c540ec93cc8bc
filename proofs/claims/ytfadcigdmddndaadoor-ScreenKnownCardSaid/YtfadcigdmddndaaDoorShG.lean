/- The operations that make and write memory, as steps of a symbolic state. -/
import Derived.Test.YtfadcigdmddndaaDoorShF
set_option linter.unusedVariables false
set_option linter.unusedSimpArgs false
namespace Go.SH

def PV.one : PV → Bool
  | .agg _ | .tup _ | .dead => false
  | _ => true

def pcells : PV → List PV
  | .agg xs => xs
  | x => [x]

theorem one_ok {w : World} {σ : Sig} {av : Nat → Prop} {x : PV} {v : Value} (h : VR w σ av x v) (hx : x.one = true) : v.oneCell' = true := by
  cases h <;> first | rfl | (simp [PV.one] at hx; done)

theorem pcells_ok {w : World} {σ : Sig} {av : Nat → Prop} {x : PV} {v : Value} (h : VR w σ av x v) (h1 : (pcells x).all PV.one = true) :
    v.cells.size = (pcells x).length ∧ (∀ u ∈ v.cells.toList, u.oneCell' = true) ∧ ∀ (i : Nat) (y : PV), (pcells x)[i]? = some y → ∃ u, v.cells[i]? = some u ∧ VR w σ av y u := by
  have scal : ∀ {x : PV} {v : Value}, VR w σ av x v → x.one = true → v.cells = #[v] := by
    intro x v h hx
    cases h <;> first | rfl | (simp [PV.one] at hx; done)
  by_cases hx : x.one = true
  · have hp : pcells x = [x] := by cases x <;> first | rfl | (simp [PV.one] at hx; done)
    rw [hp, scal h hx]
    refine ⟨rfl, by simpa using one_ok h hx, fun i y hy => ?_⟩
    cases i with
    | zero => simp at hy; subst hy; exact ⟨v, rfl, h⟩
    | succ i => simp at hy
  · cases x <;> simp [PV.one] at hx
    · simp [pcells, PV.one] at h1
    · cases h with
      | agg cs hl hv =>
        rename_i cells
        simp only [pcells] at h1 ⊢
        refine ⟨by simp [Value.cells, hl], ?_, fun i y hy => ?_⟩
        · intro u hu
          simp [Value.cells] at hu
          obtain ⟨i, hi, rfl⟩ := List.mem_iff_getElem.1 hu
          have hi' : i < cells.length := by omega
          exact one_ok (hv i cells[i] cs[i] (List.getElem?_eq_getElem hi') (List.getElem?_eq_getElem hi)) (List.all_eq_true.1 h1 _ (List.getElem_mem hi'))
        · have hi : i < cells.length := (List.getElem?_eq_some_iff.1 hy).1
          exact ⟨cs[i], by simp [Value.cells], hv i y _ hy (List.getElem?_eq_getElem (by omega))⟩
    · simp [pcells, PV.one] at h1

theorem storeCells_ok {P : Program} {β o : Nat} {T : TypeId} {fr : Nat × Nat} : ∀ (vs : List Value) (i : Nat) (w : World) (c : Array Value), w.heap[β]? = some (.cells c T fr) → o + i + vs.length ≤ c.size →
    (∀ j, o + i ≤ j → j < c.size → ¬ (fr.1 ≤ j ∧ j < fr.2)) → (∀ v ∈ vs, v.oneCell' = true) →
    ∃ w' c', (storeCells ⟨β, o, none⟩ vs i).run P w = .ok () w' ∧ w'.heap.size = w.heap.size ∧ (∀ k, k ≠ β → w'.heap[k]? = w.heap[k]?) ∧ w'.heap[β]? = some (.cells c' T fr) ∧ c'.size = c.size ∧
      (∀ j, c'[j]? = if o + i ≤ j ∧ j < o + i + vs.length then vs[j - (o + i)]? else c[j]?) ∧ w'.os = w.os ∧ w'.output = w.output ∧ w'.tape = w.tape
  | [], i, w, c, hb, _, _, _ => ⟨w, c, rfl, rfl, fun _ _ => rfl, hb, rfl, fun j => by rw [if_neg (by simp <;> omega)], rfl, rfl, rfl⟩
  | v :: r, i, w, c, hb, hl, hf, h1 => by
    have hadd : (⟨β, o, none⟩ : Addr).add i = ⟨β, o + i, none⟩ := by unfold Addr.add; split <;> simp_all
    simp only [List.length_cons] at hl
    have hi : o + i < c.size := by omega
    have hcell : w.cell? ⟨β, o + i, none⟩ = some c[o + i] := by simp [World.cell?, hb, hi]
    have hfro : w.frozen? ⟨β, o + i, none⟩ = false := by
      have := hf (o + i) (by omega) hi
      simp only [World.frozen?, hb]
      by_cases h1 : fr.1 ≤ o + i <;> by_cases h2 : o + i < fr.2 <;> simp_all
    have hst : (store ((⟨β, o, none⟩ : Addr).add i) v).run P w = .ok () (w.setCell ⟨β, o + i, none⟩ v) := by
      rw [hadd, run_store P w _ v _ (h1 v (by simp)), hcell]
      simp [hfro]
    have hb' : (w.setCell ⟨β, o + i, none⟩ v).heap[β]? = some (.cells (c.setIfInBounds (o + i) v) T fr) := by
      simp [World.setCell, Array.getElem?_modify, hb]
    obtain ⟨w', c', e1, e2, e3, e4, e5, e6, e7⟩ := storeCells_ok (P := P) (β := β) (o := o) (T := T) (fr := fr) r (i + 1) (w.setCell ⟨β, o + i, none⟩ v) (c.setIfInBounds (o + i) v) hb' (by simp; omega) (by intro j hj hj'; exact hf j (by omega) (by simpa using hj')) (fun x hx => h1 x (by simp [hx]))
    refine ⟨w', c', ?_, by rw [e2]; simp, fun k hk => ?_, e4, by rw [e5]; simp, fun j => ?_, e7⟩
    · simp only [storeCells, Sem.run_bind, hst, Result.andThen_ok]; exact e1
    · rw [e3 k hk]; simp [World.setCell, Array.getElem?_modify, Ne.symm hk]
    · rw [e6]
      by_cases hj : o + (i + 1) ≤ j ∧ j < o + (i + 1) + r.length
      · rw [if_pos hj, if_pos (by simp; omega)]
        have : j - (o + i) = (j - (o + (i + 1))) + 1 := by omega
        rw [this]; simp
      · rw [if_neg hj]
        by_cases hj2 : j = o + i
        · subst hj2
          rw [if_pos (by simp)]
          simp [hi]
        · rw [if_neg (by simp; omega)]
          simp [Array.getElem?_setIfInBounds, Ne.symm hj2]

/-- A row of cells with others in their place. -/
def splice (cells : List PV) (off : Nat) (xs : List PV) : List PV := cells.take off ++ xs ++ cells.drop (off + xs.length)

theorem getElem?_splice {cells xs : List PV} {off : Nat} (h : off + xs.length ≤ cells.length) (j : Nat) :
    (splice cells off xs)[j]? = if off ≤ j ∧ j < off + xs.length then xs[j - off]? else cells[j]? := by
  unfold splice
  have ht : (cells.take off).length = off := by simp; omega
  by_cases h1 : j < off
  · rw [if_neg (by omega), List.append_assoc, List.getElem?_append_left (by omega), List.getElem?_take, if_pos h1]
  · by_cases h2 : j < off + xs.length
    · rw [if_pos ⟨by omega, h2⟩, List.getElem?_append_left (by simp; omega), List.getElem?_append_right (by omega), ht]
    · rw [if_neg (by omega), List.getElem?_append_right (by simp; omega)]
      simp only [List.length_append, ht, List.getElem?_drop]
      congr 1; omega

theorem length_splice {cells xs : List PV} {off : Nat} (h : off + xs.length ≤ cells.length) : (splice cells off xs).length = cells.length := by
  simp [splice]; omega

section
variable {E : Env} {d : Option Tmp} {ty : TypeId} {pos : String} {after : Array Edge} {g : Option (Nat × Bool)} {ra : Al} {rl : Lb}

theorem AOp_store {T : TypeId} {p v : Operand} {l off : Nat} {cells : List PV} {x : PV} {i : TypeInfo} (hp : xev E.G ra p = some (.ptr l off)) (hv : xev E.G ra v = some x) (hl : lget rl l = some (some cells))
    (hi : E.P.info? T = some i) (hsz : (pcells x).length = i.size) (h1 : (pcells x).all PV.one = true) (hfit : off + i.size ≤ cells.length) (hne : 0 < i.size) :
    AOp E ⟨none, .store T p v, ty, pos, after, g⟩ ra rl .dead [(l, some (splice cells off (pcells x)))] := by
  intro A w σ al L a r e1 e2 _
  have hpv := xev_ok r e1 hp
  have hxv := xev_ok r e1 hv
  have hL := e2 _ _ hl
  have hcne : cells ≠ [] := by rintro rfl; simp at hfit; omega
  rcases r.blocks.all l cells hL with ⟨_, h0⟩ | ⟨β, add, size, c, TT, fr, hB⟩
  · exact absurd h0 hcne
  · generalize hpe : a.eval p = pv at hpv
    cases hpv with
    | ptr hs =>
      rw [hB.sig] at hs; simp at hs; obtain ⟨rfl, rfl, rfl⟩ := hs
      obtain ⟨q1, q2, q3⟩ := pcells_ok hxv h1
      have hsize : (sizeOf T).run E.P w = .ok i.size w := run_sizeOf' hi w
      have hfits := hB.fits
      have hcs := hB.hsz
      obtain ⟨w', c', s1, s2, s3, s4, s5, s6, s7⟩ := storeCells_ok (P := E.P) (o := add + off) (a.eval v).cells.toList 0 w c hB.heap (by simp [q1]; omega) (by intro j hj hj'; exact hB.free j (by omega) (by omega)) q2
      have hrun : (execOp a.eval ⟨none, .store T p v, ty, pos, after, g⟩).run E.P w = .ok .skip w' := by
        simp only [execOp, Instr.storeAt, hpe, Instr.sureAddr, storeVar]
        simp [hsize, q1, hsz, s1]
      unfold Oper.wp
      rw [hrun]
      have hlen : ((a.eval v).cells.toList).length = (pcells x).length := by simpa using q1
      obtain ⟨b1, b2⟩ := r.blocks.write hL (cells' := splice cells off (pcells x)) hB s2 s3 s4 (by omega) (by rw [length_splice (by omega)]; exact hfits) (by
        intro j y hy
        rw [getElem?_splice (by omega)] at hy
        rw [s6]
        by_cases hj : off ≤ j ∧ j < off + (pcells x).length
        · rw [if_pos hj] at hy
          rw [if_pos (by omega)]
          obtain ⟨u, hu, huv⟩ := q3 _ y hy
          refine ⟨u, ?_, huv⟩
          have : add + j - (add + off + 0) = j - off := by omega
          rw [this]; simpa using hu
        · rw [if_neg hj] at hy
          rw [if_neg (by omega)]
          exact hB.vals j y hy)
      exact ⟨σ, undef, rfl, .dead, b1, b2⟩

/-- A new block under the label 'lab'. -/
theorem AOp_new {o : Oper} {lab : Nat} {cells : List PV} {x : PV}
    (h : ∀ A w σ al L a, Rel E A w σ al L a → (∀ t y, lget ra t = some y → lget al t = some y) → (∀ l y, lget rl l = some y → lget L l = some y) →
      ∃ (cs : Array Value) (T : TypeId) (v : Value), (execOp a.eval o).run E.P w = .ok (.value v) (w.alloc (.cells cs T)) ∧ cs.size = cells.length ∧
        (∀ (i : Nat) (y : PV), cells[i]? = some y → ∃ u, cs[i]? = some u ∧ VR w σ (avo A σ L) y u) ∧
        ∀ (w' : World) (σ' : Sig) (av' : Nat → Prop), σ' lab = some (w.heap.size, 0, cs.size) → VR w' σ' av' x v) (hrl : lget rl lab = none) :
    AOp E o ra rl x [(lab, some cells)] := by
  intro A w σ al L a r e1 e2 e3
  obtain ⟨cs, T, v, h1, h2, h3, h4⟩ := h A w σ al L a r e1 e2
  have hf : lget L lab = none := by
    rcases e3 (lab, some cells) (by simp) with h | h
    · exact absurd hrl h
    · exact h
  obtain ⟨b1, b2⟩ := r.blocks.alloc hf cells cs T (w' := w.alloc (.cells cs T)) (fr := (0, 0)) (by simp) (fun β hb => heap_old w _ β hb) (heap_alloc_new w _) (.inl rfl) (by omega) h3
  unfold Oper.wp
  rw [h1]
  exact ⟨_, v, rfl, h4 _ _ _ (supd_same _ _ _), b1, b2⟩

theorem AOp_box {T : TypeId} {x : Operand} {v : PV} (lab : Nat) (hx : xev E.G ra x = some v) (h1 : (pcells v).all PV.one = true) (hrl : lget rl lab = none) :
    AOp E ⟨d, .box T x, ty, pos, after, g⟩ ra rl (.ptr lab 0) [(lab, some (pcells v))] := by
  refine AOp_new (fun A w σ al L a r e1 e2 => ?_) hrl
  obtain ⟨q1, q2, q3⟩ := pcells_ok (xev_ok r e1 hx) h1
  exact ⟨(a.eval x).cells, T, .pointer (some ⟨w.heap.size, 0, none⟩), by simp [execOp, Instr.box, newVar, newRow], q1, q3, fun w' σ' av' hs => .ptr (off := 0) hs⟩

def zcells (P : Program) (T : TypeId) : Option (List PV) :=
  match P.info? T with
  | some i => match i.zero with
    | some z => cpvs z.cells.toList
    | none => none
  | none => none

theorem zcells_ok {P : Program} {T : TypeId} {cells : List PV} (h : zcells P T = some cells) : ∃ z, (∀ w, (zeroValue T).run P w = .ok z w) ∧ cpvs z.cells.toList = some cells := by
  unfold zcells at h
  split at h
  · rename_i i hi
    split at h
    · rename_i z hz
      exact ⟨z, fun w => by simp [zeroValue, typeInfo, hi, hz], h⟩
    · simp at h
  · simp at h

theorem AOp_alloc {T : TypeId} {cells : List PV} (lab : Nat) (hz : zcells E.P T = some cells) (hrl : lget rl lab = none) :
    AOp E ⟨d, .alloc T, ty, pos, after, g⟩ ra rl (.ptr lab 0) [(lab, some cells)] := by
  refine AOp_new (fun A w σ al L a r e1 e2 => ?_) hrl
  obtain ⟨z, h1, h2⟩ := zcells_ok hz
  obtain ⟨h3, h4⟩ := cpvs_ok (w := w) (σ := σ) (av := avo A σ L) h2
  refine ⟨z.cells, T, .pointer (some ⟨w.heap.size, 0, none⟩), by simp [execOp, Instr.alloc, newVar, newRow, h1], by simpa using h3.symm, fun i y hy => ?_, fun w' σ' av' hs => .ptr (off := 0) hs⟩
  have hi : i < z.cells.size := by
    have := (List.getElem?_eq_some_iff.1 hy).1; simp at h3; omega
  exact ⟨z.cells[i], by simp [hi], h4 i y _ hy (by simp [hi])⟩

end
end Go.SH
