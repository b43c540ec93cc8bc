/- The operations that a symbolic state can run by itself. -/
import Derived.Test.YtfadcigdmddndaaDoorShB
set_option linter.unusedVariables false
set_option linter.unusedSimpArgs false
namespace Go.SH

/-! ### Operands -/
def cpv0 : Value → Option PV
  | .bool b => some (.bool b)
  | .int k n => some (.int k n)
  | .string s => some (.str s.data.toList)
  | .pointer none => some .nilp
  | .slice none 0 0 => some .nils
  | .nilFunc => some .nilf
  | .nilIface => some .nili
  | _ => none

def cpvs : List Value → Option (List PV)
  | [] => some []
  | v :: r => match cpv0 v, cpvs r with
    | some x, some xs => some (x :: xs)
    | _, _ => none

def cpv : Value → Option PV
  | .agg cs => (cpvs cs.toList).map .agg
  | .tuple cs => (cpvs cs.toList).map .tup
  | v => cpv0 v

def xev (G : List (Nat × List PV)) (al : Al) : Operand → Option PV
  | .tmp t => lget al t
  | .const v => cpv v
  | .global g => (lget G g).map (.rop · 0)
  | .func f => some (.fn f [])

section
variable {w : World} {σ : Sig} {av : Nat → Prop}

theorem cpv0_ok {v : Value} {x : PV} (h : cpv0 v = some x) : VR w σ av x v := by
  unfold cpv0 at h
  split at h <;> simp at h <;> subst h
  · exact .bool _
  · exact .int _ _
  · rename_i s; exact VR.str s.data.toList
  · exact .nilp
  · exact .nils
  · exact .nilf
  · exact .nili

theorem cpvs_ok : ∀ {vs : List Value} {xs : List PV}, cpvs vs = some xs → xs.length = vs.length ∧ ∀ (i : Nat) (x : PV) (v : Value), xs[i]? = some x → vs[i]? = some v → VR w σ av x v
  | [], xs, h => by simp [cpvs] at h; subst h; simp
  | v :: r, xs, h => by
    simp only [cpvs] at h
    split at h
    · rename_i x ys h1 h2
      simp at h; subst h
      obtain ⟨hl, hv⟩ := cpvs_ok h2
      refine ⟨by simp [hl], fun i y u hy hu => ?_⟩
      cases i with
      | zero => simp at hy hu; subst hy; subst hu; exact cpv0_ok h1
      | succ i => exact hv i y u (by simpa using hy) (by simpa using hu)
    · simp at h

theorem cpv_ok {v : Value} {x : PV} (h : cpv v = some x) : VR w σ av x v := by
  unfold cpv at h
  split at h
  · rename_i cs
    simp only [Option.map_eq_some_iff] at h
    obtain ⟨xs, h, rfl⟩ := h
    obtain ⟨hl, hv⟩ := cpvs_ok (w := w) (σ := σ) (av := av) h
    exact VR.agg cs.toList hl hv
  · rename_i cs
    simp only [Option.map_eq_some_iff] at h
    obtain ⟨xs, h, rfl⟩ := h
    obtain ⟨hl, hv⟩ := cpvs_ok (w := w) (σ := σ) (av := av) h
    exact VR.tup cs.toList hl hv
  · exact cpv0_ok h
end

theorem xev_ok {E : Env} {A : Nat → Prop} {w : World} {σ : Sig} {al : Al} {L : Lb} {a : Act} (r : Rel E A w σ al L a) {ra : Al} (h1 : ∀ t y, lget ra t = some y → lget al t = some y)
    {o : Operand} {x : PV} (h : xev E.G ra o = some x) : VR w σ (avo A σ L) x (a.eval o) := by
  cases o with
  | tmp t =>
    obtain ⟨v, hv, hr⟩ := r.tmps t x (h1 t x h)
    rw [eval_tmp hv]; exact hr
  | const v => exact cpv_ok h
  | global g =>
    simp only [xev, Option.map_eq_some_iff] at h
    obtain ⟨cells, hg, rfl⟩ := h
    exact r.globals g cells hg
  | func f =>
    simp only [xev, Option.some.injEq] at h
    subst h
    exact .fn f [] rfl (by simp)

/-! ### Operations that give a value and touch nothing -/
theorem lupd_nil (L : Lb) : lupd L [] = L := rfl

theorem AOp_val {E : Env} {o : Oper} {ra : Al} {rl : Lb} {x : PV}
    (h : ∀ A w σ al L a, Rel E A w σ al L a → (∀ t y, lget ra t = some y → lget al t = some y) → (∀ l y, lget rl l = some y → lget L l = some y) →
      ∃ c, (execOp a.eval o).run E.P w = .ok (.value c) w ∧ VR w σ (avo A σ L) x c) : AOp E o ra rl x [] := by
  intro A w σ al L a r h1 h2 _
  obtain ⟨c, hr, hv⟩ := h A w σ al L a r h1 h2
  unfold Oper.wp
  rw [hr]
  exact ⟨σ, c, rfl, hv, r.blocks, Grow.refl _ _ _ _⟩

/-! ### Reading cells -/
def lcells (L : Lb) : PV → Option (List PV × Nat)
  | .ptr l off => match lget L l with | some (some cells) => some (cells, off) | _ => none
  | .rop cells off => some (cells, off)
  | _ => none

theorem cell_of_heap {w : World} {β j : Nat} {c : Array Value} {T : TypeId} {fr : Nat × Nat} (h : w.heap[β]? = some (.cells c T fr)) : w.cell? ⟨β, j, none⟩ = c[j]? := by simp [World.cell?, h]

theorem lcells_ok {w : World} {σ : Sig} {A : Nat → Prop} {L : Lb} (hb : BR w σ A L) {p : PV} {v : Value} (hv : VR w σ (avo A σ L) p v) {cells : List PV} {off : Nat} (h : lcells L p = some (cells, off))
    (hne : cells ≠ []) : ∃ β o, v = .pointer (some ⟨β, o + off, none⟩) ∧ ∀ i x, cells[i]? = some x → ∃ u, w.cell? ⟨β, o + i, none⟩ = some u ∧ VR w σ (avo A σ L) x u := by
  cases hv with
  | ptr hs =>
    rename_i l off' β add size
    simp only [lcells] at h
    split at h
    · rename_i cs hl
      simp at h; obtain ⟨rfl, rfl⟩ := h
      rcases hb.all l cs hl with ⟨_, h2⟩ | ⟨β', add', size', c, T, fr, hB⟩
      · exact absurd h2 hne
      · have := hB.sig; rw [hs] at this; simp at this
        obtain ⟨rfl, rfl, rfl⟩ := this
        refine ⟨β, add, rfl, fun i x hx => ?_⟩
        obtain ⟨u, h1, h2⟩ := hB.vals i x hx
        exact ⟨u, by rw [cell_of_heap hB.heap]; exact h1, h2⟩
    · simp at h
  | rop cs him hl hv =>
    rename_i cells' off' β add
    simp only [lcells, Option.some.injEq, Prod.mk.injEq] at h
    obtain ⟨rfl, rfl⟩ := h
    refine ⟨β, add, rfl, fun i x hx => ?_⟩
    have hi : i < cs.length := by rw [← hl]; exact (List.getElem?_eq_some_iff.1 hx).1
    exact ⟨cs[i], him.cell i _ (List.getElem?_eq_getElem hi), hv i x _ hx (List.getElem?_eq_getElem hi)⟩
  | _ => simp [lcells] at h

def rowOf (P : Program) (T : TypeId) : Option Bool := match P.underlying T with
  | some (.struct _) | some (.array _ _) => some true
  | some _ => some false
  | none => none

def xload (P : Program) (T : TypeId) (L : Lb) (p : PV) : Option PV :=
  match lcells L p, P.info? T, rowOf P T with
  | some (cells, off), some i, some true => if off + i.size ≤ cells.length ∧ 0 < i.size then some (.agg ((cells.drop off).take i.size)) else none
  | some (cells, off), some _, some false => cells[off]?
  | _, _, _ => none

theorem run_isAgg {P : Program} {T : TypeId} {b : Bool} (h : rowOf P T = some b) (w : World) : (isAgg T).run P w = .ok b w := by
  unfold rowOf at h
  unfold isAgg
  split at h <;> simp at h <;> (rename_i hu; subst h; simp [Sem.run_bind, run_underlying hu w])

theorem run_sizeOf' {P : Program} {T : TypeId} {i : TypeInfo} (h : P.info? T = some i) (w : World) : (sizeOf T).run P w = .ok i.size w := by
  simp [sizeOf, typeInfo, h]

theorem loadVar_ok {P : Program} {w : World} {σ : Sig} {av : Nat → Prop} {T : TypeId} {β o off : Nat} {cells : List PV} (hc : ∀ i x, cells[i]? = some x → ∃ u, w.cell? ⟨β, o + i, none⟩ = some u ∧ VR w σ av x u)
    {i : TypeInfo} (hi : P.info? T = some i) {b : Bool} (hr : rowOf P T = some b) {x : PV}
    (hx : (b = true ∧ off + i.size ≤ cells.length ∧ x = .agg ((cells.drop off).take i.size)) ∨ (b = false ∧ cells[off]? = some x)) :
    ∃ v, (loadVar T ⟨β, o + off, none⟩).run P w = .ok v w ∧ VR w σ av x v := by
  rcases hx with ⟨rfl, hle, rfl⟩ | ⟨rfl, hx⟩
  · let f : Nat → Value := fun j => ((w.cell? ⟨β, o + (off + j), none⟩).getD undef)
    have hl : ∀ j, j < i.size → w.cell? ((⟨β, o + off, none⟩ : Addr).add j) = some (f j) := by
      intro j hj
      have hj' : off + j < cells.length := by omega
      obtain ⟨u, hu, _⟩ := hc (off + j) _ (List.getElem?_eq_getElem hj')
      have : (⟨β, o + off, none⟩ : Addr).add j = ⟨β, o + (off + j), none⟩ := by unfold Addr.add; split <;> simp_all [Nat.add_assoc]
      rw [this, hu]; simp [f, hu]
    refine ⟨.agg ((List.range i.size).map f).toArray, ?_, ?_⟩
    · simp [loadVar, run_isAgg hr, run_sizeOf' hi, run_loadCells w _ i.size f hl]
    · refine VR.agg _ (by simp; omega) ?_
      intro j y v hy hv
      have hj : j < i.size := by
        have := (List.getElem?_eq_some_iff.1 hv).1; simpa using this
      have hy' : cells[off + j]? = some y := by
        rw [List.getElem?_take, if_pos hj, List.getElem?_drop] at hy; exact hy
      obtain ⟨u, hu, hvr⟩ := hc (off + j) y hy'
      have : v = u := by
        simp [List.getElem?_map, List.getElem?_range hj, f, hu] at hv; exact hv.symm
      rw [this]; exact hvr
  · obtain ⟨u, hu, hv⟩ := hc off x hx
    exact ⟨u, by simp [loadVar, run_isAgg hr, run_load, hu], hv⟩

theorem AOp_load {E : Env} {T : TypeId} {p : Operand} {d : Option Tmp} {ty : TypeId} {pos : String} {after : Array Edge} {g : Option (Nat × Bool)} {ra : Al} {rl : Lb} {q x : PV}
    (hp : xev E.G ra p = some q) (hx : xload E.P T rl q = some x) : AOp E ⟨d, .load T p, ty, pos, after, g⟩ ra rl x [] := by
  refine AOp_val fun A w σ al L a r h1 h2 => ?_
  have hv := xev_ok r h1 hp
  unfold xload at hx
  split at hx
  · rename_i cells off i hlc hi hr
    split at hx
    · rename_i hh
      simp at hx
      have hlc' : lcells L q = some (cells, off) := by
        cases q <;> simp only [lcells] at hlc ⊢ <;> first | exact hlc | skip
        split at hlc
        · rename_i cs hl; rw [h2 _ _ hl]; exact hlc
        · simp at hlc
      obtain ⟨β, o, he, hc⟩ := lcells_ok r.blocks hv hlc' (by intro h0; simp [h0] at hh; omega)
      obtain ⟨v, h3, h4⟩ := loadVar_ok (P := E.P) (off := off) hc hi hr (.inl ⟨rfl, hh.1, hx.symm⟩)
      exact ⟨v, by simp [execOp, Instr.loadAt, he, Instr.sureAddr, h3], h4⟩
    · simp at hx
  · rename_i cells off i hlc hi hr
    have hlc' : lcells L q = some (cells, off) := by
      cases q <;> simp only [lcells] at hlc ⊢ <;> first | exact hlc | skip
      split at hlc
      · rename_i cs hl; rw [h2 _ _ hl]; exact hlc
      · simp at hlc
    obtain ⟨β, o, he, hc⟩ := lcells_ok r.blocks hv hlc' (by intro h0; simp [h0] at hx)
    obtain ⟨v, h3, h4⟩ := loadVar_ok (P := E.P) (off := off) hc hi hr (.inr ⟨rfl, hx⟩)
    exact ⟨v, by simp [execOp, Instr.loadAt, he, Instr.sureAddr, h3], h4⟩
  · simp at hx

end Go.SH
