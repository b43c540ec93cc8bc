/- Slices: elements, pieces, append, copy, make. -/
import Derived.Test.YtfadcigdmddndaaDoorShI
import Derived.Deep.AppendSrc
set_option linter.unusedVariables false
set_option linter.unusedSimpArgs false
namespace Go.SH

/-- What a slice holds: n elements of sz cells each. -/
def SlC (L : Lb) (sz : Nat) (p : PV) (cells : List PV) (n : Nat) : Prop :=
  cells.length = n * sz ∧ match p with
    | .nils => n = 0
    | .ro cs m _ => m = n ∧ cs = cells
    | .rw l off m s _ => m = n ∧ s = sz ∧ ∃ cs, lget L l = some (some cs) ∧ (cs.drop off).take (n * sz) = cells
    | _ => False

theorem slc_ok {w : World} {σ : Sig} {A : Nat → Prop} {L : Lb} (hb : BR w σ A L) {p : PV} {v : Value} (hv : VR w σ (avo A σ L) p v) {sz n : Nat} {cells : List PV} (h : SlC L sz p cells n) :
    ∃ a cap, v = .slice a n cap ∧ n ≤ cap ∧ (cells = [] ∨ ∃ β o, a = some ⟨β, o, none⟩ ∧ ∀ i x, cells[i]? = some x → ∃ u, w.cell? ⟨β, o + i, none⟩ = some u ∧ VR w σ (avo A σ L) x u) := by
  obtain ⟨hl, h⟩ := h
  cases hv with
  | nils => simp at h; subst h; exact ⟨none, 0, rfl, Nat.le_refl _, .inl (by simpa using hl)⟩
  | roE a cap hc =>
    simp at h; obtain ⟨rfl, rfl⟩ := h
    exact ⟨a, cap, rfl, Nat.zero_le _, .inl rfl⟩
  | ro cs him hl' hvv hn hc =>
    simp at h; obtain ⟨rfl, rfl⟩ := h
    refine ⟨_, _, rfl, hn, .inr ⟨_, _, rfl, fun i x hx => ?_⟩⟩
    have hi : i < cs.length := by rw [← hl']; exact (List.getElem?_eq_some_iff.1 hx).1
    exact ⟨cs[i], him.cell i _ (List.getElem?_eq_getElem hi), hvv i x _ hx (List.getElem?_eq_getElem hi)⟩
  | rwE a hc =>
    simp at h
    obtain ⟨rfl, rfl, cs, h1, h2⟩ := h
    exact ⟨a, 0, rfl, Nat.le_refl _, .inl (by simpa using hl)⟩
  | rw hs hn hc hsz =>
    rename_i l off n' sz' co β add size cap
    simp at h
    obtain ⟨rfl, rfl, cs, h1, h2⟩ := h
    refine ⟨_, _, rfl, hn, ?_⟩
    rcases hb.all l cs h1 with ⟨h3, h4⟩ | ⟨β', add', size', c, T, fr, hB⟩
    · rw [hs] at h3; simp at h3
    · have := hB.sig; rw [hs] at this; simp at this
      obtain ⟨rfl, rfl, rfl⟩ := this
      refine .inr ⟨_, _, rfl, fun i x hx => ?_⟩
      have hx' : cs[off + i]? = some x := by
        rw [← h2, List.getElem?_take] at hx
        split at hx
        · rw [List.getElem?_drop] at hx; exact hx
        · simp at hx
      obtain ⟨u, h5, h6⟩ := hB.vals _ x hx'
      exact ⟨u, by rw [cell_of_heap hB.heap]; rw [← h5]; congr 1; omega, h6⟩
  | _ => simp at h

theorem first_ok {P : Program} {w : World} {σ : Sig} {A : Nat → Prop} {L : Lb} (hb : BR w σ A L) {p : PV} {v : Value} (hv : VR w σ (avo A σ L) p v) {sz n : Nat} {cells : List PV} (h : SlC L sz p cells n) :
    ∃ us : List Value, us.length = n * sz ∧ (∀ (i : Nat) (x : PV), cells[i]? = some x → ∃ u, us[i]? = some u ∧ VR w σ (avo A σ L) x u) ∧
      ∀ w2 : World, w2.heap = w.heap → (Builtin.firstCells sz n v).run P w2 = .ok us.toArray w2 := by
  obtain ⟨a, cap, rfl, hn, hc⟩ := slc_ok hb hv h
  obtain ⟨hl, _⟩ := h
  rcases hc with rfl | ⟨β, o, rfl, hc⟩
  · refine ⟨[], by simpa using hl, by simp, fun w2 _ => ?_⟩
    cases a with
    | none => simp [Builtin.firstCells]
    | some a => simp at hl; simp [Builtin.firstCells, ← hl, loadCells, loadCellsFrom]
  · let f : Nat → Value := fun j => ((w.cell? ⟨β, o + j, none⟩).getD undef)
    refine ⟨(List.range (n * sz)).map f, by simp, fun i x hx => ?_, fun w2 hw => ?_⟩
    · have hi : i < n * sz := by rw [← hl]; exact (List.getElem?_eq_some_iff.1 hx).1
      obtain ⟨u, h1, h2⟩ := hc i x hx
      exact ⟨u, by simp [List.getElem?_range hi, f, h1], h2⟩
    · refine run_firstCells_some w2 sz n ⟨β, o, none⟩ n cap _ (by simp) fun j u hu => ?_
      have hj : j < n * sz := by have := (List.getElem?_eq_some_iff.1 hu).1; simpa using this
      simp [List.getElem?_range hj] at hu
      obtain ⟨u', h1, h2⟩ := hc j _ (List.getElem?_eq_getElem (by omega))
      rw [addr_add]
      have : w2.cell? ⟨β, o + j, none⟩ = w.cell? ⟨β, o + j, none⟩ := by simp [World.cell?, hw]
      rw [this, h1]
      simp [f, h1] at hu
      rw [hu]

/-! elements -/
section
variable {E : Env} {d : Option Tmp} {ty : TypeId} {pos : String} {after : Array Edge} {g : Option (Nat × Bool)} {ra : Al} {rl : Lb}

def xindexAddr (sz : Nat) (i : Int) : PV → Option PV
  | .ro cells _ _ => some (.rop cells (i.toNat * sz))
  | .rw l off _ _ _ => some (.ptr l (off + i.toNat * sz))
  | _ => none

/-- The address of an element of a slice. -/
theorem AOp_indexAddr {T e : TypeId} {ie : TypeInfo} {x ix : Operand} {p q : PV} {k : IntKind} {i : Int} {n : Nat} (hx : xev E.G ra x = some p) (hi : xev E.G ra ix = some (.int k i)) (hT : E.P.underlying T = some (.slice e))
    (he : E.P.info? e = some ie) (hn : xlen p = some n) (h0 : 0 ≤ i) (hlt : i < n) (hq : xindexAddr ie.size i p = some q) :
    AOp E ⟨d, .indexAddr T x ix, ty, pos, after, g⟩ ra rl q [] := by
  refine AOp_val fun A w σ al L a r h1 h2 => ?_
  have hv := xev_ok r h1 hx
  have hw := xev_ok r h1 hi
  generalize hei : a.eval ix = vi at hw
  cases hw
  generalize hex : a.eval x = vx at hv
  unfold xindexAddr at hq
  split at hq <;> simp at hq <;> subst hq
  · cases hv with
    | roE a' cap hc => simp [xlen] at hn; omega
    | ro cs him hl hvv hle hc =>
      rename_i cells n' co β add cap
      simp [xlen] at hn; subst hn
      refine ⟨.pointer (some ⟨β, add + i.toNat * ie.size, none⟩), ?_, .rop cs him hl hvv⟩
      simp [execOp, Instr.indexAt, hei, asIntOf, run_underlying hT, hex, h0, hlt, run_sizeOf' he, addr_add]
  · cases hv with
    | rwE a' hc => simp [xlen] at hn; omega
    | rw hs hle hc hsz =>
      rename_i l off n' sz' co β add size cap
      simp [xlen] at hn; subst hn
      refine ⟨.pointer (some ⟨β, add + (off + i.toNat * ie.size), none⟩), ?_, .ptr hs⟩
      simp [execOp, Instr.indexAt, hei, asIntOf, run_underlying hT, hex, h0, hlt, run_sizeOf' he, addr_add, Nat.add_assoc]

/-- The address of an element of an array in memory. -/
theorem AOp_indexAddrA {T e : TypeId} {ie : TypeInfo} {x ix : Operand} {p q : PV} {k : IntKind} {i : Int} {n : Nat} (hx : xev E.G ra x = some p) (hi : xev E.G ra ix = some (.int k i)) (hT : E.P.underlying T = some (.array n e))
    (he : E.P.info? e = some ie) (h0 : 0 ≤ i) (hlt : i < n) (hq : xfieldAddr (i.toNat * ie.size) p = some q) :
    AOp E ⟨d, .indexAddr T x ix, ty, pos, after, g⟩ ra rl q [] := by
  refine AOp_val fun A w σ al L a r h1 h2 => ?_
  have hv := xev_ok r h1 hx
  have hw := xev_ok r h1 hi
  generalize hei : a.eval ix = vi at hw
  cases hw
  generalize hex : a.eval x = vx at hv
  unfold xfieldAddr at hq
  split at hq <;> simp at hq <;> subst hq
  · cases hv with
    | ptr hs =>
      rename_i l off β add size
      refine ⟨.pointer (some ⟨β, add + (off + i.toNat * ie.size), none⟩), ?_, .ptr hs⟩
      simp [execOp, Instr.indexAt, hei, asIntOf, run_underlying hT, hex, Instr.sureAddr, h0, hlt, run_sizeOf' he, addr_add, Nat.add_assoc]
  · cases hv with
    | rop cs him hl hvv =>
      rename_i cells off β add
      refine ⟨.pointer (some ⟨β, add + (off + i.toNat * ie.size), none⟩), ?_, .rop cs him hl hvv⟩
      simp [execOp, Instr.indexAt, hei, asIntOf, run_underlying hT, hex, Instr.sureAddr, h0, hlt, run_sizeOf' he, addr_add, Nat.add_assoc]

/-- An element of a text. -/
theorem AOp_indexStr {T : TypeId} {x ix : Operand} {s : List UInt8} {k : IntKind} {i : Int} {c : UInt8} (hx : xev E.G ra x = some (.str s)) (hi : xev E.G ra ix = some (.int k i)) (hT : E.P.underlying T = some .string)
    (h0 : 0 ≤ i) (hc : s[i.toNat]? = some c) : AOp E ⟨d, .index T x ix, ty, pos, after, g⟩ ra rl (.int .u8 c.toNat) [] := by
  refine AOp_val fun A w σ al L a r h1 h2 => ⟨.int .u8 c.toNat, ?_, .int _ _⟩
  have hv := xev_ok r h1 hx
  have hw := xev_ok r h1 hi
  generalize hei : a.eval ix = vi at hw
  cases hw
  generalize hex : a.eval x = vx at hv
  cases hv
  have hlt : i.toNat < s.length := (List.getElem?_eq_some_iff.1 hc).1
  have hs : (⟨⟨s⟩⟩ : ByteArray)[i.toNat]? = some c := by
    have hlt' : i.toNat < (⟨⟨s⟩⟩ : ByteArray).size := hlt
    rw [getElem?_pos (⟨⟨s⟩⟩ : ByteArray) i.toNat hlt']
    rw [List.getElem?_eq_getElem hlt] at hc
    simp at hc; rw [← hc]; rfl
  simp [execOp, Instr.index, hei, asIntOf, run_underlying hT, hex, h0, hs]

/-- An element of an array that is at hand. -/
theorem AOp_indexArr {T e : TypeId} {ie : TypeInfo} {x ix : Operand} {cells : List PV} {k : IntKind} {i : Int} {n : Nat} {q : PV} (hx : xev E.G ra x = some (.agg cells)) (hi : xev E.G ra ix = some (.int k i))
    (hT : E.P.underlying T = some (.array n e)) (he : E.P.info? e = some ie) (h0 : 0 ≤ i) (hlt : i < n) (hq : xpart E.P e cells (i.toNat * ie.size) = some q) :
    AOp E ⟨d, .index T x ix, ty, pos, after, g⟩ ra rl q [] := by
  refine AOp_val fun A w σ al L a r h1 h2 => ?_
  have hv := xev_ok r h1 hx
  have hw := xev_ok r h1 hi
  generalize hei : a.eval ix = vi at hw
  cases hw
  generalize hex : a.eval x = vx at hv
  cases hv with
  | agg cs hl hvv =>
  obtain ⟨u, h3, h4⟩ := xpart_ok hq hl hvv
  exact ⟨u, by simp [execOp, Instr.index, hei, asIntOf, run_underlying hT, hex, h0, hlt, run_sizeOf' he, h3], h4⟩

/-! pieces -/
theorem extract_list (s : List UInt8) (l h : Nat) : (⟨⟨s⟩⟩ : ByteArray).extract l h = ⟨⟨(s.drop l).take (h - l)⟩⟩ := by
  apply ByteArray.ext
  simp [ByteArray.data_extract]

/-- A bound that is there, or the one that stands for none. -/
def bnd (G : List (Nat × List PV)) (ra : Al) (o : Option Operand) (dflt : Nat) (n : Nat) : Prop :=
  match o with
  | none => n = dflt
  | some x => ∃ k : IntKind, xev G ra x = some (.int k n)

theorem bnd_ok {A : Nat → Prop} {w : World} {σ : Sig} {al : Al} {L : Lb} {a : Act} (r : Rel E A w σ al L a) (h1 : ∀ t y, lget ra t = some y → lget al t = some y) {o : Option Operand} {dflt n : Nat} (h : bnd E.G ra o dflt n) :
    (o = none ∧ n = dflt) ∨ ∃ x k, o = some x ∧ a.eval x = .int k n := by
  cases o with
  | none => exact .inl ⟨rfl, h⟩
  | some x =>
    obtain ⟨k, hk⟩ := h
    have hv := xev_ok r h1 hk
    generalize he : a.eval x = v at hv
    cases hv
    exact .inr ⟨x, k, rfl, he⟩

theorem AOp_sliceStr {T : TypeId} {x : Operand} {lo hi : Option Operand} {s : List UInt8} {l h : Nat} (hx : xev E.G ra x = some (.str s)) (hT : E.P.underlying T = some .string)
    (hl : bnd E.G ra lo 0 l) (hh : bnd E.G ra hi s.length h) (hle : l ≤ h) (hle' : h ≤ s.length) :
    AOp E ⟨d, .slice T x lo hi none, ty, pos, after, g⟩ ra rl (.str ((s.drop l).take (h - l))) [] := by
  refine AOp_val fun A w σ al L a r h1 h2 => ⟨.string ⟨⟨(s.drop l).take (h - l)⟩⟩, ?_, .str _⟩
  have hv := xev_ok r h1 hx
  generalize hex : a.eval x = vx at hv
  cases hv
  have hsz : (⟨⟨s⟩⟩ : ByteArray).size = s.length := rfl
  rcases bnd_ok r h1 hl with ⟨rfl, rfl⟩ | ⟨xl, kl, rfl, el⟩ <;> rcases bnd_ok r h1 hh with ⟨rfl, rfl⟩ | ⟨xh, kh, rfl, eh⟩
  all_goals simp [execOp, Instr.sliceAt, Instr.slice, run_underlying hT, hex, Instr.sliceBounds, Instr.sliceBound, asIntOf, hsz, *, extract_list]

/-- A piece of a slice. -/
def xslice (sz l h : Nat) : PV → Option PV
  | .ro cells n _ => some (.ro ((cells.drop (l * sz)).take ((h - l) * sz)) (h - l) none)
  | .rw b off n s _ => if s = sz then some (.rw b (off + l * sz) (h - l) sz none) else none
  | .nils => some (.ro [] 0 none)
  | _ => none

theorem AOp_slice {T e : TypeId} {ie : TypeInfo} {x : Operand} {lo hi : Option Operand} {p q : PV} {n l h : Nat} (hx : xev E.G ra x = some p) (hT : E.P.underlying T = some (.slice e)) (he : E.P.info? e = some ie)
    (hn : xlen p = some n) (hl : bnd E.G ra lo 0 l) (hh : bnd E.G ra hi n h) (hle : l ≤ h) (hle' : h ≤ n) (hq : xslice ie.size l h p = some q) (hpos : 0 < ie.size)
    (hlen : ∀ cells m co, p = .ro cells m co → cells.length = m * ie.size) :
    AOp E ⟨d, .slice T x lo hi none, ty, pos, after, g⟩ ra rl q [] := by
  refine AOp_val fun A w σ al L a r h1 h2 => ?_
  have hv := xev_ok r h1 hx
  have key : ∀ (ad : Option Addr) (cap : Nat), a.eval x = .slice ad n cap → n ≤ cap →
      (execOp a.eval ⟨d, .slice T x lo hi none, ty, pos, after, g⟩).run E.P w = .ok (.value (.slice (if cap = l then ad else ad.map (·.add (l * ie.size))) (h - l) (cap - l))) w := by
    intro ad cap hex hcap
    have c1 : h ≤ cap := by omega
    have c2 : (l : Int) ≤ h := by omega
    rcases bnd_ok r h1 hl with ⟨rfl, rfl⟩ | ⟨xl, kl, rfl, el⟩ <;> rcases bnd_ok r h1 hh with ⟨rfl, rfl⟩ | ⟨xh, kh, rfl, eh⟩
    all_goals simp [execOp, Instr.sliceAt, Instr.slice, run_underlying hT, hex, Instr.sliceBounds, Instr.sliceBound, asIntOf, run_sizeOf' he, *]
  generalize hex : a.eval x = vx at hv
  unfold xslice at hq
  split at hq
  · rename_i cells n' co
    simp at hq; subst hq
    simp [xlen] at hn; subst hn
    have hcl := hlen _ _ _ rfl
    cases hv with
    | roE a' cap hc =>
      have : h = 0 := by omega
      subst this
      have : l = 0 := by omega
      subst this
      exact ⟨_, key _ _ hex (Nat.zero_le _), by simpa using .roE _ _ (by simp)⟩
    | ro cs him hl' hvv hle2 hc =>
      rename_i β add cap
      refine ⟨_, key _ _ hex hle2, ?_⟩
      by_cases hz : h = l
      · subst hz
        simp
        exact .roE _ _ (by simp)
      · have : ¬ cap = l := by omega
        rw [if_neg this]
        simp only [Option.map_some, addr_add]
        refine VR.ro ((cs.drop (l * ie.size)).take ((h - l) * ie.size)) ⟨him.lt, him.na, fun i v hv => ?_⟩ (by simp [hl']) (fun i x v hx hv => ?_) (by omega) (by simp)
        · rw [List.getElem?_take] at hv
          split at hv
          · rw [List.getElem?_drop] at hv
            have := him.cell _ v hv
            rw [← this]; congr 2; omega
          · simp at hv
        · rw [List.getElem?_take] at hx hv
          split at hx
          · rename_i hi
            rw [if_pos hi] at hv
            rw [List.getElem?_drop] at hx hv
            exact hvv _ x v hx hv
          · simp at hx
  · rename_i b off n' s co
    split at hq
    · rename_i hs
      subst hs
      simp at hq; subst hq
      simp [xlen] at hn; subst hn
      cases hv with
      | rwE a' hc =>
        have : h = 0 := by omega
        subst this
        have : l = 0 := by omega
        subst this
        exact ⟨_, key _ _ hex (Nat.zero_le _), by simpa using .rwE _ (by simp)⟩
      | rw hsg hle2 hc hsz =>
        rename_i β add size cap
        refine ⟨_, key _ _ hex hle2, ?_⟩
        by_cases hcl : cap = l
        · have : h = l := by omega
          subst this; subst hcl
          simp
          exact .rwE _ (by simp)
        · rw [if_neg hcl]
          simp only [Option.map_some, addr_add]
          have e : add + off + l * ie.size = add + (off + l * ie.size) := by omega
          rw [e]
          refine VR.rw hsg (by omega) (by simp) ?_
          have : (cap - l) * ie.size + l * ie.size = cap * ie.size := by rw [← Nat.add_mul]; congr 1; omega
          omega
    · simp at hq
  · simp at hq; subst hq
    simp [xlen] at hn; subst hn
    cases hv
    have : h = 0 := by omega
    subst this
    have : l = 0 := by omega
    subst this
    exact ⟨_, key _ _ hex (Nat.zero_le _), by simpa using .roE _ _ (by simp)⟩
  · simp at hq

end
end Go.SH
