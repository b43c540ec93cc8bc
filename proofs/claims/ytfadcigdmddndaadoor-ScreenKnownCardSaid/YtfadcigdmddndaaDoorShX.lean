/- A run of the code on symbolic values as a function: memory as a tree; single operations. -/
import Derived.Test.YtfadcigdmddndaaDoorShV
import Derived.Laws.Cover4
set_option linter.unusedVariables false
set_option linter.unusedSimpArgs false
namespace Go.SH

/-! ### memory: labels' cells in a tree -/
inductive Tr where
  | nil
  | node (v : Option (List PV)) (l r : Tr)

def tget : Tr → Nat → Option (List PV)
  | .nil, _ => none
  | .node v l r, k => bif k.beq 0 then v else bif (k % 2).beq 1 then tget l (k / 2) else tget r (k / 2 - 1)

/-- With another content under a label (labels below 2 ^ fuel - 1). -/
def tset : Nat → Tr → Nat → Option (List PV) → Tr
  | 0, t, _, _ => t
  | f + 1, .nil, k, y => bif k.beq 0 then .node y .nil .nil else bif (k % 2).beq 1 then .node none (tset f .nil (k / 2) y) .nil else .node none .nil (tset f .nil (k / 2 - 1) y)
  | f + 1, .node v l r, k, y => bif k.beq 0 then .node y l r else bif (k % 2).beq 1 then .node v (tset f l (k / 2) y) r else .node v l (tset f r (k / 2 - 1) y)

theorem beq_dec (a b : Nat) : a.beq b = decide (a = b) := by
  rw [Bool.eq_iff_iff]; simp [Nat.beq_eq]

theorem tget_node (v : Option (List PV)) (l r : Tr) (k : Nat) : tget (.node v l r) k = if k = 0 then v else if k % 2 = 1 then tget l (k / 2) else tget r (k / 2 - 1) := by
  rw [tget, beq_dec, beq_dec]
  by_cases h0 : k = 0
  · simp [h0]
  · by_cases h1 : k % 2 = 1 <;> simp [h0, h1]
theorem tget_nil (k : Nat) : tget .nil k = none := rfl
def kids : Tr → Option (List PV) × Tr × Tr
  | .nil => (none, .nil, .nil)
  | .node v l r => (v, l, r)
theorem tget_kids (t : Tr) (k : Nat) : tget t k = tget (.node (kids t).1 (kids t).2.1 (kids t).2.2) k := by
  cases t with
  | nil => rw [tget_node]; simp [kids, tget_nil]
  | node v l r => rfl
theorem tset_succ (f : Nat) (t : Tr) (k : Nat) (y : Option (List PV)) :
    tset (f + 1) t k y = if k = 0 then .node y (kids t).2.1 (kids t).2.2 else if k % 2 = 1 then .node (kids t).1 (tset f (kids t).2.1 (k / 2) y) (kids t).2.2 else .node (kids t).1 (kids t).2.1 (tset f (kids t).2.2 (k / 2 - 1) y) := by
  cases t <;> (rw [tset, beq_dec, beq_dec]; by_cases h0 : k = 0 <;> by_cases h1 : k % 2 = 1 <;> simp [h0, h1, kids])
theorem tget_tset : ∀ (f : Nat) (t : Tr) (k : Nat) (y : Option (List PV)) (j : Nat), k + 1 < 2 ^ f → tget (tset f t k y) j = if j = k then y else tget t j
  | 0, t, k, y, j, h => by simp at h
  | f + 1, t, k, y, j, h => by
    have hp : 2 ^ (f + 1) = 2 * 2 ^ f := by rw [Nat.pow_succ]; omega
    rw [tset_succ, tget_kids t j]
    by_cases h0 : k = 0
    · subst h0
      rw [if_pos rfl, tget_node, tget_node]
      by_cases hj : j = 0 <;> simp [hj]
    · rw [if_neg h0]
      by_cases h1 : k % 2 = 1
      · rw [if_pos h1, tget_node, tget_node]
        by_cases hj : j = 0
        · rw [if_pos hj, if_pos hj, if_neg (by omega)]
        · rw [if_neg hj, if_neg hj]
          by_cases hj1 : j % 2 = 1
          · rw [if_pos hj1, if_pos hj1, tget_tset f _ (k / 2) y (j / 2) (by omega)]
            by_cases hjk : j = k
            · subst hjk; simp
            · rw [if_neg hjk, if_neg (by omega)]
          · rw [if_neg hj1, if_neg hj1, if_neg (by intro h; subst h; exact hj1 h1)]
      · rw [if_neg h1, tget_node, tget_node]
        by_cases hj : j = 0
        · rw [if_pos hj, if_pos hj, if_neg (by omega)]
        · rw [if_neg hj, if_neg hj]
          by_cases hj1 : j % 2 = 1
          · rw [if_pos hj1, if_pos hj1, if_neg (by intro h; subst h; exact h1 hj1)]
          · rw [if_neg hj1, if_neg hj1, tget_tset f _ (k / 2 - 1) y (j / 2 - 1) (by omega)]
            by_cases hjk : j = k
            · subst hjk; simp
            · rw [if_neg hjk, if_neg (by omega)]

/-- How many labels there may be. -/
def maxL : Nat := 1048574
def tput (m : Tr) (l : Nat) (y : Option (List PV)) : Tr := tset 20 m l y
theorem tget_tput {m : Tr} {l : Nat} {y : Option (List PV)} (h : l < maxL) (j : Nat) : tget (tput m l y) j = if j = l then y else tget m j :=
  tget_tset 20 m l y j (by unfold maxL at h; omega)

/-- A tree tells of a state's blocks. -/
def MR (m : Tr) (L : Lb) : Prop := ∀ l cells, tget m l = some cells → lget L l = some (some cells)
/-- From nx on no label is used. -/
def FrL (nx : Nat) (L : Lb) : Prop := ∀ l, nx ≤ l → lget L l = none

/-- What an operation writes, in a tree. -/
def tupd : Tr → Lb → Tr
  | m, [] => m
  | m, (l, y) :: r => tupd (tput m l y) r
def okW (nx : Nat) : Lb → Bool
  | [] => true
  | (l, _) :: r => Nat.blt l nx && okW nx r

theorem MR.upd {wl : Lb} : ∀ {m : Tr} {L : Lb}, MR m L → (∀ p ∈ wl, p.1 < maxL) → MR (tupd m wl) (lupd L wl) := by
  induction wl with
  | nil => intro m L h _; exact h
  | cons p r ih =>
    obtain ⟨l, y⟩ := p
    intro m L h hb
    have h1 := hb (l, y) (by simp)
    refine ih (m := tput m l y) (L := lset L l y) (fun j cells hj => ?_) (fun p hp => hb p (by simp [hp]))
    rw [tget_tput h1] at hj
    rw [lget_lset]
    by_cases e : j = l
    · subst e; rw [if_pos rfl] at hj ⊢; rw [hj]
    · rw [if_neg e] at hj; rw [if_neg (fun h => e h.symm)]; exact h j cells hj
theorem FrL.upd {wl : Lb} {nx nx' : Nat} (hle : nx ≤ nx') : ∀ {L : Lb}, FrL nx L → (∀ p ∈ wl, p.1 < nx') → FrL nx' (lupd L wl) := by
  induction wl with
  | nil => intro L h _ l hl; exact h l (by omega)
  | cons p r ih =>
    obtain ⟨l, y⟩ := p
    intro L h hb
    have h1 := hb (l, y) (by simp)
    show FrL nx' (lupd (lset L l y) r)
    have : FrL nx' (lset L l y) := fun j hj => by
      rw [lget_lset, if_neg (by simp only at h1; omega)]; exact h j (by omega)
    clear h
    have gen : ∀ {L : Lb}, FrL nx' L → (∀ p ∈ r, p.1 < nx') → FrL nx' (lupd L r) := by
      clear ih this hb h1 hle
      induction r with
      | nil => intro L h _; exact h
      | cons q r ih =>
        obtain ⟨k, z⟩ := q
        intro L h hb
        refine ih (L := lset L k z) (fun j hj => ?_) (fun p hp => hb p (by simp [hp]))
        have := hb (k, z) (by simp)
        rw [lget_lset, if_neg (by simp only at this; omega)]; exact h j hj
    exact gen this fun p hp => hb p (by simp [hp])

/-! ### operations beyond those of xop -/
def xbnd (G : List (Nat × List PV)) (al : Al) (o : Option Operand) (dflt : Nat) : Option Nat :=
  match o with
  | none => some dflt
  | some x => match xev G al x with
    | some (.int _ (.ofNat n)) => some n
    | _ => none
theorem xbnd_ok {G : List (Nat × List PV)} {al : Al} {o : Option Operand} {dflt n : Nat} (h : xbnd G al o dflt = some n) : bnd G al o dflt n := by
  unfold xbnd at h
  unfold bnd
  split at h
  · simpa using h.symm
  · split at h
    · rename_i k m hx; simp at h; subst h; exact ⟨k, hx⟩
    · simp at h

/-- A slice's cells. -/
def xslc (L : Lb) (sz : Nat) : PV → Option (List PV × Nat)
  | .nils => some ([], 0)
  | .ro cs n _ => if cs.length = n * sz then some (cs, n) else none
  | .rw l off n s _ => if s = sz then (match lget L l with
    | some (some cs) => if off + n * sz ≤ cs.length then some ((cs.drop off).take (n * sz), n) else none
    | _ => none) else none
  | _ => none
theorem xslc_ok {L : Lb} {sz n : Nat} {p : PV} {cells : List PV} (h : xslc L sz p = some (cells, n)) : SlC L sz p cells n := by
  unfold xslc at h
  split at h
  · simp at h; obtain ⟨rfl, rfl⟩ := h; exact ⟨by simp, rfl⟩
  · split at h
    · simp at h; obtain ⟨rfl, rfl⟩ := h; exact ⟨‹_›, rfl, rfl⟩
    · simp at h
  · split at h
    · rename_i hs
      split at h
      · rename_i cs hl
        split at h
        · rename_i hin
          simp at h; obtain ⟨rfl, rfl⟩ := h
          exact ⟨by simp; omega, rfl, hs, cs, hl, rfl⟩
        · simp at h
      · simp at h
    · simp at h
  · simp at h

/-- What is appended. -/
def xsrc (P : Program) (L : Lb) (sz : Nat) (tx : TypeId) (p : PV) : Option (List PV × Nat) :=
  match P.underlying tx with
  | some (.slice _) => match xslc L sz p with
    | some (cs, k) => if cs.all PV.one = true then some (cs, k) else none
    | none => none
  | some .string => match p with
    | .str s => if sz = 1 then some (s.map fun b => .int .u8 b.toNat, s.length) else none
    | _ => none
  | _ => none
theorem xsrc_ok {P : Program} {L : Lb} {sz k : Nat} {tx : TypeId} {p : PV} {news : List PV} (h : xsrc P L sz tx p = some (news, k)) : AppSrc P L sz tx p news k := by
  unfold xsrc at h
  split at h
  · rename_i e hu
    split at h
    · rename_i cs n hs
      split at h
      · simp at h; obtain ⟨rfl, rfl⟩ := h; exact .inl ⟨⟨e, hu⟩, xslc_ok hs, ‹_›⟩
      · simp at h
    · simp at h
  · rename_i hu
    split at h
    · rename_i s
      split at h
      · simp at h; obtain ⟨rfl, rfl⟩ := h; exact .inr ⟨hu, ‹_›, s, rfl, rfl, rfl⟩
      · simp at h
    · simp at h
  · simp at h

def asBytes : List PV → Option (List UInt8)
  | [] => some []
  | .int .u8 (.ofNat n) :: r => if n < 256 then (match asBytes r with | some s => some (UInt8.ofNat n :: s) | none => none) else none
  | _ => none
theorem asBytes_ok : ∀ {cs : List PV} {s : List UInt8}, asBytes cs = some s → cs = bytesPV s
  | [], s, h => by simp [asBytes] at h; subst h; rfl
  | c :: r, s, h => by
    unfold asBytes at h
    split at h
    · contradiction
    · rename_i n r' heq
      simp at heq
      obtain ⟨rfl, rfl⟩ := heq
      split at h
      · rename_i hn
        split at h
        · rename_i s' hs
          simp at h; subst h
          rw [asBytes_ok hs]
          have : (UInt8.ofNat n).toNat = n := by simp [UInt8.toNat_ofNat']; omega
          simp [bytesPV, this]
        · simp at h
      · simp at h
    · simp at h

def asRunes : List PV → Option (List Int)
  | [] => some []
  | .int .i32 n :: r => match asRunes r with | some s => some (n :: s) | none => none
  | _ => none
theorem asRunes_ok : ∀ {cs : List PV} {s : List Int}, asRunes cs = some s → cs = s.map (PV.int .i32)
  | [], s, h => by simp [asRunes] at h; subst h; rfl
  | c :: r, s, h => by
    unfold asRunes at h
    split at h
    · contradiction
    · rename_i n r' heq
      simp at heq
      obtain ⟨rfl, rfl⟩ := heq
      split at h
      · rename_i s' hs
        simp at h; subst h
        rw [asRunes_ok hs]; rfl
      · simp at h
    · simp at h
def runesL (ns : List Int) : List UInt8 := ns.flatMap fun n => (Utf8.encode n).data.toList
theorem runesL_ok (ns : List Int) : runesBytes ns = ⟨⟨runesL ns⟩⟩ := by
  have key : ∀ (ns : List Int) (acc : ByteArray), ns.foldl (fun r n => r ++ Utf8.encode n) acc = ⟨⟨acc.data.toList ++ runesL ns⟩⟩ := by
    intro ns
    induction ns with
    | nil => intro acc; simp [runesL]
    | cons n ns ih =>
      intro acc
      simp only [List.foldl_cons]
      rw [ih]
      simp [runesL]
  unfold runesBytes
  rw [key]
  rfl
section
variable {E : Env} {d : Option Tmp} {ty : TypeId} {pos : String} {after : Array Edge} {g : Option (Nat × Bool)} {ra : Al} {rl : Lb}
/-- Code points as a text. -/
theorem AOp_runesStr {s t e : TypeId} {x : Operand} {p : PV} {ns : List Int} (hx : xev E.G ra x = some p) (hs : E.P.underlying s = some (.slice e)) (he : E.P.underlying e = some (.int .i32)) (ht : E.P.underlying t = some .string)
    (hc : SlC rl 1 p (ns.map (PV.int .i32)) ns.length) : AOp E ⟨d, .convert s t x, ty, pos, after, g⟩ ra rl (.str (runesL ns)) [] := by
  refine AOp_val fun A w σ al L a r h1 h2 => ⟨.string ⟨⟨runesL ns⟩⟩, ?_, .str _⟩
  have hv := xev_ok r h1 hx
  have hc' := slc_mono h2 hc
  obtain ⟨us, u1, u2, u3⟩ := first_ok (P := E.P) r.blocks hv hc'
  obtain ⟨ad, cap, hex, _, _⟩ := slc_ok r.blocks hv hc'
  have hus : us = ns.map (Value.int .i32) := by
    apply List.ext_getElem?
    intro i
    by_cases hi : i < ns.length
    · obtain ⟨u, h5, h6⟩ := u2 i (.int .i32 ns[i]) (by simp [hi])
      rw [h5]
      cases h6
      simp [hi]
    · rw [List.getElem?_eq_none (by omega), List.getElem?_eq_none (by simp; omega)]
  have h3 := u3 w rfl
  rw [hex] at h3
  have hconv : (convert s t (a.eval x)).run E.P w = .ok (.string ⟨⟨runesL ns⟩⟩) w := by
    rw [hex, run_convert_runes_string w s t e ad _ cap hs he ht]
    cases ad with
    | none =>
      simp [Builtin.firstCells] at h3
      subst h3
      have : ns = [] := List.eq_nil_of_length_eq_zero (by simpa using u1.symm)
      subst this
      simp [Conv.runesToString, runesL]
      rfl
    | some ad =>
      simp only [Builtin.firstCells, Nat.mul_one] at h3
      rw [hus] at h3
      rw [run_runesToString w ad ns.length cap _ h3, runesL_ok]
  simp [execOp, hconv]
end

def posS : PV → Bool
  | .rw _ _ n _ _ => Nat.blt 0 n
  | .ro _ n _ => Nat.blt 0 n
  | _ => false
def isSl : Option TypeDesc → Bool
  | some (.slice _) => true
  | _ => false
theorem posS_ok {w : World} {σ : Sig} {av : Nat → Prop} {p : PV} {v : Value} (h : posS p = true) (hv : VR w σ av p v) : ∃ a n c, v = .slice (some a) n c := by
  cases hv <;> simp [posS] at h <;> first | exact ⟨_, _, _, rfl⟩ | skip
section
variable {E : Env} {d : Option Tmp} {ty : TypeId} {pos : String} {after : Array Edge} {g : Option (Nat × Bool)} {ra : Al} {rl : Lb}
/-- A slice that holds something is not nil. -/
theorem AOp_sliceNil {b : Bool} {op : BinOp} {T yt : TypeId} {x y : Operand} {p : PV} (hop : (op = .eql ∧ b = false) ∨ (op = .neq ∧ b = true)) (hx : xev E.G ra x = some p) (hy : xev E.G ra y = some .nils) (hp : posS p = true) (hT : isSl (E.P.underlying T) = true) :
    AOp E ⟨d, .binOp op T x y yt, ty, pos, after, g⟩ ra rl (.bool b) [] := by
  refine AOp_val fun A w σ al L a r h1 h2 => ⟨.bool b, ?_, .bool _⟩
  have hv := xev_ok r h1 hx
  have hw := xev_ok r h1 hy
  obtain ⟨e, hu⟩ : ∃ e, E.P.underlying T = some (.slice e) := by
    unfold isSl at hT; split at hT
    · exact ⟨_, ‹_›⟩
    · simp at hT
  obtain ⟨ad, n, c, hex⟩ := posS_ok hp hv
  generalize hey : a.eval y = vy at hw
  cases hw
  have heq : (Op.equal T (.slice (some ad) n c) (.slice none 0 0)).run E.P w = .ok false w := by
    have key : ∀ D, (Op.equalIn (D + 1) T (.slice (some ad) n c) (.slice none 0 0)).run E.P w = .ok false w := fun D => by simp [Op.equalIn, run_underlying hu]
    exact key 9999
  have hg : ∀ op, (eqGuard op T x y (.slice (some ad) n c) (.slice none 0 0)).run E.P w = .ok () w := by
    intro op; cases op <;> simp [eqGuard]
  rcases hop with ⟨rfl, rfl⟩ | ⟨rfl, rfl⟩
  · simp only [execOp, hex, hey, Sem.run_bind, hg, Result.andThen_ok, binOp, heq]
    simp
  · simp only [execOp, hex, hey, Sem.run_bind, hg, Result.andThen_ok, binOp, heq]
    simp
end
def roOK (sz : Nat) : PV → Bool
  | .ro cs m _ => decide (cs.length = m * sz)
  | _ => true

def xop2 (P : Program) (G : List (Nat × List PV)) (o : Oper) (al : Al) (L : Lb) (lab : Nat) : Option (PV × Lb) :=
  match o.op with
  | .slice T x lo hi none => match xev G al x, P.underlying T with
    | some (.str s), some .string => match xbnd G al lo 0, xbnd G al hi s.length with
      | some l, some h => if l ≤ h ∧ h ≤ s.length then some (.str ((s.drop l).take (h - l)), []) else none
      | _, _ => none
    | some (.ptr lb 0), some (.array n t) => match lget L lb, P.info? t with
      | some (some cells), some ie => match xbnd G al lo 0, xbnd G al hi n with
        | some l, some h => if cells.length = n * ie.size ∧ 0 < n * ie.size ∧ l ≤ h ∧ h ≤ n then some (.rw lb (l * ie.size) (h - l) ie.size none, []) else none
        | _, _ => none
      | _, _ => none
    | some p, some (.slice e) => match P.info? e, xlen p with
      | some ie, some n => match xbnd G al lo 0, xbnd G al hi n with
        | some l, some h => if l ≤ h ∧ h ≤ n ∧ 0 < ie.size ∧ roOK ie.size p = true then (xslice ie.size l h p).map fun q => (q, []) else none
        | _, _ => none
      | _, _ => none
    | _, _ => none
  | .call ⟨.builtin .append, ⟨[x, y]⟩, ⟨[T, tx]⟩⟩ => match xev G al x, xev G al y, P.underlying T with
    | some p, some q, some (.slice e) => match P.info? e, zcells P e with
      | some ie, some z => if z.length = ie.size ∧ 0 < ie.size then (match xsrc P L ie.size tx q with
        | some (news, k) => match p with
          | .nils => if k * ie.bytes ≤ 140737488355328 ∧ k ≤ 9223372036854775807 then some (.rw lab 0 k ie.size none, [(lab, some news)]) else none
          | .rw l off n s _ => match lget L l with
            | some (some cells) => if s = ie.size ∧ off + n * ie.size ≤ cells.length ∧ (n + k) * ie.bytes ≤ 140737488355328 ∧ n + k ≤ 9223372036854775807 then
                some (.rw lab 0 (n + k) ie.size none, [(l, none), (lab, some ((cells.drop off).take (n * ie.size) ++ news))]) else none
            | _ => none
          | _ => none
        | none => none) else none
      | _, _ => none
    | _, _, _ => none
  | .call ⟨.builtin .copy, ⟨[x, y]⟩, ⟨[T, tx]⟩⟩ => match xev G al x, xev G al y, P.underlying T with
    | some (.rw l off n s _), some q, some (.slice e) => match P.info? e, lget L l with
      | some ie, some (some cells) => if s = ie.size ∧ off + n * ie.size ≤ cells.length then (match xslc L ie.size q with
        | some (cont, k) => if cont.all PV.one = true then some (.int .i64 ((Nat.min k n : Nat) : Int), [(l, some (splice cells off (cont.take (Nat.min k n * ie.size))))]) else none
        | none => none) else none
      | _, _ => none
    | _, _, _ => none
  | .makeSlice T x y => match xev G al x, xev G al y, P.underlying T with
    | some (.int _ (.ofNat n)), some (.int _ (.ofNat c)), some (.slice e) => match P.info? e, zcells P e with
      | some ie, some z => if z.length = ie.size ∧ 0 < ie.size ∧ n ≤ c ∧ c * ie.bytes ≤ 140737488355328 ∧ c ≤ 9223372036854775807 then some (.rw lab 0 n ie.size (some c), [(lab, some (zrow z (c * ie.size)))]) else none
      | _, _ => none
    | _, _, _ => none
  | .convert s t x => match xev G al x, P.underlying s, P.underlying t with
    | some p, some (.slice e), some .string => match P.underlying e, xslc L 1 p with
      | some (.int .u8), some (cs, k) => match asBytes cs with
        | some bs => some (.str bs, [])
        | none => none
      | some (.int .i32), some (cs, k) => match asRunes cs with
        | some ns => some (.str (runesL ns), [])
        | none => none
      | _, _ => none
    | some (.str bs), some .string, some (.slice e) => match P.underlying e with
      | some (.int .u8) => some (.rw lab 0 bs.length 1 none, [(lab, some (fl eU8 bs))])
      | _ => none
    | _, _, _ => xop P G o al L lab
  | .binOp op T x y yt => match op, xev G al x, xev G al y with
    | .add, some (.str s), some (.str t) => if s.length + t.length ≤ 9223372036854775807 then some (.str (s ++ t), []) else none
    | .eql, some p, some .nils => bif posS p && isSl (P.underlying T) then some (.bool false, []) else xop P G o al L lab
    | .neq, some p, some .nils => bif posS p && isSl (P.underlying T) then some (.bool true, []) else xop P G o al L lab
    | _, _, _ => xop P G o al L lab
  | _ => xop P G o al L lab

theorem SlC.len {L : Lb} {sz n : Nat} {p : PV} {cells : List PV} (h : SlC L sz p cells n) : cells.length = n * sz := h.1

theorem xop2_ok {E : Env} {o : Oper} {al : Al} {L : Lb} {lab : Nat} {x : PV} {wl : Lb} (hlab : lget L lab = none) (h : xop2 E.P E.G o al L lab = some (x, wl)) : AOp E o al L x wl := by
  obtain ⟨d, op, ty, pos, after, g⟩ := o
  unfold xop2 at h
  simp only at h
  split at h
  · -- slice
    split at h
    · rename_i s hx hu
      split at h
      · rename_i l hh h1 h2
        split at h
        · rename_i hc; simp at h; obtain ⟨rfl, rfl⟩ := h
          exact AOp_sliceStr hx hu (xbnd_ok h1) (xbnd_ok h2) hc.1 hc.2
        · simp at h
      · simp at h
    · rename_i lb n t hx hu
      split at h
      · rename_i cells ie hl hi
        split at h
        · rename_i l hh h1 h2
          split at h
          · rename_i hc; simp at h; obtain ⟨rfl, rfl⟩ := h
            exact AOp_sliceArr ie.size hx hl hu hi rfl hc.1 hc.2.1 (xbnd_ok h1) (xbnd_ok h2) hc.2.2.1 hc.2.2.2
          · simp at h
        · simp at h
      · simp at h
    · rename_i p e hx hu
      split at h
      · rename_i ie n hi hn
        split at h
        · rename_i l hh h1 h2
          split at h
          · rename_i hc
            simp only [Option.map_eq_some_iff, Prod.mk.injEq] at h
            obtain ⟨q, hq, rfl, rfl⟩ := h
            refine AOp_slice hx hu hi hn (xbnd_ok h1) (xbnd_ok h2) hc.1 hc.2.1 hq hc.2.2.1 ?_
            rintro cells m co rfl
            simpa [roOK] using hc.2.2.2
          · simp at h
        · simp at h
      · simp at h
    · simp at h
  · -- append
    split at h
    · rename_i p q e hx hy hu
      split at h
      · rename_i ie z hi hz
        split at h
        · rename_i hc
          split at h
          · rename_i news k hs
            split at h
            · split at h
              · rename_i hk; simp at h; obtain ⟨rfl, rfl⟩ := h
                exact AOp_append0 lab hx hy hu hi hz hc.1 (.inl rfl) (xsrc_ok hs) hc.2 hk.1 hk.2 hlab
              · simp at h
            · split at h
              · rename_i cells hl
                split at h
                · rename_i hk; simp at h; obtain ⟨rfl, rfl⟩ := h
                  obtain ⟨rfl, k2, k3, k4⟩ := hk
                  exact AOp_append1 lab hx hy hu hi hz hc.1 hl k2 (xsrc_ok hs) hc.2 k3 k4 hlab
                · simp at h
              · simp at h
            · simp at h
          · simp at h
        · simp at h
      · simp at h
    · simp at h
  · -- copy
    split at h
    · rename_i l off n s co q e hx hy hu
      split at h
      · rename_i ie cells hi hl
        split at h
        · rename_i hc
          split at h
          · rename_i cont k hs
            split at h
            · rename_i h1; simp only [Option.some.injEq, Prod.mk.injEq] at h; obtain ⟨rfl, rfl⟩ := h
              obtain ⟨rfl, h2⟩ := hc
              exact AOp_copy hx hy hu hi hl h2 (xslc_ok hs) h1 rfl
            · simp at h
          · simp at h
        · simp at h
      · simp at h
    · simp at h
  · -- make
    split at h
    · rename_i k n k' c e hx hy hu
      split at h
      · rename_i ie z hi hz
        split at h
        · rename_i hc; simp at h; obtain ⟨rfl, rfl⟩ := h
          exact AOp_makeSlice lab hx hy hu hi hz hc.1 hc.2.1 hc.2.2.1 hc.2.2.2.1 hc.2.2.2.2 hlab
        · simp at h
      · simp at h
    · simp at h
  · -- convert
    split at h
    · rename_i p e hx hs ht
      split at h
      · rename_i cs k he hc
        split at h
        · rename_i bs hb; simp at h; obtain ⟨rfl, rfl⟩ := h
          have h1 := xslc_ok hc
          have h2 := asBytes_ok hb
          subst h2
          have : k = bs.length := by have := h1.1; simp [bytesPV] at this; omega
          subst this
          exact AOp_bytesStr hx hs he ht h1
        · simp at h
      · rename_i cs k he hc
        split at h
        · rename_i ns hb; simp at h; obtain ⟨rfl, rfl⟩ := h
          have h1 := xslc_ok hc
          have h2 := asRunes_ok hb
          subst h2
          have : k = ns.length := by have := h1.1; simp at this; omega
          subst this
          exact AOp_runesStr hx hs he ht h1
        · simp at h
      · simp at h
    · rename_i bs e hx hs ht
      split at h
      · rename_i he; simp at h; obtain ⟨rfl, rfl⟩ := h
        exact AOp_strBytes lab hx hs ht he hlab
      · simp at h
    · exact xop_ok hlab h
  · split at h
    · rename_i s t hx hy
      split at h
      · rename_i hb; simp at h; obtain ⟨rfl, rfl⟩ := h
        exact AOp_strAdd hx hy hb
      · simp at h
    · rename_i p hx hy
      cases hc : posS p && isSl (E.P.underlying _)
      · rw [hc] at h; exact xop_ok hlab h
      · rw [hc] at h; simp at h; obtain ⟨rfl, rfl⟩ := h
        simp only [Bool.and_eq_true] at hc
        exact AOp_sliceNil (.inl ⟨rfl, rfl⟩) hx hy hc.1 hc.2
    · rename_i p hx hy
      cases hc : posS p && isSl (E.P.underlying _)
      · rw [hc] at h; exact xop_ok hlab h
      · rw [hc] at h; simp at h; obtain ⟨rfl, rfl⟩ := h
        simp only [Bool.and_eq_true] at hc
        exact AOp_sliceNil (.inr ⟨rfl, rfl⟩) hx hy hc.1 hc.2
    · exact xop_ok hlab h
  · exact xop_ok hlab h
end Go.SH
