/- Slices told by lists. -/
import Derived.Test.YtfadcigdmddndaaDoorShR
set_option linter.unusedVariables false
set_option linter.unusedSimpArgs false
namespace Go.SH

/-- How an element lies in memory. -/
structure El (α : Type) where
  pv : α → List PV
  sz : Nat
  hsz : ∀ x, (pv x).length = sz
  hpos : 0 < sz
  hpure : ∀ x, withinL (fun _ => false) (pv x) = true
  hone : ∀ x, (pv x).all PV.one = true

def fl {α : Type} (e : El α) (l : List α) : List PV := l.flatMap e.pv

def eI (k : IntKind) : El Int := ⟨fun x => [.int k x], 1, fun _ => rfl, by decide, fun _ => rfl, fun _ => rfl⟩
def eU8 : El UInt8 := ⟨fun x => [.int .u8 x.toNat], 1, fun _ => rfl, by decide, fun _ => rfl, fun _ => rfl⟩
def eB : El Bool := ⟨fun x => [.bool x], 1, fun _ => rfl, by decide, fun _ => rfl, fun _ => rfl⟩
def eS : El (List UInt8) := ⟨fun x => [.str x], 1, fun _ => rfl, by decide, fun _ => rfl, fun _ => rfl⟩

section
variable {α : Type} {e : El α}
@[simp] theorem fl_nil : fl e [] = [] := rfl
theorem fl_cons (x : α) (l : List α) : fl e (x :: l) = e.pv x ++ fl e l := by simp [fl]
theorem fl_append (a b : List α) : fl e (a ++ b) = fl e a ++ fl e b := by simp [fl]
theorem fl_length (l : List α) : (fl e l).length = l.length * e.sz := by
  induction l with
  | nil => simp
  | cons x l ih => rw [fl_cons, List.length_append, ih, e.hsz, List.length_cons, Nat.succ_mul]; omega
theorem fl_pure (l : List α) : withinL (fun _ => false) (fl e l) = true := by
  rw [withinL_all, List.all_eq_true]
  intro x hx
  obtain ⟨y, _, hy⟩ := List.mem_flatMap.1 hx
  have := e.hpure y
  rw [withinL_all, List.all_eq_true] at this
  exact this x hy
theorem fl_one (l : List α) : (fl e l).all PV.one = true := by
  rw [List.all_eq_true]
  intro x hx
  obtain ⟨y, _, hy⟩ := List.mem_flatMap.1 hx
  exact List.all_eq_true.1 (e.hone y) x hy
theorem fl_drop (l : List α) (i : Nat) : (fl e l).drop (i * e.sz) = fl e (l.drop i) := by
  induction l generalizing i with
  | nil => simp
  | cons x l ih =>
    cases i with
    | zero => simp
    | succ i =>
      rw [fl_cons, List.drop_succ_cons, ← ih, List.drop_append, e.hsz]
      have : (i + 1) * e.sz - e.sz = i * e.sz := by rw [Nat.succ_mul]; omega
      rw [this, List.drop_eq_nil_of_le (by rw [e.hsz, Nat.succ_mul]; omega), List.nil_append]
theorem fl_take (l : List α) (i : Nat) : (fl e l).take (i * e.sz) = fl e (l.take i) := by
  induction l generalizing i with
  | nil => simp
  | cons x l ih =>
    cases i with
    | zero => simp
    | succ i =>
      rw [fl_cons, List.take_succ_cons, fl_cons, ← ih, List.take_append, e.hsz]
      have : (i + 1) * e.sz - e.sz = i * e.sz := by rw [Nat.succ_mul]; omega
      rw [this, List.take_of_length_le (by rw [e.hsz, Nat.succ_mul]; omega)]
theorem fl_split {l : List α} {i : Nat} {x : α} (h : l[i]? = some x) : fl e l = fl e (l.take i) ++ (e.pv x ++ fl e (l.drop (i + 1))) := by
  have hi := (List.getElem?_eq_some_iff.1 h).1
  have hx := (List.getElem?_eq_some_iff.1 h).2
  conv => lhs; rw [← List.take_append_drop i l, List.drop_eq_getElem_cons hi, hx, fl_append, fl_cons]
theorem fl_get {l : List α} {i k : Nat} {x : α} (h : l[i]? = some x) (hk : k < e.sz) : (fl e l)[i * e.sz + k]? = (e.pv x)[k]? := by
  have hi := (List.getElem?_eq_some_iff.1 h).1
  have hl : (fl e (l.take i)).length = i * e.sz := by rw [fl_length, List.length_take, Nat.min_eq_left (by omega)]
  rw [fl_split h, List.getElem?_append_right (by omega), hl, Nat.add_sub_cancel_left, List.getElem?_append_left (by rw [e.hsz]; exact hk)]
theorem fl_part {l : List α} {i k m : Nat} {x : α} (h : l[i]? = some x) (hk : k + m ≤ e.sz) : ((fl e l).drop (i * e.sz + k)).take m = ((e.pv x).drop k).take m := by
  apply List.ext_getElem?
  intro j
  rw [List.getElem?_take, List.getElem?_take]
  split
  · rw [List.getElem?_drop, List.getElem?_drop, Nat.add_assoc, fl_get h (by omega)]
  · rfl
theorem fl_in {l : List α} {i : Nat} {x : α} (h : l[i]? = some x) : i * e.sz + e.sz ≤ (fl e l).length := by
  have hi := (List.getElem?_eq_some_iff.1 h).1
  rw [fl_length, ← Nat.succ_mul]
  exact Nat.mul_le_mul_right _ hi
theorem mid_get {β : Type} {A B B' C : List β} {j : Nat} (h : B.length = B'.length) (hj : j < A.length ∨ A.length + B.length ≤ j) : (A ++ (B ++ C))[j]? = (A ++ (B' ++ C))[j]? := by
  rcases hj with hj | hj
  · rw [List.getElem?_append_left hj, List.getElem?_append_left hj]
  · rw [List.getElem?_append_right (by omega), List.getElem?_append_right (by omega), List.getElem?_append_right (by omega), List.getElem?_append_right (by omega), h]
theorem fl_set {l : List α} {i k : Nat} {x y : α} {xs : List PV} (h : l[i]? = some x) (hk : k + xs.length ≤ e.sz) (hy : splice (e.pv x) k xs = e.pv y) : splice (fl e l) (i * e.sz + k) xs = fl e (l.set i y) := by
  have hi := (List.getElem?_eq_some_iff.1 h).1
  have hin := fl_in (e := e) h
  apply List.ext_getElem?
  intro j
  rw [getElem?_splice (by omega)]
  have hs : (l.set i y)[i]? = some y := by simp [hi]
  have hl1 : (fl e l).length = (fl e (l.set i y)).length := by simp [fl_length]
  by_cases hj : i * e.sz ≤ j ∧ j < i * e.sz + e.sz
  · have hj' : j = i * e.sz + (j - i * e.sz) := by omega
    have hq : j - i * e.sz < e.sz := by omega
    rw [show (fl e (l.set i y))[j]? = (fl e (l.set i y))[i * e.sz + (j - i * e.sz)]? from by rw [← hj'], fl_get hs hq, ← hy, getElem?_splice (by rw [e.hsz]; exact hk),
      show (fl e l)[j]? = (fl e l)[i * e.sz + (j - i * e.sz)]? from by rw [← hj'], fl_get h hq]
    by_cases c : k ≤ j - i * e.sz ∧ j - i * e.sz < k + xs.length
    · rw [if_pos (by omega), if_pos c]; congr 1; omega
    · rw [if_neg (by omega), if_neg c]
  · rw [if_neg (by omega)]
    have hl : (fl e (l.take i)).length = i * e.sz := by rw [fl_length, List.length_take, Nat.min_eq_left (by omega)]
    rw [fl_split h, fl_split hs]
    have e1 : (l.set i y).take i = l.take i := by simp [List.take_set_of_le (Nat.le_refl i)]
    have e2 : (l.set i y).drop (i + 1) = l.drop (i + 1) := by simp [List.drop_set_of_lt]
    rw [e1, e2]
    exact mid_get (by rw [e.hsz, e.hsz]) (by rw [hl, e.hsz]; omega)
end

theorem bytesPV_fl (s : List UInt8) : bytesPV s = fl eU8 s := by
  induction s with
  | nil => rfl
  | cons b s ih => rw [fl_cons, ← ih]; rfl
theorem str_fl (s : List UInt8) : (s.map fun b => PV.int .u8 b.toNat) = fl eU8 s := bytesPV_fl s

/-- What stands between two places. -/
def sub {α : Type} (l : List α) (a b : Nat) : List α := (l.drop a).take (b - a)
theorem sub_length {α : Type} {l : List α} {a b : Nat} (h : b ≤ l.length) : (sub l a b).length = b - a := by simp [sub]; omega
theorem fl_sub {α : Type} {e : El α} (l : List α) (a b : Nat) : ((fl e l).drop (a * e.sz)).take ((b - a) * e.sz) = fl e (sub l a b) := by rw [fl_drop, fl_take]; rfl

/-! ### the operations -/
section
variable {E : Env} {d : Option Tmp} {ty : TypeId} {pos : String} {after : Array Edge} {g : Option (Nat × Bool)} {ra : Al} {rl : Lb} {α : Type} {e : El α}

theorem AOp_idxRo {T t : TypeId} {ie : TypeInfo} {x ix : Operand} {l : List α} {n : Nat} {co : Option Nat} {k : IntKind} {i : Int} {y : α} (sz : Nat) (hx : xev E.G ra x = some (.ro (fl e l) n co)) (hn : n = l.length) (hi : xev E.G ra ix = some (.int k i))
    (hT : E.P.underlying T = some (.slice t)) (he : E.P.info? t = some ie) (hs : ie.size = sz) (hg : getI l i = some y) : AOp E ⟨d, .indexAddr T x ix, ty, pos, after, g⟩ ra rl (.rop (fl e l) (i.toNat * sz)) [] := by
  obtain ⟨h1, h2, h3⟩ := getI_some hg
  subst hs; subst hn
  exact AOp_indexAddr hx hi hT he rfl h1 h2 rfl

theorem AOp_idxRw {T t : TypeId} {ie : TypeInfo} {x ix : Operand} {l : List α} {lab n s : Nat} {co : Option Nat} {k : IntKind} {i : Int} {y : α} (sz : Nat) (hx : xev E.G ra x = some (.rw lab 0 n s co)) (hn : n = l.length) (hi : xev E.G ra ix = some (.int k i))
    (hT : E.P.underlying T = some (.slice t)) (he : E.P.info? t = some ie) (hs : ie.size = sz) (hg : getI l i = some y) : AOp E ⟨d, .indexAddr T x ix, ty, pos, after, g⟩ ra rl (.ptr lab (i.toNat * sz)) [] := by
  obtain ⟨h1, h2, h3⟩ := getI_some hg
  subst hs; subst hn
  exact AOp_indexAddr hx hi hT he rfl h1 h2 (by simp [xindexAddr])

/-- An array that is a whole block. -/
theorem AOp_idxArr {T t : TypeId} {ie : TypeInfo} {x ix : Operand} {lab n : Nat} {k : IntKind} {i : Int} {y : α} {l : List α} (sz : Nat) (hx : xev E.G ra x = some (.ptr lab 0)) (hi : xev E.G ra ix = some (.int k i))
    (hT : E.P.underlying T = some (.array n t)) (he : E.P.info? t = some ie) (hs : ie.size = sz) (hn : l.length = n) (hg : getI l i = some y) : AOp E ⟨d, .indexAddr T x ix, ty, pos, after, g⟩ ra rl (.ptr lab (i.toNat * sz)) [] := by
  obtain ⟨h1, h2, h3⟩ := getI_some hg
  subst hs; subst hn
  exact AOp_indexAddrA hx hi hT he h1 h2 (by simp [xfieldAddr])

theorem AOp_idxArrG {T t : TypeId} {ie : TypeInfo} {x ix : Operand} {n : Nat} {k : IntKind} {i : Int} {y : α} {l : List α} {cells : List PV} (sz : Nat) (hx : xev E.G ra x = some (.rop cells 0)) (hi : xev E.G ra ix = some (.int k i))
    (hc : cells = fl e l) (hT : E.P.underlying T = some (.array n t)) (he : E.P.info? t = some ie) (hs : ie.size = sz) (hn : l.length = n) (hg : getI l i = some y) : AOp E ⟨d, .indexAddr T x ix, ty, pos, after, g⟩ ra rl (.rop (fl e l) (i.toNat * sz)) [] := by
  obtain ⟨h1, h2, h3⟩ := getI_some hg
  subst hs; subst hn; subst hc
  exact AOp_indexAddrA hx hi hT he h1 h2 (by simp [xfieldAddr])

theorem xload_cells {P : Program} {T : TypeId} {L : Lb} {p v : PV} {cells : List PV} {off : Nat} {l : List α} {i : Int} {k sz m : Nat} {y : α} (hp : lcells L p = some (cells, off)) (hc : cells = fl e l) (ho : off = i.toNat * sz + k) (hs : e.sz = sz)
    (hg : getI l i = some y) (hm : (P.info? T).map (·.size) = some m) (hm2 : k + m ≤ sz) (h1 : rowOf P T = some false → m = 1) (hv : xload P T [] (.rop (e.pv y) k) = some v) : xload P T L p = some v := by
  obtain ⟨_, _, hy⟩ := getI_some hg
  subst hs; subst hc; subst ho
  unfold xload at hv ⊢
  simp only [lcells] at hv
  rw [hp]
  cases hT : P.info? T with
  | none => simp [hT] at hm
  | some ie =>
    simp only [hT, Option.map_some, Option.some.injEq] at hm
    subst hm
    rw [hT] at hv
    cases hr : rowOf P T with
    | none => rw [hr] at hv; simp at hv
    | some b =>
      rw [hr] at hv
      cases b with
      | true =>
        simp only at hv ⊢
        split at hv
        · rename_i hh
          have := fl_in (e := e) hy
          rw [if_pos ⟨by omega, hh.2⟩, fl_part hy hm2]; exact hv
        · simp at hv
      | false =>
        simp only at hv ⊢
        have := h1 hr
        rw [fl_get hy (by omega)]; exact hv

/-- Loading an element, or a part of it. -/
theorem AOp_loadEl {T : TypeId} {p : Operand} {q v : PV} {cells : List PV} {off : Nat} {l : List α} {i : Int} {y : α} (k sz m : Nat) (hq : xev E.G ra p = some q) (hp : lcells rl q = some (cells, off)) (hc : cells = fl e l) (ho : off = i.toNat * sz + k) (hs : e.sz = sz)
    (hg : getI l i = some y) (hm : (E.P.info? T).map (·.size) = some m) (hm2 : (decide (k + m ≤ sz) && (rowOf E.P T != some false || m == 1)) = true) (hv : xload E.P T [] (.rop (e.pv y) k) = some v) : AOp E ⟨d, .load T p, ty, pos, after, g⟩ ra rl v [] := by
  simp at hm2
  exact AOp_load hq (xload_cells hp hc ho hs hg hm hm2.1 (fun h => by rcases hm2.2 with h' | h'; exact absurd h h'; exact h') hv)

theorem AOp_storeEl {T : TypeId} {p v : Operand} {lab off : Nat} {cells : List PV} {x : PV} {ie : TypeInfo} {l : List α} {i : Int} {y y' : α} (k sz : Nat) (hp : xev E.G ra p = some (.ptr lab off)) (hv : xev E.G ra v = some x) (hl : lget rl lab = some (some cells))
    (hc : cells = fl e l) (ho : off = i.toNat * sz + k) (hs : e.sz = sz) (hi : E.P.info? T = some ie) (hsz : (pcells x).length = ie.size) (h1 : (pcells x).all PV.one = true) (hin : (decide (k + ie.size ≤ sz) && decide (0 < ie.size)) = true) (hg : getI l i = some y)
    (hy : splice (e.pv y) k (pcells x) = e.pv y') : AOp E ⟨none, .store T p v, ty, pos, after, g⟩ ra rl .dead [(lab, some (fl e (l.set i.toNat y')))] := by
  obtain ⟨_, _, hgy⟩ := getI_some hg
  subst hs; subst hc; subst ho
  simp at hin
  have h := fl_in (e := e) hgy
  rw [← fl_set hgy (by omega) hy]
  exact AOp_store hp hv hl hi hsz h1 (by omega) hin.2

theorem AOp_sliceRo {T t : TypeId} {ie : TypeInfo} {x : Operand} {lo hi : Option Operand} {l : List α} {n a b m : Nat} {co : Option Nat} (hx : xev E.G ra x = some (.ro (fl e l) n co)) (hn : n = l.length) (hT : E.P.underlying T = some (.slice t)) (he : E.P.info? t = some ie)
    (hs : ie.size = e.sz) (hl : bnd E.G ra lo 0 a) (hh : bnd E.G ra hi l.length b) (hle : a ≤ b) (hle' : b ≤ l.length) (hm : (sub l a b).length = m) :
    AOp E ⟨d, .slice T x lo hi none, ty, pos, after, g⟩ ra rl (.ro (fl e (sub l a b)) m none) [] := by
  subst hn; subst hm
  refine AOp_slice hx hT he rfl hl hh hle hle' ?_ (by rw [hs]; exact e.hpos) ?_
  · rw [sub_length hle', hs]; simp only [xslice, fl_sub]
  · intro cells m co h; simp at h; obtain ⟨rfl, rfl, _⟩ := h; rw [fl_length, hs]

/-- A whole own block, from its start. -/
theorem AOp_sliceRw {T t : TypeId} {ie : TypeInfo} {x : Operand} {lo hi : Option Operand} {lab n s a b : Nat} {co : Option Nat} (hx : xev E.G ra x = some (.rw lab 0 n s co)) (hT : E.P.underlying T = some (.slice t)) (he : E.P.info? t = some ie)
    (hs : ie.size = s) (hpos : 0 < s) (hl : bnd E.G ra lo 0 a) (hh : bnd E.G ra hi n b) (hle : a ≤ b) (hle' : b ≤ n) : AOp E ⟨d, .slice T x lo hi none, ty, pos, after, g⟩ ra rl (.rw lab (a * s) (b - a) s none) [] := by
  subst hs
  refine AOp_slice hx hT he rfl hl hh hle hle' (by simp [xslice]) hpos (fun cells m co h => by simp at h)

theorem bnd_int {G : List (Nat × List PV)} {o : Operand} {k : IntKind} {i : Int} {dflt : Nat} (h : xev G ra o = some (.int k i)) (h0 : 0 ≤ i) : bnd G ra (some o) dflt i.toNat := ⟨k, by rw [h, Int.toNat_of_nonneg h0]⟩

theorem AOp_sliceStrI {T : TypeId} {x : Operand} {lo hi : Option Operand} {s : List UInt8} {a b : Nat} (hx : xev E.G ra x = some (.str s)) (hT : E.P.underlying T = some .string)
    (hl : bnd E.G ra lo 0 a) (hh : bnd E.G ra hi s.length b) (hle : a ≤ b) (hle' : b ≤ s.length) : AOp E ⟨d, .slice T x lo hi none, ty, pos, after, g⟩ ra rl (.str (sub s a b)) [] := AOp_sliceStr hx hT hl hh hle hle'

theorem AOp_idxStr {T : TypeId} {x ix : Operand} {s : List UInt8} {k : IntKind} {i : Int} {c : UInt8} (hx : xev E.G ra x = some (.str s)) (hi : xev E.G ra ix = some (.int k i)) (hT : E.P.underlying T = some .string)
    (hg : getI s i = some c) : AOp E ⟨d, .index T x ix, ty, pos, after, g⟩ ra rl (.int .u8 c.toNat) [] :=
  AOp_indexStr hx hi hT (getI_some hg).1 (getI_some hg).2.2

/-- What is appended. -/
inductive Src (E : Env) (rl : Lb) (e : El α) (tx : TypeId) : PV → List α → Prop where
  | nils {t : TypeId} (h : E.P.underlying tx = some (.slice t)) : Src E rl e tx .nils []
  | ro {t : TypeId} {l : List α} {n : Nat} {co : Option Nat} (h : E.P.underlying tx = some (.slice t)) (hn : n = l.length) : Src E rl e tx (.ro (fl e l) n co) l
  | rw {t : TypeId} {lab off n s : Nat} {co : Option Nat} {l : List α} {cells : List PV} (h : E.P.underlying tx = some (.slice t)) (hl : lget rl lab = some (some cells)) (hc : (cells.drop off).take (n * s) = fl e l) (hs : s = e.sz) (hn : n = l.length) : Src E rl e tx (.rw lab off n s co) l

theorem Src.rwL {tx t : TypeId} {lab n s : Nat} {co : Option Nat} {l : List α} {cells : List PV} (h : E.P.underlying tx = some (.slice t)) (hl : lget rl lab = some (some cells)) (hc : cells = fl e l) (hs : s = e.sz) (hn : n = l.length) : Src E rl e tx (.rw lab 0 n s co) l :=
  .rw h hl (by subst hc; subst hs; subst hn; rw [List.drop_zero, ← fl_length, List.take_length]) hs hn

theorem Src.ok {tx : TypeId} {p : PV} {l : List α} (h : Src E rl e tx p l) : AppSrc E.P rl e.sz tx p (fl e l) l.length := by
  cases h with
  | nils h => exact .inl ⟨⟨_, h⟩, ⟨by simp, rfl⟩, rfl⟩
  | ro h hn => exact .inl ⟨⟨_, h⟩, ⟨fl_length l, hn, rfl⟩, fl_one l⟩
  | rw h hl hc hs hn => exact .inl ⟨⟨_, h⟩, ⟨fl_length l, hn, hs, _, hl, by subst hs; subst hn; exact hc⟩, fl_one l⟩

theorem appStr {tx : TypeId} {s : List UInt8} (h : E.P.underlying tx = some .string) : AppSrc E.P rl eU8.sz tx (.str s) (fl eU8 s) s.length := .inr ⟨h, rfl, s, rfl, rfl, (str_fl s).symm⟩

/-- What is appended to. -/
inductive Dst (rl : Lb) (e : El α) : PV → List α → List (Nat × Option (List PV)) → Prop where
  | nils : Dst rl e .nils [] []
  | roE : Dst rl e (.ro [] 0 (some 0)) [] []
  | own {lab n : Nat} {s : Nat} {co : Option Nat} {l : List α} {cells : List PV} (hl : lget rl lab = some (some cells)) (hc : cells = fl e l) (hs : s = e.sz) (hn : n = l.length) : Dst rl e (.rw lab 0 n s co) l [(lab, none)]

theorem AOp_appendL {T tx t : TypeId} {ie : TypeInfo} {x y : Operand} {p q : PV} {l m : List α} {wl : Lb} (lab sz : Nat) (hx : xev E.G ra x = some p) (hy : xev E.G ra y = some q) (hp : Dst rl e p l wl) (hs : AppSrc E.P rl e.sz tx q (fl e m) m.length)
    (hT : E.P.underlying T = some (.slice t)) (he : E.P.info? t = some ie) (hsz : ie.size = e.sz) (hsz2 : e.sz = sz) {z : List PV} (hz : zcells E.P t = some z) (hzl : z.length = ie.size) (hk : ((l ++ m).length : Int) * ie.bytes ≤ 140737488355328) (hb : 0 < ie.bytes) (hrl : lget rl lab = none) :
    AOp E ⟨d, .call ⟨.builtin .append, #[x, y], #[T, tx]⟩, ty, pos, after, g⟩ ra rl (.rw lab 0 (l ++ m).length sz none) (wl ++ [(lab, some (fl e (l ++ m)))]) := by
  subst hsz2
  have hk1 : (l ++ m).length * ie.bytes ≤ 140737488355328 := Int.ofNat_le.1 (by rw [Int.natCast_mul]; exact hk)
  have hk2 : (l ++ m).length ≤ 9223372036854775807 := Nat.le_trans (Nat.le_mul_of_pos_right _ hb) (by omega)
  cases hp with
  | nils =>
    rw [← hsz] at hs ⊢
    simpa using AOp_append0 lab hx hy hT he hz hzl (.inl rfl) hs (by rw [hsz]; exact e.hpos) (by simpa using hk1) (by simpa using hk2) hrl
  | roE =>
    rw [← hsz] at hs ⊢
    simpa using AOp_append0 lab hx hy hT he hz hzl (.inr rfl) hs (by rw [hsz]; exact e.hpos) (by simpa using hk1) (by simpa using hk2) hrl
  | own hl hc hs' hn =>
    subst hc; subst hs'; subst hn
    rw [List.length_append] at hk1 hk2
    have := AOp_append1 (E := E) (d := d) (ty := ty) (pos := pos) (after := after) (g := g) (tx := tx) (T := T) lab (by rw [hsz]; exact hx) hy hT he hz hzl hl (by rw [hsz, fl_length]; omega) (by rw [hsz]; exact hs) (by rw [hsz]; exact e.hpos) hk1 hk2 hrl
    rw [hsz, List.drop_zero, ← fl_length, List.take_length, ← fl_append, ← List.length_append] at this
    exact this
end
end Go.SH
