/- Running operations of a symbolic state by a function. -/
import Derived.Test.YtfadcigdmddndaaDoorShO
set_option linter.unusedVariables false
set_option linter.unusedSimpArgs false
namespace Go.SH

def xidx (P : Program) (T : TypeId) (p : PV) (i : Int) : Option PV :=
  match P.underlying T with
  | some (.array n e) => match P.info? e with
    | some ie => if 0 ≤ i ∧ i < n then xfieldAddr (i.toNat * ie.size) p else none
    | none => none
  | some (.slice e) => match P.info? e, xlen p with
    | some ie, some n => if 0 ≤ i ∧ i < n then xindexAddr ie.size i p else none
    | _, _ => none
  | _ => none

def xindex (P : Program) (T : TypeId) (i : Int) : PV → Option PV
  | .agg cells => match P.underlying T with
    | some (.array n e) => match P.info? e with
      | some ie => if 0 ≤ i ∧ i < n then xpart P e cells (i.toNat * ie.size) else none
      | none => none
    | _ => none
  | .str s => match P.underlying T with
    | some .string => if 0 ≤ i then (s[i.toNat]?).map fun c => .int .u8 c.toNat else none
    | _ => none
  | _ => none

def isIface (P : Program) (T : TypeId) : Bool := match P.underlying T with | some (.interface _) => false | some _ => true | none => false

/-- What an operation gives and makes, 'lab' the label of a new block. -/
def xop (P : Program) (G : List (Nat × List PV)) (o : Oper) (al : Al) (L : Lb) (lab : Nat) : Option (PV × Lb) :=
  match o.op with
  | .move x => (xev G al x).map fun v => (v, [])
  | .assign x => (xev G al x).map fun v => (v, [])
  | .pick c a b => match xev G al c with
    | some p => (xpick p (xev G al a) (xev G al b)).map fun v => (v, [])
    | none => none
  | .binOp op T x y _ => match xev G al x, xev G al y with
    | some a, some b => (xbin P op T x y a b).map fun v => (v, [])
    | _, _ => none
  | .unOp op _ x => match xev G al x with
    | some a => (xun op a).map fun v => (v, [])
    | none => none
  | .convert s t x => match xev G al x with
    | some a => (xconv P s t a).map fun v => (v, [])
    | none => none
  | .load T p => match xev G al p with
    | some q => (xload P T L q).map fun v => (v, [])
    | none => none
  | .store T p v => match o.dst, xev G al p, xev G al v, P.info? T with
    | none, some (.ptr l off), some x, some i => match lget L l with
      | some (some cells) => if (pcells x).length = i.size ∧ (pcells x).all PV.one = true ∧ off + i.size ≤ cells.length ∧ 0 < i.size then some (.dead, [(l, some (splice cells off (pcells x)))]) else none
      | _ => none
    | _, _, _, _ => none
  | .box _ x => match xev G al x with
    | some v => if (pcells v).all PV.one = true then some (.ptr lab 0, [(lab, some (pcells v))]) else none
    | none => none
  | .alloc T => (zcells P T).map fun z => (.ptr lab 0, [(lab, some z)])
  | .build T ps => match xparts G al ps.toList with
    | some qs => (xbuild P T qs).map fun c => (.agg c, [])
    | none => none
  | .buildSlice T len ps => match xparts G al ps.toList with
    | some qs => (xbuildSlice P T len qs).map fun c => (.rw lab 0 len c.2 (some len), [(lab, some c.1)])
    | none => none
  | .fieldAddr S x f => match xev G al x, xoff P S f with
    | some p, some (k, _, _) => (xfieldAddr k p).map fun v => (v, [])
    | _, _ => none
  | .field S x f => match xev G al x, xoff P S f with
    | some (.agg cells), some (k, T, _) => (xpart P T cells k).map fun v => (v, [])
    | _, _ => none
  | .extract x i => match xev G al x with
    | some (.tup vs) => (vs[i]?).map fun v => (v, [])
    | _ => none
  | .makeFunc (.func f) first caps => if first.size = 0 then (xevs G al caps.toList).map fun c => (.fn f c, []) else none
  | .makeInterface T x => if isIface P T then (xev G al x).map fun v => (.iface T v, []) else none
  | .nilCheck x => match xev G al x with
    | some p => if xnil p = true then some (p, []) else none
    | none => none
  | .indexAddr T x i => match xev G al x, xev G al i with
    | some p, some (.int _ k) => (xidx P T p k).map fun v => (v, [])
    | _, _ => none
  | .index T x i => match xev G al x, xev G al i with
    | some p, some (.int _ k) => (xindex P T k p).map fun v => (v, [])
    | _, _ => none
  | .call ⟨.builtin b, args, ts⟩ => match b, xevs G al args.toList with
    | .len, some [p] => match ts.toList with
      | [t] => if lenTy P t p = true then (match xlen p with | some m => some (.int .i64 (m : Int), []) | none => none) else
        match P.underlying t with
        | some (.array n _) => some (.int .i64 n, [])
        | some (.pointer u) => match P.underlying u with
          | some (.array n _) => some (.int .i64 n, [])
          | _ => none
        | _ => none
      | _ => none
    | .min, some (.int k m :: r) => (xmins false k m r).map fun q => (.int k q, [])
    | .max, some (.int k m :: r) => (xmins true k m r).map fun q => (.int k q, [])
    | _, _ => none
  | _ => none

theorem xevs_one {G : List (Nat × List PV)} {al : Al} {args : Array Operand} {p : PV} (h : xevs G al args.toList = some [p]) : ∃ x, args = #[x] ∧ xev G al x = some p := by
  obtain ⟨l⟩ := args
  cases l with
  | nil => simp [xevs] at h
  | cons x r =>
    cases r with
    | nil => simp only [xevs] at h; cases hx : xev G al x <;> simp [hx] at h; exact ⟨x, rfl, by rw [hx, h]⟩
    | cons y r =>
      simp only [xevs] at h
      cases hx : xev G al x <;> cases hy : xev G al y <;> cases hr : xevs G al r <;> simp [hx, hy, hr] at h

theorem array_nil {α : Type} {a : Array α} (h : a.size = 0) : a = #[] := by
  obtain ⟨l⟩ := a
  simp at h; subst h; rfl

theorem xop_ok {E : Env} {o : Oper} {al : Al} {L : Lb} {lab : Nat} {x : PV} {wl : Lb} (hlab : lget L lab = none) (h : xop E.P E.G o al L lab = some (x, wl)) : AOp E o al L x wl := by
  obtain ⟨d, op, ty, pos, after, g⟩ := o
  unfold xop at h
  split at h
  all_goals first
    | (simp at h; done)
    | (rename_i hop; simp only at hop; subst hop)
  · simp at h; obtain ⟨v, h1, rfl, rfl⟩ := h; exact AOp_move h1
  · simp at h; obtain ⟨v, h1, rfl, rfl⟩ := h; exact AOp_assign h1
  · split at h
    · rename_i p hp; simp at h; obtain ⟨v, h1, rfl, rfl⟩ := h; exact AOp_pick hp h1
    · simp at h
  · split at h
    · rename_i p q hp hq; simp at h; obtain ⟨v, h1, rfl, rfl⟩ := h; exact AOp_binOp hp hq h1
    · simp at h
  · split at h
    · rename_i p hp; simp at h; obtain ⟨v, h1, rfl, rfl⟩ := h; exact AOp_unOp hp h1
    · simp at h
  · split at h
    · rename_i p hp; simp at h; obtain ⟨v, h1, rfl, rfl⟩ := h; exact AOp_convert hp h1
    · simp at h
  · split at h
    · rename_i p hp; simp at h; obtain ⟨v, h1, rfl, rfl⟩ := h; exact AOp_load hp h1
    · simp at h
  · split at h
    · rename_i l off y i hd hp hv hi
      simp only at hd; subst hd
      split at h
      · rename_i cells hc
        split at h
        · rename_i hh; simp at h; obtain ⟨rfl, rfl⟩ := h
          exact AOp_store hp hv hc hi hh.1 hh.2.1 hh.2.2.1 hh.2.2.2
        · simp at h
      · simp at h
    · simp at h
  · split at h
    · rename_i v hv
      split at h
      · rename_i hh; simp at h; obtain ⟨rfl, rfl⟩ := h; exact AOp_box lab hv hh hlab
      · simp at h
    · simp at h
  · simp at h; obtain ⟨z, hz, rfl, rfl⟩ := h; exact AOp_alloc lab hz hlab
  · split at h
    · rename_i qs hq; simp at h; obtain ⟨c, hc, rfl, rfl⟩ := h; exact AOp_build hq hc
    · simp at h
  · split at h
    · rename_i qs hq; simp at h; obtain ⟨c, sz, hc, rfl, rfl⟩ := h; exact AOp_buildSlice lab hq hc hlab
    · simp at h
  · split at h
    · rename_i p k T sz hp ho; simp at h; obtain ⟨v, h1, rfl, rfl⟩ := h; exact AOp_fieldAddr hp ho h1
    · simp at h
  · split at h
    · rename_i cells k T sz hp ho; simp at h; obtain ⟨v, h1, rfl, rfl⟩ := h; exact AOp_field hp ho h1
    · simp at h
  · split at h
    · rename_i vs hv; simp at h; obtain ⟨v, h1, rfl, rfl⟩ := h; exact AOp_extract hv h1
    · simp at h
  · split at h
    · rename_i hs
      have := array_nil hs; subst this
      simp at h; obtain ⟨c, h1, rfl, rfl⟩ := h; exact AOp_makeFunc h1
    · simp at h
  · split at h
    · rename_i hi; simp at h; obtain ⟨v, h1, rfl, rfl⟩ := h; exact AOp_makeInterface h1 hi
    · simp at h
  · split at h
    · rename_i p hp
      split at h
      · rename_i hn; simp at h; obtain ⟨rfl, rfl⟩ := h; exact AOp_nilCheck hp hn
      · simp at h
    · simp at h
  · split at h
    · rename_i p k i hp hi
      simp at h; obtain ⟨v, h1, rfl, rfl⟩ := h
      unfold xidx at h1
      split at h1
      · rename_i n e hu
        split at h1
        · rename_i ie hie
          split at h1
          · rename_i hh; exact AOp_indexAddrA hp hi hu hie hh.1 hh.2 h1
          · simp at h1
        · simp at h1
      · rename_i e hu
        split at h1
        · rename_i ie n hie hn
          split at h1
          · rename_i hh; exact AOp_indexAddr hp hi hu hie hn hh.1 hh.2 h1
          · simp at h1
        · simp at h1
      · simp at h1
    · simp at h
  · split at h
    · rename_i p k i hp hi
      simp at h; obtain ⟨v, h1, rfl, rfl⟩ := h
      unfold xindex at h1
      split at h1
      · split at h1
        · rename_i n e hu
          split at h1
          · rename_i ie hie
            split at h1
            · rename_i hh; exact AOp_indexArr hp hi hu hie hh.1 hh.2 h1
            · simp at h1
          · simp at h1
        · simp at h1
      · split at h1
        · rename_i hu
          split at h1
          · rename_i h0
            simp at h1; obtain ⟨c, hc, rfl⟩ := h1
            exact AOp_indexStr hp hi hu h0 hc
          · simp at h1
        · simp at h1
      · simp at h1
    · simp at h
  · rename_i b args ts
    split at h
    · rename_i p hp
      obtain ⟨xo, rfl, hx⟩ := xevs_one hp
      split at h
      · rename_i t ht
        have : ts = #[t] := by obtain ⟨l⟩ := ts; simp at ht; subst ht; rfl
        subst this
        split at h
        · rename_i hl
          split at h
          · rename_i m hm; simp at h; obtain ⟨rfl, rfl⟩ := h; exact AOp_len hx hm hl
          · simp at h
        · split at h
          · rename_i n e hu; simp at h; obtain ⟨rfl, rfl⟩ := h; exact AOp_lenArray hu
          · rename_i u hu
            split at h
            · rename_i n e hu2; simp at h; obtain ⟨rfl, rfl⟩ := h; exact AOp_lenArrayPtr hu hu2
            · simp at h
          · simp at h
      · simp at h
    · rename_i k m r hp; simp at h; obtain ⟨q, hq, rfl, rfl⟩ := h; exact AOp_min hp hq
    · rename_i k m r hp; simp at h; obtain ⟨q, hq, rfl, rfl⟩ := h; exact AOp_max hp hq
    · simp at h

/-- A label that no block has. -/
def freshL : Lb → Nat
  | [] => 0
  | (k, _) :: r => max (k + 1) (freshL r)

theorem freshL_ok : ∀ (L : Lb) (l : Nat), freshL L ≤ l → lget L l = none
  | [], l, _ => rfl
  | (k, y) :: r, l, h => by
    simp only [freshL] at h
    simp only [lget]
    rw [if_neg (by omega)]
    exact freshL_ok r l (by omega)

def dstOK (n : Nat) : Option Tmp → Bool
  | some t => decide (t < n)
  | none => true

/-- So many operations, one after the other. -/
def xrun (P : Program) (G : List (Nat × List PV)) (n : Nat) (ops : Array Oper) : Nat → List Oper → Al → Lb → Option (Al × Lb)
  | 0, _, al, L => some (al, L)
  | _ + 1, [], al, L => none
  | k + 1, o :: rest, al, L =>
    match wants ops al o with
    | some true => match xop P G o al L (freshL L) with
      | some (x, wl) => if dstOK n o.dst = true then xrun P G n ops k rest (oset o.dst x al) (lupd L wl) else none
      | none => none
    | some false => if dstOK n o.dst = true then xrun P G n ops k rest (oset o.dst .dead al) L else none
    | none => none

theorem dstOK_ok {n : Nat} {d : Option Tmp} (h : dstOK n d = true) : ∀ t, d = some t → t < n := by
  intro t ht; subst ht; simpa [dstOK] using h

theorem AWl_xrun {E : Env} {K : Nat → Prop} {n : Nat} {ops : Array Oper} {Q : Exit → Al → Lb → Prop} : ∀ (k : Nat) (rest : List Oper) (al : Al) (L : Lb) (al' : Al) (L' : Lb), xrun E.P E.G n ops k rest al L = some (al', L') →
    AWl E K n ops (rest.drop k) Q al' L' → AWl E K n ops rest Q al L
  | 0, rest, al, L, al', L', h, hk => by
    simp [xrun] at h; obtain ⟨rfl, rfl⟩ := h; exact hk
  | k + 1, [], al, L, al', L', h, hk => by simp [xrun] at h
  | k + 1, o :: rest, al, L, al', L', h, hk => by
    simp only [xrun] at h
    split at h
    · rename_i hw
      split at h
      · rename_i x wl hx
        split at h
        · rename_i hd
          refine AWl_op (xop_ok (freshL_ok L _ (Nat.le_refl _)) hx) (dstOK_ok hd) (fun _ _ h => h) (fun _ _ h => h) ?_ hw (AWl_xrun k rest _ _ al' L' h hk)
          intro p hp
          by_cases hn : lget L p.1 = none
          · exact .inr hn
          · exact .inl hn
        · simp at h
      · simp at h
    · rename_i hw
      split at h
      · rename_i hd; exact AWl_skip hw (dstOK_ok hd) (AWl_xrun k rest _ _ al' L' h hk)
      · simp at h
    · simp at h

/-- A whole region that runs by itself; of the slots those that are still wanted. -/
def keepS (ts : List Nat) (al : Al) : Al := ts.filterMap fun t => (lget al t).map fun x => (t, x)

theorem AW_reg {E : Env} {K : Nat → Prop} {n : Nat} {id : Nat} {ops : Array Oper} {Q : Exit → Al → Lb → Prop} {al : Al} {L : Lb} {al' : Al} {L' : Lb} (h : xrun E.P E.G n ops ops.size ops.toList al L = some (al', L')) (hq : Q .normal al' L') :
    AW E K n (.region id ops false) Q al L :=
  AW_region (AWl_xrun ops.size ops.toList al L al' L' h (by rw [List.drop_of_length_le (by simp)]; exact AWl_nil hq))

end Go.SH
