/- Fields, elements, lengths, pieces, and other plain operations. -/
import Derived.Test.YtfadcigdmddndaaDoorShH
set_option linter.unusedVariables false
set_option linter.unusedSimpArgs false
namespace Go.SH

def xevs (G : List (Nat × List PV)) (al : Al) : List Operand → Option (List PV)
  | [] => some []
  | o :: r => match xev G al o, xevs G al r with
    | some x, some xs => some (x :: xs)
    | _, _ => none

theorem xevs_ok {E : Env} {A : Nat → Prop} {w : World} {σ : Sig} {al : Al} {L : Lb} {a : Act} (r : Rel E A w σ al L a) {ra : Al} (h1 : ∀ t y, lget ra t = some y → lget al t = some y) :
    ∀ (os : List Operand) (xs : List PV), xevs E.G ra os = some xs → xs.length = (os.map a.eval).length ∧
      ∀ (j : Nat) (x : PV) (v : Value), xs[j]? = some x → (os.map a.eval)[j]? = some v → VR w σ (avo A σ L) x v
  | [], xs, h => by simp [xevs] at h; subst h; simp
  | o :: os, xs, h => by
    simp only [xevs] at h
    split at h
    · rename_i x ys h2 h3
      simp at h; subst h
      obtain ⟨e1, e2⟩ := xevs_ok r h1 os ys h3
      refine ⟨by simp [e1], fun j p v hp hv => ?_⟩
      cases j with
      | zero => simp at hp hv; subst hp; subst hv; exact xev_ok r h1 h2
      | succ j => exact e2 j p v (by simpa using hp) (by simpa using hv)
    · simp at h

section
variable {E : Env} {d : Option Tmp} {ty : TypeId} {pos : String} {after : Array Edge} {g : Option (Nat × Bool)} {ra : Al} {rl : Lb}

theorem addr_add (β o k : Nat) : (⟨β, o, none⟩ : Addr).add k = ⟨β, o + k, none⟩ := by unfold Addr.add; split <;> simp_all

/-- Where field f of a struct type lies. -/
def xoff (P : Program) (S : TypeId) (f : Nat) : Option (Nat × TypeId × Nat) :=
  match P.underlying S with
  | some (.struct fields) => match fields[f]? with
    | some fl => match P.info? fl.type with
      | some i => if i.size = 0 then none else some (fl.offset, fl.type, i.size)
      | none => none
    | none => none
  | _ => none

def xfieldAddr (o : Nat) : PV → Option PV
  | .ptr l off => some (.ptr l (off + o))
  | .rop cells off => some (.rop cells (off + o))
  | _ => none

theorem AOp_fieldAddr {S : TypeId} {x : Operand} {f o : Nat} {T : TypeId} {sz : Nat} {p q : PV} (hx : xev E.G ra x = some p) (ho : xoff E.P S f = some (o, T, sz)) (hq : xfieldAddr o p = some q) :
    AOp E ⟨d, .fieldAddr S x f, ty, pos, after, g⟩ ra rl q [] := by
  refine AOp_val fun A w σ al L a r h1 h2 => ?_
  have hv := xev_ok r h1 hx
  unfold xoff at ho
  split at ho
  · rename_i fields hu
    split at ho
    · rename_i fl hf
      split at ho
      · rename_i i hi
        split at ho
        · simp at ho
        · rename_i hz
          simp at ho; obtain ⟨rfl, rfl, rfl⟩ := ho
          unfold xfieldAddr at hq
          split at hq <;> simp at hq <;> subst hq
          all_goals
            generalize he : a.eval x = v at hv
            cases hv
          · rename_i l off β add size hs
            refine ⟨.pointer (some ⟨β, add + (off + fl.offset), none⟩), ?_, .ptr hs⟩
            simp [execOp, Instr.fieldAt, run_underlying hu, hf, he, Instr.sureAddr, fieldPlace, run_sizeOf' hi, hz, addr_add, Nat.add_assoc]
          · rename_i cells off β add cs him hl hvv
            refine ⟨.pointer (some ⟨β, add + (off + fl.offset), none⟩), ?_, .rop cs him hl hvv⟩
            simp [execOp, Instr.fieldAt, run_underlying hu, hf, he, Instr.sureAddr, fieldPlace, run_sizeOf' hi, hz, addr_add, Nat.add_assoc]
      · simp at ho
    · simp at ho
  · simp at ho

/-- A part of a struct or an array that is at hand. -/
def xpart (P : Program) (T : TypeId) (cells : List PV) (o : Nat) : Option PV :=
  match P.info? T, rowOf P T with
  | some i, some true => if o + i.size ≤ cells.length then some (.agg ((cells.drop o).take i.size)) else none
  | some _, some false => cells[o]?
  | _, _ => none

theorem xpart_ok {P : Program} {w : World} {σ : Sig} {av : Nat → Prop} {T : TypeId} {cells : List PV} {o : Nat} {x : PV} (h : xpart P T cells o = some x) {cs : List Value} (hl : cells.length = cs.length)
    (hv : ∀ (i : Nat) (x : PV) (u : Value), cells[i]? = some x → cs[i]? = some u → VR w σ av x u) : ∃ v, (part T cs.toArray o).run P w = .ok v w ∧ VR w σ av x v := by
  unfold xpart at h
  split at h
  · rename_i i hi hr
    split at h
    · rename_i hle
      simp at h; subst h
      obtain ⟨v, h1, h2⟩ := part_ok (P := P) hi hr hl hv o (by simp)
      rcases h2 with ⟨_, cs', rfl, h3, h4⟩ | ⟨h0, _⟩
      · exact ⟨_, h1, .agg cs' h3 h4⟩
      · simp at h0
    · simp at h
  · rename_i i hi hr
    have hlt : o < cs.length := by rw [← hl]; exact (List.getElem?_eq_some_iff.1 h).1
    exact ⟨cs[o], by simp [part, run_isAgg hr, hlt], hv o x _ h (List.getElem?_eq_getElem hlt)⟩
  · simp at h

theorem AOp_field {S : TypeId} {x : Operand} {f o : Nat} {T : TypeId} {sz : Nat} {cells : List PV} {q : PV} (hx : xev E.G ra x = some (.agg cells)) (ho : xoff E.P S f = some (o, T, sz)) (hq : xpart E.P T cells o = some q) :
    AOp E ⟨d, .field S x f, ty, pos, after, g⟩ ra rl q [] := by
  refine AOp_val fun A w σ al L a r h1 h2 => ?_
  have hv := xev_ok r h1 hx
  unfold xoff at ho
  split at ho
  · rename_i fields hu
    split at ho
    · rename_i fl hf
      split at ho
      · rename_i i hi
        split at ho
        · simp at ho
        · rename_i hz
          simp at ho; obtain ⟨rfl, rfl, rfl⟩ := ho
          generalize he : a.eval x = v at hv
          cases hv with
          | agg cs hl hvv =>
          obtain ⟨u, h3, h4⟩ := xpart_ok hq hl hvv
          exact ⟨u, by simp [execOp, Instr.field, run_underlying hu, hf, he, asAgg, h3], h4⟩
      · simp at ho
    · simp at ho
  · simp at ho

theorem AOp_extract {x : Operand} {i : Nat} {vs : List PV} {q : PV} (hx : xev E.G ra x = some (.tup vs)) (hq : vs[i]? = some q) : AOp E ⟨d, .extract x i, ty, pos, after, g⟩ ra rl q [] := by
  refine AOp_val fun A w σ al L a r h1 h2 => ?_
  have hv := xev_ok r h1 hx
  generalize he : a.eval x = v at hv
  cases hv with
  | tup cs hl hvv =>
    have hlt : i < cs.length := by rw [← hl]; exact (List.getElem?_eq_some_iff.1 hq).1
    exact ⟨cs[i], by simp [execOp, Instr.extract, he, hlt], hvv i q _ hq (List.getElem?_eq_getElem hlt)⟩

theorem AOp_makeFunc {f : FuncId} {caps : Array Operand} {xs : List PV} (hx : xevs E.G ra caps.toList = some xs) : AOp E ⟨d, .makeFunc (.func f) #[] caps, ty, pos, after, g⟩ ra rl (.fn f xs) [] := by
  refine AOp_val fun A w σ al L a r h1 h2 => ?_
  obtain ⟨e1, e2⟩ := xevs_ok r h1 _ _ hx
  refine ⟨.func (.func f) #[] (caps.map a.eval), by simp [execOp, Instr.makeFunc], ?_⟩
  have e : (caps.toList.map a.eval).toArray = caps.map a.eval := by apply Array.ext'; simp
  exact e ▸ VR.fn f (caps.toList.map a.eval) e1 e2

theorem AOp_makeInterface {T : TypeId} {x : Operand} {p : PV} (hx : xev E.G ra x = some p) (hT : (match E.P.underlying T with | some (.interface _) => false | some _ => true | none => false) = true) :
    AOp E ⟨d, .makeInterface T x, ty, pos, after, g⟩ ra rl (.iface T p) [] := by
  refine AOp_val fun A w σ al L a r h1 h2 => ⟨.iface T (a.eval x), ?_, .iface T _ (xev_ok r h1 hx)⟩
  split at hT
  · simp at hT
  · rename_i dd hn hu
    simp only [execOp, Instr.makeInterface, Sem.run_bind, run_underlying hu, Result.andThen_ok]
    simp
  · simp at hT

def xnil : PV → Bool
  | .ptr _ _ => true
  | .rop _ _ => true
  | .fn _ _ => true
  | _ => false

theorem AOp_nilCheck {x : Operand} {p : PV} (hx : xev E.G ra x = some p) (h : xnil p = true) : AOp E ⟨d, .nilCheck x, ty, pos, after, g⟩ ra rl p [] := by
  refine AOp_val fun A w σ al L a r h1 h2 => ?_
  have hv := xev_ok r h1 hx
  generalize he : a.eval x = v at hv
  cases hv <;> simp [xnil] at h
  all_goals refine ⟨a.eval x, by simp [execOp, he], ?_⟩; rw [he]
  · rename_i hs; exact .ptr hs
  · rename_i cs him hl hvv; exact .rop cs him hl hvv
  · rename_i caps f cs hl hvv; exact .fn f cs hl hvv

/-- A number as another kind of number; a text as a text. -/
def xconv (P : Program) (src dst : TypeId) : PV → Option PV
  | .int _ n => match P.underlying src, P.underlying dst with
    | some _, some (.int k) => some (.int k (k.wrap n))
    | _, _ => none
  | .str s => match P.underlying src, P.underlying dst with
    | some .string, some .string => some (.str s)
    | _, _ => none
  | _ => none

theorem AOp_convert {s t : TypeId} {x : Operand} {p q : PV} (hx : xev E.G ra x = some p) (h : xconv E.P s t p = some q) : AOp E ⟨d, .convert s t x, ty, pos, after, g⟩ ra rl q [] := by
  refine AOp_val fun A w σ al L a r h1 h2 => ?_
  have hv := xev_ok r h1 hx
  unfold xconv at h
  split at h
  · split at h
    · rename_i e1 e2
      simp at h; subst h
      generalize he : a.eval x = v at hv
      cases hv
      exact ⟨_, by simp [execOp, convert, he, run_underlying e1, run_underlying e2, Conv.intToInt], .int _ _⟩
    · simp at h
  · split at h
    · rename_i e1 e2
      simp at h; subst h
      generalize he : a.eval x = v at hv
      cases hv
      exact ⟨_, by simp [execOp, convert, he, run_underlying e1, run_underlying e2], .str _⟩
    · simp at h
  · simp at h

/-! lengths -/
def xlen : PV → Option Nat
  | .str s => some s.length
  | .nils => some 0
  | .ro _ n _ => some n
  | .rw _ _ n _ _ => some n
  | _ => none

def lenTy (P : Program) (t : TypeId) (p : PV) : Bool := match P.underlying t, p with
  | some .string, .str _ => true
  | some (.slice _), .nils => true
  | some (.slice _), .ro _ _ _ => true
  | some (.slice _), .rw _ _ _ _ _ => true
  | _, _ => false

theorem AOp_len {x : Operand} {t : TypeId} {p : PV} {n : Nat} (hx : xev E.G ra x = some p) (hn : xlen p = some n) (ht : lenTy E.P t p = true) :
    AOp E ⟨d, .call ⟨.builtin .len, #[x], #[t]⟩, ty, pos, after, g⟩ ra rl (.int .i64 n) [] := by
  refine AOp_val fun A w σ al L a r h1 h2 => ⟨.int .i64 n, ?_, .int _ _⟩
  have hv := xev_ok r h1 hx
  unfold lenTy at ht
  split at ht <;> rename_i hu <;> first | (simp at ht; done) | skip
  all_goals
    generalize he : a.eval x = v at hv
    cases hv <;> simp [xlen] at hn <;> subst hn <;> simp [execOp, resolve, invoke, builtin, Builtin.len_, run_underlying hu, he, goInt] <;> rfl

theorem AOp_lenArray {x : Operand} {t e : TypeId} {n : Nat} (hu : E.P.underlying t = some (.array n e)) :
    AOp E ⟨d, .call ⟨.builtin .len, #[x], #[t]⟩, ty, pos, after, g⟩ ra rl (.int .i64 n) [] := by
  refine AOp_val fun A w σ al L a r h1 h2 => ⟨.int .i64 n, ?_, .int _ _⟩
  simp [execOp, resolve, invoke, builtin, Builtin.len_, run_underlying hu, goInt]

theorem AOp_lenArrayPtr {x : Operand} {t u e : TypeId} {n : Nat} (hu : E.P.underlying t = some (.pointer u)) (hu2 : E.P.underlying u = some (.array n e)) :
    AOp E ⟨d, .call ⟨.builtin .len, #[x], #[t]⟩, ty, pos, after, g⟩ ra rl (.int .i64 n) [] := by
  refine AOp_val fun A w σ al L a r h1 h2 => ⟨.int .i64 n, ?_, .int _ _⟩
  simp [execOp, resolve, invoke, builtin, Builtin.len_, run_underlying hu, run_underlying hu2, goInt]

/-! least and greatest -/
def xmins (mx : Bool) (k : IntKind) (m : Int) : List PV → Option Int
  | [] => some m
  | .int k' n :: r => if k' = k then xmins mx k (if mx then (if n > m then n else m) else (if n < m then n else m)) r else none
  | _ => none

theorem AOp_min {xs : Array Operand} {ts : Array TypeId} {k : IntKind} {m q : Int} {ps : List PV} (hx : xevs E.G ra xs.toList = some (.int k m :: ps)) (h : xmins false k m ps = some q) :
    AOp E ⟨d, .call ⟨.builtin .min, xs, ts⟩, ty, pos, after, g⟩ ra rl (.int k q) [] := by
  refine AOp_val fun A w σ al L a r h1 h2 => ⟨.int k q, ?_, .int _ _⟩
  obtain ⟨e1, e2⟩ := xevs_ok r h1 _ _ hx
  have key : ∀ (ps : List PV) (vs : List Value) (m q : Int), ps.length = vs.length → (∀ (j : Nat) (x : PV) (v : Value), ps[j]? = some x → vs[j]? = some v → VR w σ (avo A σ L) x v) → xmins false k m ps = some q →
      (vs.foldlM Builtin.min2 (.int k m)).run E.P w = .ok (.int k q) w := by
    intro ps
    induction ps with
    | nil => intro vs m q hl _ h; cases vs with | nil => simp [xmins] at h; subst h; simp | cons _ _ => simp at hl
    | cons p ps ih =>
      intro vs m q hl hv h
      cases vs with
      | nil => simp at hl
      | cons v vs =>
        have h0 := hv 0 p v rfl rfl
        cases h0 <;> simp [xmins] at h
        obtain ⟨hk, h⟩ := h
        subst hk
        simp only [List.foldlM_cons, Sem.run_bind, Builtin.min2, Sem.run_pure, Result.andThen_ok]
        exact ih vs _ q (by simpa using hl) (fun j x v h1 h2 => hv (j + 1) x v (by simpa using h1) (by simpa using h2)) h
  cases hvs : xs.toList.map a.eval with
  | nil => rw [hvs] at e1; simp at e1
  | cons v vs =>
    rw [hvs] at e1 e2
    have h0 := e2 0 _ v rfl rfl
    cases h0
    have := key ps vs m q (by simpa using e1) (fun j x v h1 h2 => e2 (j + 1) x v (by simpa using h1) (by simpa using h2)) h
    have hm : (xs.map a.eval).toList = .int k m :: vs := by simpa using hvs
    simp [execOp, resolve, invoke, builtin, Builtin.min_, hvs, this]

theorem AOp_max {xs : Array Operand} {ts : Array TypeId} {k : IntKind} {m q : Int} {ps : List PV} (hx : xevs E.G ra xs.toList = some (.int k m :: ps)) (h : xmins true k m ps = some q) :
    AOp E ⟨d, .call ⟨.builtin .max, xs, ts⟩, ty, pos, after, g⟩ ra rl (.int k q) [] := by
  refine AOp_val fun A w σ al L a r h1 h2 => ⟨.int k q, ?_, .int _ _⟩
  obtain ⟨e1, e2⟩ := xevs_ok r h1 _ _ hx
  have key : ∀ (ps : List PV) (vs : List Value) (m q : Int), ps.length = vs.length → (∀ (j : Nat) (x : PV) (v : Value), ps[j]? = some x → vs[j]? = some v → VR w σ (avo A σ L) x v) → xmins true k m ps = some q →
      (vs.foldlM Builtin.max2 (.int k m)).run E.P w = .ok (.int k q) w := by
    intro ps
    induction ps with
    | nil => intro vs m q hl _ h; cases vs with | nil => simp [xmins] at h; subst h; simp | cons _ _ => simp at hl
    | cons p ps ih =>
      intro vs m q hl hv h
      cases vs with
      | nil => simp at hl
      | cons v vs =>
        have h0 := hv 0 p v rfl rfl
        cases h0 <;> simp [xmins] at h
        obtain ⟨hk, h⟩ := h
        subst hk
        simp only [List.foldlM_cons, Sem.run_bind, Builtin.max2, Sem.run_pure, Result.andThen_ok]
        exact ih vs _ q (by simpa using hl) (fun j x v h1 h2 => hv (j + 1) x v (by simpa using h1) (by simpa using h2)) h
  cases hvs : xs.toList.map a.eval with
  | nil => rw [hvs] at e1; simp at e1
  | cons v vs =>
    rw [hvs] at e1 e2
    have h0 := e2 0 _ v rfl rfl
    cases h0
    have := key ps vs m q (by simpa using e1) (fun j x v h1 h2 => e2 (j + 1) x v (by simpa using h1) (by simpa using h2)) h
    simp [execOp, resolve, invoke, builtin, Builtin.max_, hvs, this]
end
end Go.SH
