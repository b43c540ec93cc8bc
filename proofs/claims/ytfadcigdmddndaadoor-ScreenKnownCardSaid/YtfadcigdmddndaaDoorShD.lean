/- Comparing values, and the operations on numbers, truth values and texts. -/
import Derived.Test.YtfadcigdmddndaaDoorShC
set_option linter.unusedVariables false
set_option linter.unusedSimpArgs false
namespace Go.SH

/-- A value told by its cells. -/
def VC (w : World) (σ : Sig) (av : Nat → Prop) (row : Bool) (xs : List PV) (v : Value) : Prop :=
  (row = true ∧ ∃ cs : List Value, v = .agg cs.toArray ∧ xs.length = cs.length ∧ ∀ (i : Nat) (x : PV) (u : Value), xs[i]? = some x → cs[i]? = some u → VR w σ av x u) ∨
  (row = false ∧ ∃ x, xs = [x] ∧ VR w σ av x v)

theorem part_ok {P : Program} {w : World} {σ : Sig} {av : Nat → Prop} {T : TypeId} {i : TypeInfo} {b : Bool} (hi : P.info? T = some i) (hr : rowOf P T = some b) {xs : List PV} {cs : List Value} (hl : xs.length = cs.length)
    (hv : ∀ (i : Nat) (x : PV) (u : Value), xs[i]? = some x → cs[i]? = some u → VR w σ av x u) (off : Nat) (hone : b = false → ∃ x, (xs.drop off).take i.size = [x]) :
    ∃ v, (part T cs.toArray off).run P w = .ok v w ∧ VC w σ av b ((xs.drop off).take i.size) v := by
  cases b with
  | true =>
    refine ⟨.agg ((cs.drop off).take i.size).toArray, ?_, .inl ⟨rfl, _, rfl, by simp [hl], ?_⟩⟩
    · simp [part, run_isAgg hr, run_sizeOf' hi, List.take_drop]
    · intro j x u hx hu
      rw [List.getElem?_take] at hx hu
      split at hx
      · rename_i hj
        rw [if_pos hj] at hu
        rw [List.getElem?_drop] at hx hu
        exact hv _ x u hx hu
      · simp at hx
  | false =>
    obtain ⟨x, hx⟩ := hone rfl
    have hx0 : xs[off]? = some x := by
      have : ((xs.drop off).take i.size)[0]? = some x := by rw [hx]; rfl
      rw [List.getElem?_take] at this
      split at this
      · rw [List.getElem?_drop] at this; simpa using this
      · simp at this
    have hlt : off < cs.length := by rw [← hl]; exact (List.getElem?_eq_some_iff.1 hx0).1
    refine ⟨cs[off], ?_, .inr ⟨rfl, x, hx, hv off x _ hx0 (List.getElem?_eq_getElem hlt)⟩⟩
    simp [part, run_isAgg hr, hlt]

def xeqF (P : Program) (rec : TypeId → List PV → List PV → Option Bool) (xs ys : List PV) : List Field → Option Bool
  | [] => some true
  | f :: fs =>
    if f.name ≠ "_" then
      match P.info? f.type with
      | some i => match rec f.type ((xs.drop f.offset).take i.size) ((ys.drop f.offset).take i.size), xeqF P rec xs ys fs with
        | some b, some c => some (b && c)
        | _, _ => none
      | none => none
    else xeqF P rec xs ys fs

def xeqA (rec : List PV → List PV → Option Bool) (sz : Nat) (xs ys : List PV) : List Nat → Option Bool
  | [] => some true
  | j :: js => match rec ((xs.drop (j * sz)).take sz) ((ys.drop (j * sz)).take sz), xeqA rec sz xs ys js with
    | some b, some c => some (b && c)
    | _, _ => none

/-- '==' of two values of a type, told by their cells. -/
def xeq (P : Program) : Nat → TypeId → List PV → List PV → Option Bool
  | 0, _, _, _ => none
  | d + 1, T, xs, ys =>
    match P.underlying T with
    | some (.struct fs) => if P.stoodInHeld T then none else xeqF P (xeq P d) xs ys fs.toList
    | some (.array n e) => match P.info? e with
      | some i => xeqA (xeq P d e) i.size xs ys (List.range n)
      | none => none
    | some .bool => match xs, ys with
      | [.bool a], [.bool b] => some (a == b)
      | _, _ => none
    | some (.int _) => match xs, ys with
      | [.int k a], [.int k' b] => if k = k' then some (a == b) else none
      | _, _ => none
    | some .string => match xs, ys with
      | [.str a], [.str b] => some (a == b)
      | _, _ => none
    | some (.pointer _) => match xs, ys with
      | [.nilp], [.nilp] => some true
      | [.nilp], [.ptr _ _] => some false
      | [.nilp], [.rop _ _] => some false
      | [.ptr _ _], [.nilp] => some false
      | [.rop _ _], [.nilp] => some false
      | _, _ => none
    | some (.slice _) => match xs, ys with
      | [.nils], [.nils] => some true
      | _, _ => none
    | some (.func _ _ _) => match xs, ys with
      | [.nilf], [.nilf] => some true
      | [.fn _ _], [.nilf] => some false
      | _, _ => none
    | some (.interface _) => match xs, ys with
      | [.nili], [.nili] => some true
      | [.iface _ _], [.nili] => some false
      | [.nili], [.iface _ _] => some false
      | _, _ => none
    | _ => none

theorem xeq_row {P : Program} {d : Nat} {T : TypeId} {xs ys : List PV} {b : Bool} (h : xeq P (d + 1) T xs ys = some b) : ∃ r, rowOf P T = some r ∧ (r = false → (∃ x, xs = [x]) ∧ ∃ y, ys = [y]) := by
  unfold xeq at h
  unfold rowOf
  split at h <;> rename_i hu <;> (try rw [hu])
  · exact ⟨true, rfl, by simp⟩
  · exact ⟨true, rfl, by simp⟩
  all_goals first
    | (split at h <;> first | exact ⟨false, rfl, fun _ => ⟨⟨_, rfl⟩, ⟨_, rfl⟩⟩⟩ | simp at h)
    | simp at h

theorem str_beq (a b : List UInt8) : ((⟨⟨a⟩⟩ : ByteArray).toList == (⟨⟨b⟩⟩ : ByteArray).toList) = (a == b) := by
  rw [ByteArray.toList_eq, ByteArray.toList_eq]

theorem xeq_ok {P : Program} {w : World} {σ : Sig} {av : Nat → Prop} : ∀ (d D : Nat), d ≤ D → ∀ {T : TypeId} {xs ys : List PV} {b r : Bool} {u v : Value}, xeq P d T xs ys = some b → rowOf P T = some r →
    VC w σ av r xs u → VC w σ av r ys v → (Op.equalIn D T u v).run P w = .ok b w
  | 0, _, _, _, _, _, _, _, _, _, h, _, _, _ => by simp [xeq] at h
  | d + 1, 0, hD, _, _, _, _, _, _, _, _, _, _, _ => by omega
  | d + 1, D + 1, hD, T, xs, ys, b, r, u, v, h, hr, hx, hy => by
    have hd : d ≤ D := by omega
    unfold xeq at h
    split at h <;> rename_i hu
    · -- struct
      rename_i fs
      have : r = true := by simpa [rowOf, hu] using hr.symm
      subst this
      rcases hx with ⟨_, cs, rfl, hlx, hvx⟩ | ⟨h0, _⟩
      rcases hy with ⟨_, cs', rfl, hly, hvy⟩ | ⟨h0, _⟩
      · split at h
        · simp at h
        · rename_i hs
          have hf : P.fieldsOf T = fs := by simp [Program.fieldsOf, hu]
          rw [run_equalIn_struct w D T _ _ (by rw [hf]; exact hu) (by simpa using hs), hf]
          generalize fs.toList = l at h
          clear hf hu hs
          induction l generalizing b with
          | nil => simp [xeqF] at h; subst h; simp [Op.eqFields]
          | cons f fs' ih =>
            simp only [xeqF] at h
            simp only [Op.eqFields]
            split at h
            · rename_i hn
              rw [if_pos hn]
              split at h
              · rename_i i hi
                split at h
                · rename_i b1 c1 hb hc
                  simp at h; subst h
                  cases d with
                  | zero => simp [xeq] at hb
                  | succ d =>
                  obtain ⟨r1, hr1, hone⟩ := xeq_row hb
                  obtain ⟨p, hp, hpv⟩ := part_ok (P := P) hi hr1 hlx hvx f.offset (fun h => (hone h).1)
                  obtain ⟨q, hq, hqv⟩ := part_ok (P := P) hi hr1 hly hvy f.offset (fun h => (hone h).2)
                  have he := xeq_ok (d + 1) D hd hb hr1 hpv hqv
                  simp only [Sem.run_bind, hp, hq, he, Result.andThen_ok]
                  cases b1
                  · simp
                  · simpa using ih _ hc
                · simp at h
              · simp at h
            · rename_i hn
              rw [if_neg hn]
              exact ih _ h
      · simp at h0
      · simp at h0
    · -- array
      rename_i n e
      have : r = true := by simpa [rowOf, hu] using hr.symm
      subst this
      rcases hx with ⟨_, cs, rfl, hlx, hvx⟩ | ⟨h0, _⟩
      rcases hy with ⟨_, cs', rfl, hly, hvy⟩ | ⟨h0, _⟩
      · split at h
        · rename_i i hi
          rw [run_equalIn_array w D _ _ hu hi]
          have hsz : P.cellsOf e = i.size := by simp [Program.cellsOf, hi]
          rw [hsz]
          generalize List.range n = l at h
          clear hu
          induction l generalizing b with
          | nil => simp [xeqA] at h; subst h; simp [Op.eqItems]
          | cons j js ih =>
            simp only [xeqA] at h
            simp only [Op.eqItems]
            split at h
            · rename_i b1 c1 hb hc
              simp at h; subst h
              cases d with
              | zero => simp [xeq] at hb
              | succ d =>
              obtain ⟨r1, hr1, hone⟩ := xeq_row hb
              obtain ⟨p, hp, hpv⟩ := part_ok (P := P) hi hr1 hlx hvx (j * i.size) (fun h => (hone h).1)
              obtain ⟨q, hq, hqv⟩ := part_ok (P := P) hi hr1 hly hvy (j * i.size) (fun h => (hone h).2)
              have he := xeq_ok (d + 1) D hd hb hr1 hpv hqv
              simp only [Sem.run_bind, hp, hq, he, Result.andThen_ok]
              cases b1
              · simp
              · simpa using ih _ hc
            · simp at h
        · simp at h
      · simp at h0
      · simp at h0
    all_goals try (simp at h; done)
    all_goals
      have : r = false := by simpa [rowOf, hu] using hr.symm
      subst this
      rcases hx with ⟨h0, _⟩ | ⟨_, x, rfl, hxv⟩
      · simp at h0
      rcases hy with ⟨h0, _⟩ | ⟨_, y, rfl, hyv⟩
      · simp at h0
      split at h
    all_goals try (simp at h; done)
    all_goals (rename_i e1 e2; simp only [List.cons.injEq, and_true] at e1 e2; subst e1; subst e2)
    · cases hxv; cases hyv; simp at h; subst h; exact run_equalIn_bool' w D T _ _ hu
    · cases hxv; cases hyv
      split at h
      · rename_i hk; subst hk; simp at h; subst h; exact run_equalIn_int w D T _ _ _ _ hu
      · simp at h
    · cases hxv; cases hyv; simp at h; subst h; rw [run_equalIn_string w D T _ _ hu, str_beq]
    all_goals (simp at h; subst h; cases hxv; cases hyv; simp [Op.equalIn, run_underlying hu])

end Go.SH
