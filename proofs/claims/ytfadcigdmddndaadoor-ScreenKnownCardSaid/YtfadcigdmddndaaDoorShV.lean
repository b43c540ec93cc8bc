/- Further operations; calls that write what is their caller's. -/
import Derived.Test.YtfadcigdmddndaaDoorShU
import Derived.Lib.ConvBytes
set_option linter.unusedVariables false
set_option linter.unusedSimpArgs false
namespace Go.SH

theorem BR.swap {w w' : World} {σ : Sig} {A : Nat → Prop} {L : Lb} (h : BR w σ A L) {l : Nat} {cells : List PV} (hl : lget L l = some (some cells)) {β add size : Nat} {c : Array Value} {T : TypeId} {fr fr' : Nat × Nat}
    (hb : Blk w σ (avo A σ L) l cells β add size c T fr) (hsz : w'.heap.size = w.heap.size) (ho : ∀ k, k ≠ β → w'.heap[k]? = w.heap[k]?) (hw : w'.heap[β]? = some (.cells c T fr')) (hfr : fr'.1 = fr'.2 ∨ size ≤ fr'.1) (hout : w'.os = w.os ∧ w'.output = w.output ∧ w'.tape = w.tape := by first | exact ⟨rfl, rfl, rfl⟩ | assumption) :
    BR w' σ A L ∧ Grow top w σ L w' σ L := by
  have hβ : avOf σ L β := ⟨l, cells, add, size, hl, hb.sig⟩
  have hg : Grow top w σ L w' σ L := ⟨by omega, fun _ _ _ h => h, fun γ hγ hn => ⟨hn, ho γ fun e => hn (e ▸ hβ)⟩, hout⟩
  refine ⟨⟨fun k cs hk => ?_, h.inj, h.dom, fun γ hA => ⟨by rw [hsz]; exact (h.lo γ hA).1, (h.lo γ hA).2⟩⟩, hg⟩
  rcases h.all k cs hk with h1 | ⟨γ, a, s, cc, TT, f, hB⟩
  · exact .inl h1
  · by_cases hγ : γ = β
    · subst hγ
      have e := hB.heap; rw [hb.heap] at e; simp at e
      obtain ⟨rfl, rfl, rfl⟩ := e
      refine .inr ⟨γ, a, s, c, T, fr', ⟨hB.sig, hw, hB.hsz, hB.fits, fun i x hx => let ⟨v, h1, h2⟩ := hB.vals i x hx; ⟨v, h1, h2.grow hg⟩, ?_⟩⟩
      have : s = size := by rw [← hB.hsz, hb.hsz]
      rw [this]; exact hfr
    · exact .inr ⟨γ, a, s, cc, TT, f, ⟨hB.sig, by rw [ho γ hγ]; exact hB.heap, hB.hsz, hB.fits, fun i x hx => let ⟨v, h1, h2⟩ := hB.vals i x hx; ⟨v, h1, h2.grow hg⟩, hB.frs⟩⟩

section
variable {E : Env} {d : Option Tmp} {ty : TypeId} {pos : String} {after : Array Edge} {g : Option (Nat × Bool)} {ra : Al} {rl : Lb}

theorem lupd_same {L : Lb} {l : Nat} {y : Option (List PV)} (h : lget L l = some y) (k : Nat) : lget (lset L l y) k = lget L k := by
  rw [lget_lset]; split
  · rename_i e; subst e; exact h.symm
  · rfl

theorem BR.eqL {w : World} {σ : Sig} {A : Nat → Prop} {L L' : Lb} (h : BR w σ A L) (e : ∀ l, lget L' l = lget L l) : BR w σ A L' ∧ Grow top w σ L w σ L' := by
  have hav : ∀ β, avOf σ L' β ↔ avOf σ L β := avOf_congr e
  have hg : Grow top w σ L w σ L' := ⟨Nat.le_refl _, fun _ _ _ h => h, fun β _ hn => ⟨fun ha => hn ((hav β).1 ha), rfl⟩, rfl, rfl, rfl⟩
  refine ⟨⟨fun l cells hl => ?_, fun l l' c c' β a s a' s' h1 h2 => h.inj l l' c c' β a s a' s' (by rw [← e]; exact h1) (by rw [← e]; exact h2), fun l x hx => by rw [e]; exact h.dom l x hx, fun β hA => ⟨(h.lo β hA).1, fun ha => (h.lo β hA).2 ((hav β).1 ha)⟩⟩, hg⟩
  rw [e] at hl
  rcases h.all l cells hl with h1 | ⟨β, a, s, cc, TT, f, hB⟩
  · exact .inl h1
  · exact .inr ⟨β, a, s, cc, TT, f, ⟨hB.sig, hB.heap, hB.hsz, hB.fits, fun i x hx => let ⟨v, h1, h2⟩ := hB.vals i x hx; ⟨v, h1, h2.grow hg⟩, hB.frs⟩⟩

/-- The mark of a constant's bytes. -/
theorem AOp_mark {t e : TypeId} {x : Operand} {lab off n sz : Nat} {co : Option Nat} {cells : List PV} (hx : xev E.G ra x = some (.rw lab off n sz co)) (hl : lget rl lab = some (some cells)) (ht : E.P.underlying t = some (.slice e)) (he : E.P.underlying e = some (.int .u8)) (hn : n ≠ 0) :
    AOp E ⟨d, .convert t t x, ty, pos, after, g⟩ ra rl (.rw lab off n sz co) [(lab, some cells)] := by
  intro A w σ al L a r e1 e2 _
  have hxv := xev_ok r e1 hx
  have hL := e2 _ _ hl
  generalize hxe : a.eval x = v at hxv
  cases hxv with
  | rwE _ _ => exact absurd rfl hn
  | @rw _ _ _ _ _ β add size cap hs hnc hc hsz =>
    rcases r.blocks.all lab cells hL with ⟨h0, _⟩ | ⟨β', add', size', c, TT, fr, hB⟩
    · rw [hs] at h0; simp at h0
    · have := hB.sig; rw [hs] at this; simp at this
      obtain ⟨rfl, rfl, rfl⟩ := this
      have hsh : w.shape? β = some (TT, c.size) := by unfold World.shape?; rw [hB.heap]
      have hrun : (execOp a.eval ⟨d, .convert t t x, ty, pos, after, g⟩).run E.P w = .ok (.value (.slice (some ⟨β, add + off, none⟩) n cap)) (w.freeze ⟨β, c.size, none⟩ 1) := by
        simp [execOp, hxe, convert, run_underlying ht, run_underlying he, markStringish, hsh]
      unfold Oper.wp
      rw [hrun]
      have hlt : β < w.heap.size := (Array.getElem?_eq_some_iff.1 hB.heap).1
      obtain ⟨lo, hi⟩ := fr
      obtain ⟨b1, b2⟩ := r.blocks.swap hL hB (w' := w.freeze ⟨β, c.size, none⟩ 1) (fr' := if lo == hi then (c.size, c.size + 1) else (min lo c.size, max hi (c.size + 1))) (by simp [World.freeze])
        (fun k hk => by simp [World.freeze, Array.getElem?_modify, Ne.symm hk]) (by simp [World.freeze, Array.getElem?_modify, hB.heap]) (by
          have h1 := hB.hsz
          rcases hB.frs with h | h
          · simp at h; subst h; simp; omega
          · simp at h
            by_cases hq : lo = hi
            · simp [hq]; omega
            · simp [hq]; right; omega)
      obtain ⟨b3, b4⟩ := b1.eqL (lupd_same hL)
      have b5 := b2.trans b4
      exact ⟨σ, _, rfl, (VR.rw hs hnc hc hsz).grow b4, b3, b5⟩

/-- A text as bytes of one's own. -/
theorem AOp_strBytes {s t e : TypeId} {x : Operand} {bs : List UInt8} (lab : Nat) (hx : xev E.G ra x = some (.str bs)) (hs : E.P.underlying s = some .string) (ht : E.P.underlying t = some (.slice e)) (he : E.P.underlying e = some (.int .u8)) (hrl : lget rl lab = none) :
    AOp E ⟨d, .convert s t x, ty, pos, after, g⟩ ra rl (.rw lab 0 bs.length 1 none) [(lab, some (fl eU8 bs))] := by
  intro A w σ al L a r e1 e2 e3
  have hf : lget L lab = none := by
    rcases e3 (lab, some (fl eU8 bs)) (by simp) with h | h
    · exact absurd hrl h
    · exact h
  have hxv := xev_ok r e1 hx
  generalize hxe : a.eval x = v at hxv
  cases hxv
  have hrun : (execOp a.eval ⟨d, .convert s t x, ty, pos, after, g⟩).run E.P w = .ok (.value (.slice (some ⟨w.heap.size, 0, none⟩) bs.length (grownCap w bs.length 0 e))) (Lib.bytesWorld w e ⟨⟨bs⟩⟩) := by
    simp [execOp, hxe, Lib.run_convert_string_bytes w s t e ⟨⟨bs⟩⟩ hs ht he]
    constructor <;> rfl
  unfold Oper.wp
  rw [hrun]
  have hcap : bs.length ≤ grownCap w bs.length 0 e := by simp [grownCap, Question.cut]
  have hcs : (Lib.bytesCells w e ⟨⟨bs⟩⟩).size = grownCap w bs.length 0 e := by
    have : (Lib.bytesCells w e ⟨⟨bs⟩⟩).size = bs.length + (grownCap w bs.length 0 e - bs.length) := by simp [Lib.bytesCells]; rfl
    omega
  obtain ⟨b1, b2⟩ := r.blocks.alloc hf (fl eU8 bs) (Lib.bytesCells w e ⟨⟨bs⟩⟩) e (w' := Lib.bytesWorld w e ⟨⟨bs⟩⟩) (Lib.bytesWorld_size w e _) (fun β hb => Lib.bytesWorld_at_old w e _ β hb) (Lib.bytesWorld_at_new w e _) (.inr (Nat.le_refl _))
    (by rw [hcs, fl_length]; simp [eU8]; exact hcap) (fun i y hy => by
      rw [← bytesPV_fl] at hy
      simp only [bytesPV, List.getElem?_map] at hy
      cases hb : bs[i]? with
      | none => rw [hb] at hy; simp at hy
      | some c =>
        rw [hb] at hy; simp at hy; subst hy
        have hi := (List.getElem?_eq_some_iff.1 hb).1
        refine ⟨.int .u8 c.toNat, ?_, .int _ _⟩
        rw [Lib.bytesCells, Array.getElem?_append_left (by simpa using hi)]
        simp [hb])
  exact ⟨_, _, rfl, .rw (supd_same _ _ _) hcap (by simp) (by rw [hcs]; omega), b1, b2⟩

/-- A piece of an array that is a whole block. -/
theorem AOp_sliceArr {T t : TypeId} {ie : TypeInfo} {x : Operand} {lo hi : Option Operand} {lab n l h : Nat} {cells : List PV} (sz : Nat) (hx : xev E.G ra x = some (.ptr lab 0)) (hl : lget rl lab = some (some cells)) (hT : E.P.underlying T = some (.array n t)) (he : E.P.info? t = some ie) (hs : ie.size = sz)
    (hc : cells.length = n * sz) (hne : 0 < n * sz) (hlo : bnd E.G ra lo 0 l) (hh : bnd E.G ra hi n h) (hle : l ≤ h) (hle' : h ≤ n) :
    AOp E ⟨d, .slice T x lo hi none, ty, pos, after, g⟩ ra rl (.rw lab (l * sz) (h - l) sz none) [] := by
  subst hs
  refine AOp_val fun A w σ al L a r h1 h2 => ?_
  have hxv := xev_ok r h1 hx
  have hL := h2 _ _ hl
  generalize hxe : a.eval x = v at hxv
  cases hxv with
  | @ptr _ _ β add size hsg =>
    have key : (execOp a.eval ⟨d, .slice T x lo hi none, ty, pos, after, g⟩).run E.P w = .ok (.value (.slice (some (if n = l then ⟨β, add + 0, none⟩ else (⟨β, add + 0, none⟩ : Addr).add (l * ie.size))) (h - l) (n - l))) w := by
      have c2 : (l : Int) ≤ h := by omega
      rcases bnd_ok r h1 hlo with ⟨rfl, rfl⟩ | ⟨xl, kl, rfl, el⟩ <;> rcases bnd_ok r h1 hh with ⟨rfl, rfl⟩ | ⟨xh, kh, rfl, eh⟩
      all_goals simp [execOp, Instr.sliceAt, run_underlying hT, hxe, Instr.sureAddr, Instr.sliceBounds, Instr.sliceBound, asIntOf, run_sizeOf' he, *]
    rcases r.blocks.all lab cells hL with ⟨h0, _⟩ | ⟨β', add', size', c, TT, fr, hB⟩
    · rw [hsg] at h0; simp at h0
    · have := hB.sig; rw [hsg] at this; simp at this
      obtain ⟨rfl, rfl, rfl⟩ := this
      have hf := hB.fits
      refine ⟨_, key, ?_⟩
      by_cases hnl : n = l
      · have : h = l := by omega
        subst this; subst hnl
        simp
        exact .rwE _ (by simp)
      · rw [if_neg hnl]
        simp only [addr_add, Nat.add_zero]
        refine VR.rw hsg (by omega) (by simp) ?_
        have : (n - l) * ie.size + l * ie.size = n * ie.size := by rw [← Nat.add_mul]; congr 1; omega
        omega
end

mutual
theorem within_mono (S : Nat → Bool) : ∀ (x : PV), within (fun _ => false) x = true → within S x = true
  | .dead, _ => rfl
  | .int _ _, _ => rfl
  | .bool _, _ => rfl
  | .str _, _ => rfl
  | .nilp, _ => rfl
  | .ptr _ _, h => by simp [within] at h
  | .rop cells _, h => by simp only [within] at *; exact withinL_monoL S cells h
  | .nils, _ => rfl
  | .ro cells _ _, h => by simp only [within] at *; exact withinL_monoL S cells h
  | .rw _ _ _ _ _, h => by simp [within] at h
  | .fn _ caps, h => by simp only [within] at *; exact withinL_monoL S caps h
  | .nilf, _ => rfl
  | .iface _ v, h => by simp only [within] at *; exact within_mono S v h
  | .nili, _ => rfl
  | .agg cells, h => by simp only [within] at *; exact withinL_monoL S cells h
  | .tup vs, h => by simp only [within] at *; exact withinL_monoL S vs h
theorem withinL_monoL (S : Nat → Bool) : ∀ (xs : List PV), withinL (fun _ => false) xs = true → withinL S xs = true
  | [], _ => rfl
  | x :: xs, h => by
    simp only [withinL, Bool.and_eq_true] at *
    exact ⟨within_mono S x h.1, withinL_monoL S xs h.2⟩
end
theorem withinL_mono {S : Nat → Bool} {xs : List PV} (h : withinL (fun _ => false) xs = true) : withinL S xs = true := withinL_monoL S xs h
theorem fl_within {α : Type} {e : El α} (S : Nat → Bool) (l : List α) : withinL S (fl e l) = true := withinL_mono (fl_pure l)

inductive SubL (L : Lb) : Lb → Prop where
  | nil : SubL L []
  | cons {l : Nat} {y : Option (List PV)} {r : Lb} (h : lget L l = some y) (k : SubL L r) : SubL L ((l, y) :: r)
theorem SubL.get {L L1 : Lb} (h : SubL L L1) : ∀ l y, lget L1 l = some y → lget L l = some y := by
  induction h with
  | nil => simp [lget]
  | cons h _ ih =>
    intro l y hl
    simp only [lget] at hl
    split at hl
    · rename_i e; subst e; simp at hl; subst hl; exact h
    · exact ih l y hl
inductive InL (S : Nat → Bool) : Lb → Prop where
  | nil : InL S []
  | cons {l : Nat} {cs : List PV} {r : Lb} (h : withinL S cs = true) (k : InL S r) : InL S ((l, some cs) :: r)
  | gone {l : Nat} {r : Lb} (k : InL S r) : InL S ((l, none) :: r)
theorem InL.get {S : Nat → Bool} {L1 : Lb} (h : InL S L1) : ∀ l cells, lget L1 l = some (some cells) → withinL S cells = true := by
  induction h with
  | nil => simp [lget]
  | cons h _ ih =>
    intro l y hl
    simp only [lget] at hl
    split at hl
    · simp at hl; subst hl; exact h
    · exact ih l y hl
  | gone _ ih =>
    intro l y hl
    simp only [lget] at hl
    split at hl
    · simp at hl
    · exact ih l y hl

def domOK (LL L1 L : Lb) : Bool := (LL.all fun p => hasL L1 p.1 || !hasL L p.1) && L1.all fun p => hasL LL p.1

theorem key_mem {α : Type} {L : List (Nat × α)} {l : Nat} (h : lget L l ≠ none) : ∃ p ∈ L, p.1 = l := by
  cases hg : lget L l with
  | none => exact absurd hg h
  | some y => exact ⟨_, mem_of_lget hg, rfl⟩
theorem keysK {L : Lb} {ks : List Nat} (h : L.map (·.1) = ks) : ∀ l, lget L l ≠ none → l ∈ ks := by
  intro l hl
  obtain ⟨p, hp, rfl⟩ := key_mem hl
  rw [← h]; exact List.mem_map_of_mem hp

section
variable {E : Env} {K : Nat → Prop} {n : Nat} {ops : Array Oper} {rest : List Oper} {Q : Exit → Al → Lb → Prop} {al : Al} {L : Lb}
/-- A call that may write blocks of its caller's. -/
theorem AWl_callE {d : Option Tmp} {ty : TypeId} {pos : String} {after : Array Edge} {g : Option (Nat × Bool)} {fo : Operand} {args : Array Operand} {ts : Array TypeId} {f : FuncId} {caps xs : List PV} (L1 LL : Lb) {V : PV}
    (hf : xev E.G al fo = some (.fn f caps)) (hx : xevs E.G al args.toList = some xs) (hrun : ∀ args w, (callFunc f args).run E.P w = .ok (.enter f args) w) (hG : GOK E)
    (h : ACalls E f (xs ++ caps) L1 fun v L' => v = V ∧ L' = LL) (hsub : SubL L L1) (hw : withinL (hasL L1) (xs ++ caps) = true) (hc : InL (hasL L1) L1) (hdom : domOK LL L1 L = true)
    (hd : dstOK n d = true) (hg : wants ops al ⟨d, .call ⟨.value fo, args, ts⟩, ty, pos, after, g⟩ = some true)
    (k : AWl E K n ops rest Q (oset d V al) (LL ++ L)) : AWl E K n ops (⟨d, .call ⟨.value fo, args, ts⟩, ty, pos, after, g⟩ :: rest) Q al L := by
  simp only [domOK, Bool.and_eq_true, List.all_eq_true, Bool.or_eq_true, Bool.not_eq_true'] at hdom
  refine AWl_call L1 hf hx hrun hG h hsub.get hw hc.get (dstOK_ok hd) hg ?_
  rintro x L1' ⟨rfl, rfl⟩
  refine ⟨fun l hl => ?_, fun l hl => ?_, k⟩
  · obtain ⟨p, hp, rfl⟩ := key_mem hl
    rcases hdom.1 p hp with h1 | h1
    · left; simpa [hasL, Option.isSome_iff_ne_none] using h1
    · right; simpa [hasL] using h1
  · obtain ⟨p, hp, rfl⟩ := key_mem hl
    simpa [hasL, Option.isSome_iff_ne_none] using hdom.2 p hp
end

theorem EndsW.mk {E : Env} {K : Nat → Prop} {fn : Func} {V : PV} {LL : Lb} {e : Exit} {al : Al} {L : Lb} (al' : Al) (L' : Lb) (xs : List PV) (he : e = .ret ∨ e = .normal) (h : Weak E K al L al' L') (hx : xres E.P al' L' fn.results.toList = some xs) (hv : rtup xs = V) (hl : L' = LL) :
    EndsW E K fn (fun v L' => v = V ∧ L' = LL) e al L := ⟨by rcases he with rfl | rfl <;> trivial, al', L', xs, h, hx, hv, hl⟩

section
variable {E : Env} {d : Option Tmp} {ty : TypeId} {pos : String} {after : Array Edge} {g : Option (Nat × Bool)} {ra : Al} {rl : Lb} {α : Type} {e : El α}
/-- An element of the first n of an own block. -/
theorem AOp_idxRwN {T t : TypeId} {ie : TypeInfo} {x ix : Operand} {l : List α} {lab n s : Nat} {co : Option Nat} {k : IntKind} {i : Int} {y : α} (sz : Nat) (hx : xev E.G ra x = some (.rw lab 0 n s co)) (hn : i < n) (hi : xev E.G ra ix = some (.int k i))
    (hT : E.P.underlying T = some (.slice t)) (he : E.P.info? t = some ie) (hs : ie.size = sz) (hg : getI l i = some y) : AOp E ⟨d, .indexAddr T x ix, ty, pos, after, g⟩ ra rl (.ptr lab (i.toNat * sz)) [] := by
  obtain ⟨h1, h2, h3⟩ := getI_some hg
  subst hs
  exact AOp_indexAddr hx hi hT he rfl h1 hn (by simp [xindexAddr])
theorem fl_len_eq {l : List α} {m s : Nat} (h : l.length = m) (hs : e.sz = s) : (fl e l).length = m * s := by rw [fl_length, h, hs]
theorem Src.rwT {tx t : TypeId} {lab n s : Nat} {co : Option Nat} {l : List α} {cells : List PV} (h : E.P.underlying tx = some (.slice t)) (hl : lget rl lab = some (some cells)) (hc : cells = fl e l) (hs : s = e.sz) (hn : n ≤ l.length) : Src E rl e tx (.rw lab 0 n s co) (l.take n) :=
  .rw h hl (by subst hc; subst hs; rw [List.drop_zero, fl_take]) hs (by simp; omega)
end
end Go.SH
