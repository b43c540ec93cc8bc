/- Slices that grow, are copied, are made; texts that are joined, and turned into bytes and back. -/
import Derived.Test.YtfadcigdmddndaaDoorShJ
import Derived.Laws.BytesString
import Derived.Laws.Concat
set_option linter.unusedVariables false
set_option linter.unusedSimpArgs false
namespace Go.SH

/-- A label for a slice that may be nil. -/
theorem BR.virtual {w : World} {σ : Sig} {A : Nat → Prop} {L : Lb} (h : BR w σ A L) {l : Nat} (hl : lget L l = none) :
    BR w σ A (lset L l (some [])) ∧ Grow top w σ L w σ (lset L l (some [])) := by
  have hf := h.fresh hl
  have hav : ∀ γ, avOf σ (lset L l (some [])) γ → avOf σ L γ := by
    rintro γ ⟨k, d, a, s, hk, hs⟩
    rw [lget_lset] at hk
    by_cases hkl : l = k
    · subst hkl; rw [hf] at hs; simp at hs
    · rw [if_neg hkl] at hk; exact ⟨k, d, a, s, hk, hs⟩
  have hg : Grow top w σ L w σ (lset L l (some [])) := ⟨Nat.le_refl _, fun _ _ _ h => h, fun γ _ hn => ⟨fun ha => hn (hav γ ha), rfl⟩, rfl, rfl, rfl⟩
  refine ⟨⟨?_, ?_, ?_, ?_⟩, hg⟩
  · intro k d hk
    rw [lget_lset] at hk
    by_cases hkl : l = k
    · subst hkl; simp at hk; exact .inl ⟨hf, hk⟩
    · rw [if_neg hkl] at hk
      rcases h.all k d hk with h1 | ⟨γ, add', size', cc, TT, fr', hb'⟩
      · exact .inl h1
      · exact .inr ⟨γ, add', size', cc, TT, fr', ⟨hb'.sig, hb'.heap, hb'.hsz, hb'.fits, fun i x hx => let ⟨v, h1, h2⟩ := hb'.vals i x hx; ⟨v, h1, h2.grow hg⟩, hb'.frs⟩⟩
  · intro k k' d d' γ a s a' s' hk hk' hs hs'
    rw [lget_lset] at hk hk'
    by_cases h1 : l = k
    · subst h1; rw [hf] at hs; simp at hs
    · by_cases h2 : l = k'
      · subst h2; rw [hf] at hs'; simp at hs'
      · rw [if_neg h1] at hk; rw [if_neg h2] at hk'
        exact h.inj k k' d d' γ a s a' s' hk hk' hs hs'
  · intro k x hs
    exact lget_ne_none_lset (h.dom k x hs)
  · intro γ hA
    obtain ⟨h1, h2⟩ := h.lo γ hA
    exact ⟨h1, fun ha => h2 (hav γ ha)⟩

/-- A block's content is another one, and it goes by another label from here on: no older address of it counts any more. -/
theorem BR.relabel {w w' : World} {σ : Sig} {A : Nat → Prop} {L : Lb} (h : BR w σ A L) {l lab : Nat} {cells cells' : List PV} (hl : lget L l = some (some cells)) (hlab : lget L lab = none)
    {β add size : Nat} {c c' : Array Value} {T : TypeId} {fr : Nat × Nat} (hb : Blk w σ (avo A σ L) l cells β add size c T fr) (off : Nat)
    (hsz : w'.heap.size = w.heap.size) (ho : ∀ k, k ≠ β → w'.heap[k]? = w.heap[k]?) (hw : w'.heap[β]? = some (.cells c' T fr)) (hc : c'.size = size)
    (hfit : add + off + cells'.length ≤ size) (hv : ∀ (i : Nat) (x : PV), cells'[i]? = some x → ∃ v, c'[add + off + i]? = some v ∧ VR w σ (avo A σ L) x v) (hout : w'.os = w.os ∧ w'.output = w.output ∧ w'.tape = w.tape := by first | exact ⟨rfl, rfl, rfl⟩ | assumption) :
    BR w' (supd σ lab (β, add + off, size)) A (lset (lset L l none) lab (some cells')) ∧ Grow top w σ L w' (supd σ lab (β, add + off, size)) (lset (lset L l none) lab (some cells')) := by
  have hne : lab ≠ l := by rintro rfl; rw [hl] at hlab; simp at hlab
  have hf := h.fresh hlab
  have hβ : avOf σ L β := ⟨l, cells, add, size, hl, hb.sig⟩
  have hav : ∀ γ, avOf (supd σ lab (β, add + off, size)) (lset (lset L l none) lab (some cells')) γ → avOf σ L γ := by
    rintro γ ⟨k, d, a, s, hk, hs⟩
    rw [lget_lset] at hk
    by_cases h1 : lab = k
    · subst h1; rw [supd_same] at hs; simp at hs; rw [← hs.1]; exact hβ
    · rw [if_neg h1, lget_lset] at hk
      rw [supd_other (Ne.symm h1)] at hs
      by_cases h2 : l = k
      · rw [if_pos h2] at hk; simp at hk
      · rw [if_neg h2] at hk; exact ⟨k, d, a, s, hk, hs⟩
  have hg : Grow top w σ L w' (supd σ lab (β, add + off, size)) (lset (lset L l none) lab (some cells')) := by
    refine ⟨by omega, fun k y _ hy => ?_, fun γ hγ hn => ⟨fun ha => hn (hav γ ha), ho γ (fun e => hn (e ▸ hβ))⟩, hout⟩
    by_cases hk : k = lab
    · subst hk; rw [hf] at hy; simp at hy
    · rw [supd_other hk]; exact hy
  refine ⟨⟨?_, ?_, ?_, ?_⟩, hg⟩
  · intro k d hk
    rw [lget_lset] at hk
    by_cases h1 : lab = k
    · subst h1
      simp at hk; subst hk
      refine .inr ⟨β, add + off, size, c', T, fr, ⟨supd_same _ _ _, hw, hc, hfit, ?_, hb.frs⟩⟩
      intro i x hx
      obtain ⟨v, h1, h2⟩ := hv i x hx
      exact ⟨v, h1, h2.grow hg⟩
    · rw [if_neg h1, lget_lset] at hk
      by_cases h2 : l = k
      · rw [if_pos h2] at hk; simp at hk
      · rw [if_neg h2] at hk
        rcases h.all k d hk with ⟨h3, h4⟩ | ⟨γ, add', size', cc, TT, fr', hb'⟩
        · exact .inl ⟨by rw [supd_other (Ne.symm h1)]; exact h3, h4⟩
        · have hne' : γ ≠ β := fun e => h2 (h.inj l k cells d β add size add' size' hl hk hb.sig (by rw [← e]; exact hb'.sig))
          refine .inr ⟨γ, add', size', cc, TT, fr', ⟨by rw [supd_other (Ne.symm h1)]; exact hb'.sig, by rw [ho γ hne']; exact hb'.heap, hb'.hsz, hb'.fits, ?_, hb'.frs⟩⟩
          intro i x hx
          obtain ⟨v, h5, h6⟩ := hb'.vals i x hx
          exact ⟨v, h5, h6.grow hg⟩
  · intro k k' d d' γ a s a' s' hk hk' hs hs'
    have back : ∀ k d γ a s, lget (lset (lset L l none) lab (some cells')) k = some (some d) → supd σ lab (β, add + off, size) k = some (γ, a, s) → (k = lab ∧ γ = β) ∨ (k ≠ lab ∧ k ≠ l ∧ lget L k = some (some d) ∧ σ k = some (γ, a, s)) := by
      intro k d γ a s hk hs
      rw [lget_lset] at hk
      by_cases h1 : lab = k
      · subst h1; rw [supd_same] at hs; simp at hs; exact .inl ⟨rfl, hs.1.symm⟩
      · rw [if_neg h1, lget_lset] at hk
        rw [supd_other (Ne.symm h1)] at hs
        by_cases h2 : l = k
        · rw [if_pos h2] at hk; simp at hk
        · rw [if_neg h2] at hk; exact .inr ⟨Ne.symm h1, Ne.symm h2, hk, hs⟩
    rcases back k d γ a s hk hs with ⟨e1, e2⟩ | ⟨e1, e2, e3, e4⟩ <;> rcases back k' d' γ a' s' hk' hs' with ⟨f1, f2⟩ | ⟨f1, f2, f3, f4⟩
    · rw [e1, f1]
    · subst e2; exact absurd (h.inj l k' cells d' γ add size a' s' hl f3 hb.sig f4) (Ne.symm f2)
    · subst f2; exact absurd (h.inj l k cells d γ add size a s hl e3 hb.sig e4) (Ne.symm e2)
    · exact h.inj k k' d d' γ a s a' s' e3 f3 e4 f4
  · intro k x hs
    by_cases h1 : k = lab
    · subst h1; rw [lget_lset]; simp
    · rw [supd_other h1] at hs
      exact lget_ne_none_lset (lget_ne_none_lset (h.dom k x hs))
  · intro γ hA
    obtain ⟨h1, h2⟩ := h.lo γ hA
    exact ⟨by omega, fun ha => h2 (hav γ ha)⟩

/-- What is appended: a slice's elements or a text's bytes. -/
def AppSrc (P : Program) (L : Lb) (sz : Nat) (tx : TypeId) (p : PV) (news : List PV) (k : Nat) : Prop :=
  ((∃ e', P.underlying tx = some (.slice e')) ∧ SlC L sz p news k ∧ news.all PV.one = true) ∨
  (P.underlying tx = some .string ∧ sz = 1 ∧ ∃ s : List UInt8, p = .str s ∧ k = s.length ∧ news = s.map fun b => .int .u8 b.toNat)

theorem appSrc_ok {P : Program} {w : World} {σ : Sig} {A : Nat → Prop} {L : Lb} (hb : BR w σ A L) {p : PV} {v : Value} (hv : VR w σ (avo A σ L) p v) {sz k : Nat} {tx : TypeId} {news : List PV} (h : AppSrc P L sz tx p news k) :
    ∃ us : List Value, Src P sz tx v k us w ∧ news.length = us.length ∧ ∀ (i : Nat) (x : PV), news[i]? = some x → ∃ u, us[i]? = some u ∧ VR w σ (avo A σ L) x u := by
  rcases h with ⟨⟨e', hk⟩, hs, h1⟩ | ⟨hk, rfl, s, rfl, rfl, rfl⟩
  · obtain ⟨us, l1, l2, l3⟩ := first_ok (P := P) hb hv hs
    have hlen : news.length = us.length := by rw [hs.1, l1]
    refine ⟨us, ⟨.inl ⟨e', hk⟩, ?_, l3 w rfl, l3 w.drew rfl, l1, ?_⟩, hlen, l2⟩
    · intro w'
      obtain ⟨a, cap, rfl, _⟩ := slc_ok hb hv hs
      rfl
    · intro u hu
      obtain ⟨i, hi, rfl⟩ := List.mem_iff_getElem.1 hu
      have hi' : i < news.length := by omega
      obtain ⟨u, h5, h6⟩ := l2 i _ (List.getElem?_eq_getElem hi')
      rw [List.getElem?_eq_getElem hi] at h5
      simp at h5; rw [h5]
      exact one_ok h6 (List.all_eq_true.1 h1 _ (List.getElem_mem hi'))
  · cases hv
    have hs := Src.ofString (P := P) w hk ⟨⟨s⟩⟩
    refine ⟨_, hs, by simp [byteCells], fun i x hx => ?_⟩
    simp at hx
    obtain ⟨b, hb, rfl⟩ := hx
    exact ⟨.int .u8 b.toNat, by simp [byteCells, hb], .int _ _⟩

section
variable {E : Env} {d : Option Tmp} {ty : TypeId} {pos : String} {after : Array Edge} {g : Option (Nat × Bool)} {ra : Al} {rl : Lb}

theorem heap_alloc_drew (w : World) (o : Obj) (i : Nat) (h : i < w.heap.size) : (w.drew.alloc o).heap[i]? = w.heap[i]? := heap_old w.drew o i h

/-- 'append' where what was there is no label's: it has no room of its own. -/
theorem AOp_append0 {T tx e : TypeId} {ie : TypeInfo} {x y : Operand} {p q : PV} {news : List PV} {k : Nat} (lab : Nat) (hx : xev E.G ra x = some p) (hy : xev E.G ra y = some q) (hT : E.P.underlying T = some (.slice e))
    (he : E.P.info? e = some ie) {z : List PV} (hz : zcells E.P e = some z) (hzl : z.length = ie.size) (hp : p = .nils ∨ p = .ro [] 0 (some 0)) (hs : AppSrc E.P rl ie.size tx q news k) (hpos : 0 < ie.size)
    (hk : k * ie.bytes ≤ 140737488355328) (hk2 : k ≤ 9223372036854775807) (hrl : lget rl lab = none) :
    AOp E ⟨d, .call ⟨.builtin .append, #[x, y], #[T, tx]⟩, ty, pos, after, g⟩ ra rl (.rw lab 0 k ie.size none) [(lab, some news)] := by
  intro A w σ al L a r e1 e2 e3
  have hv := xev_ok r e1 hx
  have hw := xev_ok r e1 hy
  have hf : lget L lab = none := by
    rcases e3 (lab, some news) (by simp) with h | h
    · exact absurd hrl h
    · exact h
  have hs' : AppSrc E.P L ie.size tx q news k := by
    rcases hs with ⟨h1, ⟨h2, h3⟩, h4⟩ | h
    · refine .inl ⟨h1, ⟨h2, ?_⟩, h4⟩
      cases q <;> first | exact h3 | skip
      obtain ⟨a1, a2, cs, a3, a4⟩ := h3
      exact ⟨a1, a2, cs, e2 _ _ a3, a4⟩
    · exact .inr h
  obtain ⟨us, s1, s2, s3⟩ := appSrc_ok r.blocks hw hs'
  have hbase : ∃ ad, a.eval x = .slice ad 0 0 := by
    generalize a.eval x = vx at hv
    rcases hp with rfl | rfl
    · cases hv; exact ⟨_, rfl⟩
    · cases hv with
      | roE a' cap hc => exact ⟨a', by rw [hc 0 rfl]⟩
      | ro cs him hl hvv hn hc => exact ⟨_, by rw [hc 0 rfl]⟩
  obtain ⟨ad, hbase⟩ := hbase
  obtain ⟨it, zv, z1, z2, z3⟩ := zc hz
  rw [he] at z1; simp at z1; subst z1
  unfold Oper.wp
  by_cases hk0 : k = 0
  · subst hk0
    have hn0 : news = [] := by
      have := s1.newsLen; rw [Nat.zero_mul] at this
      exact List.eq_nil_of_length_eq_zero (by omega)
    subst hn0
    have hu0 : us = [] := List.eq_nil_of_length_eq_zero (by simpa using s2.symm)
    subst hu0
    have hrun : (execOp a.eval ⟨d, .call ⟨.builtin .append, #[x, y], #[T, tx]⟩, ty, pos, after, g⟩).run E.P w = .ok (.value (.slice ad 0 0)) w := by
      rcases s1.kind with ⟨e', hk⟩ | hk <;> cases ad <;> simp [execOp, resolve, invoke, builtin, Builtin.append_, run_underlying hT, run_underlying hk, hbase, run_sizeOf' he, s1.len, s1.cells, storeCells]
    rw [hrun]
    obtain ⟨b1, b2⟩ := r.blocks.virtual hf
    exact ⟨σ, _, rfl, .rwE ad (by simp), b1, b2⟩
  · have hold : (Builtin.firstCells ie.size 0 (.slice ad 0 0)).run E.P w.drew = .ok (([] : List Value)).toArray w.drew := by
      cases ad <;> simp [Builtin.firstCells, loadCells, loadCellsFrom]
    have hgr := run_append_grow_src w T tx ty e ie zv hT he z2 ad 0 0 [] hold (a.eval y) k us s1 (by omega) (by omega) (growslice_fits (by omega) (by simpa using hk))
    have hrun : (execOp a.eval ⟨d, .call ⟨.builtin .append, #[x, y], #[T, tx]⟩, ty, pos, after, g⟩).run E.P w =
        .ok (.value (.slice (some ⟨w.heap.size, 0, none⟩) k (grownCap w (0 + k) 0 e))) (w.drew.alloc (.cells (us.toArray ++ Builtin.zeroCells zv.cells (grownCap w (0 + k) 0 e - (0 + k))) e)) := by
      simp only [execOp, resolve, invoke, builtin]
      simp [hbase]
      simp [hgr]
    rw [hrun]
    have hcap : k ≤ grownCap w (0 + k) 0 e := by simp [grownCap, Question.cut]
    obtain ⟨l1, l2⟩ := cpvs_vals (w := w) (σ := σ) (av := avo A σ L) z3
    obtain ⟨b1, b2⟩ := r.blocks.alloc hf news (us.toArray ++ Builtin.zeroCells zv.cells (grownCap w (0 + k) 0 e - (0 + k))) e (fr := (0, 0))
      (w' := w.drew.alloc (.cells (us.toArray ++ Builtin.zeroCells zv.cells (grownCap w (0 + k) 0 e - (0 + k))) e)) (by simp) (fun β hb => heap_alloc_drew w _ β hb) (heap_alloc_new w.drew _) (by omega) (by simp; omega)
      (fun i u hu => by
        obtain ⟨v, h1, h2⟩ := s3 i u hu
        refine ⟨v, ?_, h2⟩
        have hi : i < us.length := (List.getElem?_eq_some_iff.1 h1).1
        rw [Array.getElem?_append_left (by simpa using hi)]
        simpa using h1)
    refine ⟨_, _, rfl, .rw (off := 0) (supd_same _ _ _) hcap (by simp) ?_, b1, b2⟩
    have := s1.newsLen
    have e5 : grownCap w (0 + k) 0 e * ie.size = k * ie.size + (grownCap w (0 + k) 0 e - (0 + k)) * ie.size := by rw [← Nat.add_mul]; congr 1; omega
    simp only [Array.size_append, List.size_toArray, Builtin.zeroCells, Array.size_map, Array.size_range]
    rw [← l1, hzl, e5, this]
    omega

theorem BR.drop_alloc {w w' : World} {σ : Sig} {A : Nat → Prop} {L : Lb} (h : BR w σ A L) {l lab : Nat} (hlab : lget L lab = none) (hne : lab ≠ l) (cells : List PV) (cs : Array Value) (T : TypeId)
    (hsz : w'.heap.size = w.heap.size + 1) (ho : ∀ β, β < w.heap.size → w'.heap[β]? = w.heap[β]?) (hn : w'.heap[w.heap.size]? = some (.cells cs T (0, 0)))
    (hlen : cells.length ≤ cs.size) (hv : ∀ (i : Nat) (x : PV), cells[i]? = some x → ∃ v, cs[i]? = some v ∧ VR w σ (avo A σ L) x v) (hout : w'.os = w.os ∧ w'.output = w.output ∧ w'.tape = w.tape := by first | exact ⟨rfl, rfl, rfl⟩ | assumption) :
    BR w' (supd σ lab (w.heap.size, 0, cs.size)) A (lset (lset L l none) lab (some cells)) ∧ Grow top w σ L w' (supd σ lab (w.heap.size, 0, cs.size)) (lset (lset L l none) lab (some cells)) := by
  obtain ⟨b1, b2⟩ := h.drop l
  obtain ⟨b3, b4⟩ := b1.alloc (l := lab) (by rw [lget_lset, if_neg (Ne.symm hne)]; exact hlab) cells cs T (fr := (0, 0)) hsz ho hn (by omega) hlen (fun i x hx => let ⟨v, h1, h2⟩ := hv i x hx; ⟨v, h1, h2.grow b2⟩)
  exact ⟨b3, b2.trans b4⟩

/-- 'append' to a slice of a label: from here on it goes by another label. -/
theorem AOp_append1 {T tx e : TypeId} {ie : TypeInfo} {x y : Operand} {l off n : Nat} {co : Option Nat} {q : PV} {cells news : List PV} {k : Nat} (lab : Nat) (hx : xev E.G ra x = some (.rw l off n ie.size co))
    (hy : xev E.G ra y = some q) (hT : E.P.underlying T = some (.slice e)) (he : E.P.info? e = some ie) {z : List PV} (hz : zcells E.P e = some z) (hzl : z.length = ie.size) (hcl : lget rl l = some (some cells))
    (hin : off + n * ie.size ≤ cells.length) (hs : AppSrc E.P rl ie.size tx q news k) (hpos : 0 < ie.size) (hk : (n + k) * ie.bytes ≤ 140737488355328) (hk2 : n + k ≤ 9223372036854775807) (hrl : lget rl lab = none) :
    AOp E ⟨d, .call ⟨.builtin .append, #[x, y], #[T, tx]⟩, ty, pos, after, g⟩ ra rl (.rw lab 0 (n + k) ie.size none) [(l, none), (lab, some ((cells.drop off).take (n * ie.size) ++ news))] := by
  intro A w σ al L a r e1 e2 e3
  have hv := xev_ok r e1 hx
  have hw := xev_ok r e1 hy
  have hf : lget L lab = none := by
    rcases e3 (lab, _) (by simp; exact .inr rfl) with h | h
    · exact absurd hrl h
    · exact h
  have hL := e2 _ _ hcl
  have hne : lab ≠ l := by rintro rfl; rw [hL] at hf; simp at hf
  have hs' : AppSrc E.P L ie.size tx q news k := by
    rcases hs with ⟨h1, ⟨h2, h3⟩, h4⟩ | h
    · refine .inl ⟨h1, ⟨h2, ?_⟩, h4⟩
      cases q <;> first | exact h3 | skip
      obtain ⟨a1, a2, cs, a3, a4⟩ := h3
      exact ⟨a1, a2, cs, e2 _ _ a3, a4⟩
    · exact .inr h
  obtain ⟨us, s1, s2, s3⟩ := appSrc_ok r.blocks hw hs'
  obtain ⟨it, zv, z1, z2, z3⟩ := zc hz
  rw [he] at z1; simp at z1; subst z1
  obtain ⟨l1, l2⟩ := cpvs_vals (w := w) (σ := σ) (av := avo A σ L) z3
  have hold : SlC L ie.size (.rw l off n ie.size co) ((cells.drop off).take (n * ie.size)) n := ⟨by simp; omega, rfl, rfl, cells, hL, rfl⟩
  obtain ⟨os, o1, o2, o3⟩ := first_ok (P := E.P) r.blocks hv hold
  obtain ⟨ad, cap, hbase, hncap, _⟩ := slc_ok r.blocks hv hold
  have hlup : lupd L [(l, none), (lab, some ((cells.drop off).take (n * ie.size) ++ news))] = lset (lset L l none) lab (some ((cells.drop off).take (n * ie.size) ++ news)) := rfl
  unfold Oper.wp
  have grow : cap < n + k → ∃ v w', (execOp a.eval ⟨d, .call ⟨.builtin .append, #[x, y], #[T, tx]⟩, ty, pos, after, g⟩).run E.P w = .ok (.value v) w' ∧
      ∃ σ', VR w' σ' (avo A σ' (lset (lset L l none) lab (some ((cells.drop off).take (n * ie.size) ++ news)))) (.rw lab 0 (n + k) ie.size none) v ∧
        BR w' σ' A (lset (lset L l none) lab (some ((cells.drop off).take (n * ie.size) ++ news))) ∧ Grow top w σ L w' σ' (lset (lset L l none) lab (some ((cells.drop off).take (n * ie.size) ++ news))) := by
    intro hg
    have hgr := run_append_grow_src w T tx ty e ie zv hT he z2 ad n cap os (by rw [hbase] at o3; exact o3 w.drew rfl) (a.eval y) k us s1 hg (by omega) (growslice_fits hg hk)
    have hrun : (execOp a.eval ⟨d, .call ⟨.builtin .append, #[x, y], #[T, tx]⟩, ty, pos, after, g⟩).run E.P w =
        .ok (.value (.slice (some ⟨w.heap.size, 0, none⟩) (n + k) (grownCap w (n + k) cap e))) (w.drew.alloc (.cells ((os ++ us).toArray ++ Builtin.zeroCells zv.cells (grownCap w (n + k) cap e - (n + k))) e)) := by
      simp only [execOp, resolve, invoke, builtin]
      simp only [List.map_toArray, List.map_cons, List.map_nil, hbase, Sem.run_bind, Sem.run_pure, Result.andThen_ok, hgr]
    have hcap : n + k ≤ grownCap w (n + k) cap e := by simp [grownCap, Question.cut]
    have hsize : ((os ++ us).toArray ++ Builtin.zeroCells zv.cells (grownCap w (n + k) cap e - (n + k))).size = grownCap w (n + k) cap e * ie.size := by
      have := s1.newsLen
      have e5 : grownCap w (n + k) cap e * ie.size = (n + k) * ie.size + (grownCap w (n + k) cap e - (n + k)) * ie.size := by rw [← Nat.add_mul]; congr 1; omega
      simp only [Array.size_append, List.size_toArray, List.length_append, Builtin.zeroCells, Array.size_map, Array.size_range]
      rw [← l1, hzl, e5, this, o1, Nat.add_mul]
    obtain ⟨b1, b2⟩ := r.blocks.drop_alloc (l := l) hf hne ((cells.drop off).take (n * ie.size) ++ news) ((os ++ us).toArray ++ Builtin.zeroCells zv.cells (grownCap w (n + k) cap e - (n + k))) e
      (w' := w.drew.alloc (.cells ((os ++ us).toArray ++ Builtin.zeroCells zv.cells (grownCap w (n + k) cap e - (n + k))) e)) (by simp) (fun β hb => heap_alloc_drew w _ β hb) (heap_alloc_new w.drew _)
      (by rw [hsize, List.length_append, hold.1, s2, s1.newsLen, ← Nat.add_mul]; exact Nat.mul_le_mul_right _ hcap)
      (fun i u hu => by
        have ho1 : ((cells.drop off).take (n * ie.size)).length = os.length := by rw [hold.1, o1]
        by_cases hi : i < os.length
        · rw [List.getElem?_append_left (by omega)] at hu
          obtain ⟨v, h1, h2⟩ := o2 i u hu
          refine ⟨v, ?_, h2⟩
          rw [Array.getElem?_append_left (by simp; omega)]
          simp [List.getElem?_append_left hi, h1]
        · rw [List.getElem?_append_right (by omega)] at hu
          obtain ⟨v, h1, h2⟩ := s3 _ u hu
          refine ⟨v, ?_, h2⟩
          have hi2 : i - ((cells.drop off).take (n * ie.size)).length < us.length := (List.getElem?_eq_some_iff.1 h1).1
          rw [Array.getElem?_append_left (by simp; omega)]
          have e6 : i - ((cells.drop off).take (n * ie.size)).length = i - os.length := by rw [ho1]
          rw [e6] at h1
          simp [List.getElem?_append_right (Nat.le_of_not_lt hi), h1])
    exact ⟨_, _, hrun, _, .rw (off := 0) (supd_same _ _ _) hcap (by simp) (by rw [hsize]; omega), b1, b2⟩
  by_cases hroom : n + k ≤ cap
  · -- in place
    generalize hex : a.eval x = vx at hv
    rw [hbase] at hex; subst hex
    cases hv with
    | rwE a' hc =>
      have hk0 : k = 0 := by omega
      subst hk0
      have hu0 : us = [] := List.eq_nil_of_length_eq_zero (by have := s1.newsLen; simpa using this)
      have hn0 : news = [] := List.eq_nil_of_length_eq_zero (by rw [s2, hu0]; rfl)
      subst hu0; subst hn0
      have hrun : (execOp a.eval ⟨d, .call ⟨.builtin .append, #[x, y], #[T, tx]⟩, ty, pos, after, g⟩).run E.P w = .ok (.value (.slice ad 0 0)) w := by
        simp only [execOp, resolve, invoke, builtin]
        rcases s1.kind with ⟨e', hk⟩ | hk <;> cases ad <;> simp [Builtin.append_, run_underlying hT, run_underlying hk, hbase, run_sizeOf' he, s1.len, s1.cells, storeCells]
      rw [hrun]
      obtain ⟨b1, b2⟩ := r.blocks.drop l
      obtain ⟨b3, b4⟩ := b1.virtual (l := lab) (by rw [lget_lset, if_neg (Ne.symm hne)]; exact hf)
      have hc0 : (cells.drop off).take (0 * ie.size) ++ ([] : List PV) = [] := by simp
      refine ⟨σ, _, rfl, .rwE ad (by simp), ?_, ?_⟩
      · rw [hlup, hc0]; exact b3
      · rw [hlup, hc0]; exact b2.trans b4
    | @rw _ _ _ _ _ β add size _ hsg hle hc hsz =>
      rcases r.blocks.all l cells hL with ⟨h3, h4⟩ | ⟨β', add', size', c, TT, fr, hB⟩
      · rw [hsg] at h3; simp at h3
      · have hsig := hB.sig; rw [hsg] at hsig; simp at hsig
        obtain ⟨rfl, rfl, rfl⟩ := hsig
        have hnl := s1.newsLen
        have hmul : n * ie.size + k * ie.size ≤ cap * ie.size := by rw [← Nat.add_mul]; exact Nat.mul_le_mul_right _ hroom
        have hcs := hB.hsz
        obtain ⟨w', c', t1, t2, t3, t4, t5, t6, t7⟩ := storeCells_ok (P := E.P) (o := add + off + n * ie.size) us 0 w c hB.heap (by omega) (by intro j hj hj'; exact hB.free j (by omega) (by omega)) s1.one
        have hrun : (execOp a.eval ⟨d, .call ⟨.builtin .append, #[x, y], #[T, tx]⟩, ty, pos, after, g⟩).run E.P w = .ok (.value (.slice (some ⟨β, add + off, none⟩) (n + k) cap)) w' := by
          simp only [execOp, resolve, invoke, builtin]
          rcases s1.kind with ⟨e', hk⟩ | hk <;> simp [Builtin.append_, run_underlying hT, run_underlying hk, hbase, run_sizeOf' he, s1.len, s1.cells, hroom, addr_add, t1]
        rw [hrun]
        obtain ⟨b1, b2⟩ := r.blocks.relabel (lab := lab) hL hf (cells' := (cells.drop off).take (n * ie.size) ++ news) hB off t2 t3 t4 (by omega) (by rw [List.length_append, hold.1, s2, hnl]; omega) (by
          intro i u hu
          rw [t6]
          by_cases hi : i < n * ie.size
          · rw [List.getElem?_append_left (by rw [hold.1]; exact hi), List.getElem?_take, if_pos hi, List.getElem?_drop] at hu
            rw [if_neg (by omega)]
            obtain ⟨v, h1, h2⟩ := hB.vals _ u hu
            exact ⟨v, by rw [← h1]; congr 1; omega, h2⟩
          · rw [List.getElem?_append_right (by rw [hold.1]; omega), hold.1] at hu
            obtain ⟨v, h1, h2⟩ := s3 _ u hu
            have hi2 := (List.getElem?_eq_some_iff.1 h1).1
            rw [if_pos (by omega)]
            exact ⟨v, by rw [← h1]; congr 1; omega, h2⟩)
        refine ⟨_, _, rfl, .rw (off := 0) (supd_same _ _ _) hroom (by simp) ?_, b1, b2⟩
        omega
  · obtain ⟨v, w', hrun, σ', h1, h2, h3⟩ := grow (by omega)
    rw [hrun]
    exact ⟨σ', v, rfl, h1, h2, h3⟩
end
end Go.SH
