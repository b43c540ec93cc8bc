/- Part 3. -/
import Derived.Test.YtfadcigdmddndaaDoorB
set_option linter.unusedVariables false
set_option linter.unusedSimpArgs false
namespace Go.SH

theorem PLe.tup {xs ys : List PV} (h : CLe xs ys) : PLe (.tup xs) (.tup ys) := by
  intro w σ av v hv
  cases hv with
  | tup cs hl hv =>
    refine .tup cs (h.1 ▸ hl) fun i y u hy hu => ?_
    have hi : i < xs.length := by rw [h.1]; exact (List.getElem?_eq_some_iff.1 hy).1
    exact h.2 i _ y (List.getElem?_eq_getElem hi) hy _ _ _ _ (hv i _ u (List.getElem?_eq_getElem hi) hu)
theorem PLe.fn {f : FuncId} {xs ys : List PV} (h : CLe xs ys) : PLe (.fn f xs) (.fn f ys) := by
  intro w σ av v hv
  cases hv with
  | fn _ cs hl hv =>
    refine .fn f cs (h.1 ▸ hl) fun i y u hy hu => ?_
    have hi : i < xs.length := by rw [h.1]; exact (List.getElem?_eq_some_iff.1 hy).1
    exact h.2 i _ y (List.getElem?_eq_getElem hi) hy _ _ _ _ (hv i _ u (List.getElem?_eq_getElem hi) hu)
theorem PLe.iface {t : TypeId} {x y : PV} (h : PLe x y) : PLe (.iface t x) (.iface t y) := by
  intro w σ av v hv
  cases hv with
  | iface _ u hu => exact .iface t u (h _ _ _ _ hu)
theorem PLe.ro {xs ys : List PV} {n : Nat} {co : Option Nat} (h : CLe xs ys) : PLe (.ro xs n co) (.ro ys n none) := by
  intro w σ av v hv
  cases hv with
  | roE a cap hc =>
    have : ys = [] := List.eq_nil_of_length_eq_zero h.1.symm
    subst this; exact .roE _ _ (by simp)
  | ro cs him hl hv hn hc =>
    refine .ro cs him (h.1 ▸ hl) (fun i y u hy hu => ?_) hn (by simp)
    have hi : i < xs.length := by rw [h.1]; exact (List.getElem?_eq_some_iff.1 hy).1
    exact h.2 i _ y (List.getElem?_eq_getElem hi) hy _ _ _ _ (hv i _ u (List.getElem?_eq_getElem hi) hu)
theorem Ren.ple {τ : Nat → Nat} {x y : PV} (h : Ren τ (fun _ => false) x y) : PLe x y := by
  induction h with
  | pure h => exact .refl _
  | rw h _ => simp at h
  | ptr h _ => simp at h
  | agg hl _ ih => exact .agg ⟨hl, ih⟩
  | tup hl _ ih => exact .tup ⟨hl, ih⟩
  | fn hl _ ih => exact .fn ⟨hl, ih⟩
  | iface _ ih => exact .iface ih
  | nilsRo => exact .nilsRo
  | nilsRw h => simp at h
  | roCo h => exact .ro (.refl _)
  | rwCo h _ => simp at h
theorem RenC.cle {τ : Nat → Nat} {xs ys : List PV} (h : RenC τ (fun _ => false) xs ys) : CLe xs ys := ⟨h.get.1, fun i x y hx hy => (h.get.2 i x y hx hy).ple⟩

/-- What is handed out: own slices as what they hold. -/
def OutLe (L : Lb) (x y : PV) : Prop := ∃ z, Out L x z ∧ PLe z y
theorem src_out {rl : DLb} {t : ET} {q : DV} {l : List t.T} {cells : List PV} (h : SrcS rl t q l cells) (hp : withinL (fun _ => false) cells = true) (hq : ∃ lab sz off n co w, q = .rw lab sz off n co w) : OutLe (dlb rl) q.pv (.ro (fl (el t) l) l.length none) := by
  obtain ⟨lab, sz, off, n, co, w, rfl⟩ := hq
  obtain ⟨cc, h1, h2, h3, h4, h5⟩ := h.rw _ _ _ _ _ _ rfl
  subst h5; subst h3
  exact ⟨.ro cells l.length none, .rw h1 h4 h2 hp, .ro h.le⟩

section
variable {R : Type} {r : R}
def dcPure (c : DC) : Bool := match c with
  | .cs cs => DV.labsL (fun _ => false) cs
  | _ => true
def pureAt (rl : DLb) (l : Nat) : Bool := match lget rl l with
  | some c => dcPure c
  | none => false
def isRw : DV → Bool
  | .rw _ _ _ _ _ _ => true
  | _ => false
/-- Cells, own slices as what they hold. -/
def borL (rl : DLb) : List DV → (List DV → Option R) → Option R
  | [], k => k []
  | d :: ds, k => match d with
    | .rw lab sz off n co w => match lget rl lab with
      | some (.ls t _) => srcL rl t (.rw lab sz off n co w) fun l => borL rl ds fun ds => k (.sl t l :: ds)
      | _ => none
    | d => if d.labs (fun _ => false) = true then borL rl ds fun ds => k (d :: ds) else none
mutual
/-- The values in a shape's holes, where own slices may stand for what they hold. -/
def Sh.getB (rl : DLb) : Sh → DV → GS → (GS → Option R) → Option R
  | .h (.tl t), d, g, kk => match d with
    | .rw lab sz off n co w => if pureAt rl lab = true then srcL rl t (.rw lab sz off n co w) fun l => kk (g.put ⟨.tl t, l⟩) else none
    | d => match t.tl.one [d] with
      | some x => kk (g.put ⟨.tl t, x⟩)
      | none => none
  | .st t, d, g, kk => match d with
    | .agg ds => match ds.any isRw with
      | true => borL rl ds fun ds => match t.one ds with
        | some x => kk (g.put ⟨t, x⟩)
        | none => none
      | false => match t.one ds with
        | some x => kk (g.put ⟨t, x⟩)
        | none => none
    | _ => none
  | .agg cs, d, g, kk => match d with
    | .agg ds => Sh.getBs rl cs ds g kk
    | _ => none
  | .tup cs, d, g, kk => match d with
    | .tup ds => Sh.getBs rl cs ds g kk
    | _ => none
  | s, d, g, kk => match s.get 0 d g with
    | some g' => match g'.m, g'.q with
      | [], [] => kk g'
      | _, _ => none
    | none => none
def Sh.getBs (rl : DLb) : List Sh → List DV → GS → (GS → Option R) → Option R
  | [], ds, g, kk => match ds with
    | [] => kk g
    | _ :: _ => none
  | s :: ss, ds, g, kk => match ds with
    | [] => none
    | d :: ds => s.getB rl d g fun g => Sh.getBs rl ss ds g kk
end
mutual
theorem labs_within {S : Nat → Bool} : ∀ {d : DV}, d.labs S = true → within S d.pv = true
  | .dead, _ => rfl
  | .int _ _, _ => rfl
  | .by _, _ => rfl
  | .bool _, _ => rfl
  | .str _, _ => rfl
  | .nilp, _ => rfl
  | .nils, _ => rfl
  | .nilf, _ => rfl
  | .nili, _ => rfl
  | .ptr l _, h => h
  | .lp l _ _ _, h => h
  | .ep t l _ _ _, _ => by simp only [DV.pv, within]; exact withinL_mono (fl_pure _)
  | .gp t l, _ => by simp only [DV.pv, within]; exact withinL_mono (fl_pure _)
  | .sl t l, _ => by simp only [DV.pv, within]; exact withinL_mono (fl_pure _)
  | .rw l _ _ _ _ _, h => h
  | .fn _ cs, h => labsL_within (ds := cs) h
  | .iface _ v, h => labs_within (d := v) h
  | .agg cs, h => labsL_within (ds := cs) h
  | .tup cs, h => labsL_within (ds := cs) h
theorem labsL_within {S : Nat → Bool} : ∀ {ds : List DV}, DV.labsL S ds = true → withinL S (DV.pvs ds) = true
  | [], _ => rfl
  | d :: r, h => by
    simp only [DV.labsL, Bool.and_eq_true] at h
    simp [DV.pvs, withinL, labs_within h.1, labsL_within h.2]
end

theorem Ren.pureL {τ : Nat → Nat} {x y : PV} (h : Ren τ (fun _ => false) x y) : pureV x = true := by
  have key : ∀ {xs ys : List PV}, xs.length = ys.length → (∀ (i : Nat) (x y : PV), xs[i]? = some x → ys[i]? = some y → pureV x = true) → withinL (fun _ => false) xs = true := by
    intro xs ys hl h
    rw [withinL_all, List.all_eq_true]
    intro x hx
    obtain ⟨i, hi⟩ := List.getElem?_of_mem hx
    exact h i x _ hi (List.getElem?_eq_getElem (by rw [← hl]; exact (List.getElem?_eq_some_iff.1 hi).1))
  induction h with
  | pure h => exact h
  | rw h _ => simp at h
  | ptr h _ => simp at h
  | agg hl _ ih => exact key hl ih
  | tup hl _ ih => exact key hl ih
  | fn hl _ ih => exact key hl ih
  | iface _ ih => exact ih
  | nilsRo => rfl
  | nilsRw h => simp at h
  | roCo h => exact h
  | rwCo h _ => simp at h

theorem dcPure_ok {c : DC} (h : dcPure c = true) {cells : List PV} (hc : c.pv = some cells) : withinL (fun _ => false) cells = true := by
  cases c with
  | gone => simp [DC.pv] at hc
  | cs cs => simp [DC.pv] at hc; subst hc; exact labsL_within h
  | ls t l => simp [DC.pv] at hc; subst hc; exact fl_pure _
theorem part_pure {cells : List PV} (h : withinL (fun _ => false) cells = true) (a b : Nat) : withinL (fun _ => false) ((cells.drop a).take b) = true := by
  rw [withinL_all, List.all_eq_true] at h ⊢
  exact fun x hx => h x (List.mem_of_mem_drop (List.mem_of_mem_take hx))

/-- What 'getB' took. -/
def GetB (rl : DLb) (d : DV) (g g' : GS) (n : Nat) (mk : (Nat → Nat) → List TV → DV × List TV) : Prop :=
  ∃ xs, g'.vs = g.vs ++ xs ∧ xs.length = n ∧ ∀ len rest, (mk len (xs ++ rest)).2 = rest ∧ OutLe (dlb rl) d.pv (mk len (xs ++ rest)).1.pv ∧ (mk len (xs ++ rest)).1.ok
def GetBs (rl : DLb) (ds : List DV) (g g' : GS) (n : Nat) (mk : (Nat → Nat) → List TV → List DV × List TV) : Prop :=
  ∃ xs, g'.vs = g.vs ++ xs ∧ xs.length = n ∧ ∀ len rest, (mk len (xs ++ rest)).2 = rest ∧ ((DV.pvs ds).length = (DV.pvs (mk len (xs ++ rest)).1).length ∧ ∀ (i : Nat) (x y : PV), (DV.pvs ds)[i]? = some x → (DV.pvs (mk len (xs ++ rest)).1)[i]? = some y → OutLe (dlb rl) x y) ∧ DV.oks (mk len (xs ++ rest)).1
theorem OutLe.aggs {L : Lb} {xs ys : List PV} (hl : xs.length = ys.length) (h : ∀ (i : Nat) (x y : PV), xs[i]? = some x → ys[i]? = some y → OutLe L x y) :
    ∃ zs : List PV, xs.length = zs.length ∧ (∀ (i : Nat) (x z : PV), xs[i]? = some x → zs[i]? = some z → Out L x z) ∧ CLe zs ys := by
  induction xs generalizing ys with
  | nil =>
    have : ys = [] := List.eq_nil_of_length_eq_zero hl.symm
    subst this; exact ⟨[], rfl, by simp, .nil⟩
  | cons x xs ih =>
    cases ys with
    | nil => simp at hl
    | cons y ys =>
      obtain ⟨z, h1, h2⟩ := h 0 x y rfl rfl
      obtain ⟨zs, e1, e2, e3⟩ := ih (ys := ys) (by simpa using hl) fun i a b ha hb => h (i + 1) a b (by simpa using ha) (by simpa using hb)
      refine ⟨z :: zs, by simp [e1], fun i a b ha hb => ?_, .cons h2 e3⟩
      cases i with
      | zero => simp at ha hb; subst ha; subst hb; exact h1
      | succ i => exact e2 i a b (by simpa using ha) (by simpa using hb)

theorem get_B {rl : DLb} {s : Sh} {d : DV} {g g' : GS} (h : s.get 0 d g = some g') (hm : g'.m = []) (hq : g'.q = []) : GetB rl d g g' s.n s.mk' := by
  obtain ⟨_, xs, h1, h2, h3⟩ := get_mk 0 s h
  refine ⟨xs, h1, h2, fun len rest => ?_⟩
  obtain ⟨e1, e2, e3⟩ := h3 len rest id (fun _ => false) (by simp [MapOK, hm]) (by simp [hq])
  exact ⟨e1, ⟨d.pv, .pure e2.pureL, e2.ple⟩, e3⟩

theorem getB_plain {rl : DLb} {s : Sh} {d : DV} {g : GS} {k : GS → Option R} (h : (match s.get 0 d g with
    | some g' => match g'.m, g'.q with
      | [], [] => k g'
      | _, _ => none
    | none => none) = some r) : ∃ g', k g' = some r ∧ GetB rl d g g' s.n s.mk' := by
  split at h
  · rename_i g' hg
    split at h
    · rename_i hm hq; exact ⟨g', h, get_B hg hm hq⟩
    · simp at h
  · simp at h

theorem getB_hole {rl : DLb} {t : ET} {d : DV} {g : GS} {x : t.T} (hx : t.one [d] = some x) : GetB rl d g (g.put ⟨t, x⟩) 1 (Sh.h t).mk' := by
  refine ⟨[⟨t, x⟩], rfl, rfl, fun len rest => ⟨rfl, ?_, (one_ren (τ := id) (S := fun _ => false) hx).2⟩⟩
  have e := (one_ren (τ := id) (S := fun _ => false) hx).1
  exact ⟨d.pv, .pure e.pureL, e.ple⟩

theorem OutLe.ple {L : Lb} {x y z : PV} (h : OutLe L x y) (h' : PLe y z) : OutLe L x z := let ⟨u, h1, h2⟩ := h; ⟨u, h1, h2.trans h'⟩
theorem borL_ok {rl : DLb} : ∀ {ds : List DV} {k : List DV → Option R}, borL rl ds k = some r → ∃ es, k es = some r ∧ (DV.pvs ds).length = (DV.pvs es).length ∧ ∀ (i : Nat) (x y : PV), (DV.pvs ds)[i]? = some x → (DV.pvs es)[i]? = some y → OutLe (dlb rl) x y
  | [], k, h => ⟨[], h, rfl, by simp [DV.pvs]⟩
  | d :: ds, k, h => by
    simp only [borL] at h
    split at h
    · rename_i lab sz off n co w
      split at h
      · rename_i t y hl
        obtain ⟨l, cells, hs, h⟩ := srcL_ok h
        obtain ⟨es, h1, h2, h3⟩ := borL_ok h
        refine ⟨.sl t l :: es, h1, by simp [DV.pvs, h2], fun i x y hx hy => ?_⟩
        cases i with
        | zero =>
          simp [DV.pvs] at hx hy; subst hx; subst hy
          refine src_out hs ?_ ⟨_, _, _, _, _, _, rfl⟩
          obtain ⟨cc, e1, _, _, e4, _⟩ := hs.rw _ _ _ _ _ _ rfl
          rw [← e4]
          rw [lget_dlb, hl] at e1
          exact part_pure (dcPure_ok (c := .ls t _) rfl (by simpa using e1)) _ _
        | succ i => exact h3 i x y (by simpa [DV.pvs] using hx) (by simpa [DV.pvs] using hy)
      · simp at h
    · split at h
      · rename_i hp
        obtain ⟨es, h1, h2, h3⟩ := borL_ok h
        refine ⟨_ :: es, h1, by simp [DV.pvs, h2], fun i x y hx hy => ?_⟩
        cases i with
        | zero =>
          simp [DV.pvs] at hx hy; subst hx; subst hy
          exact ⟨_, .pure (labs_within hp), .refl _⟩
        | succ i => exact h3 i x y (by simpa [DV.pvs] using hx) (by simpa [DV.pvs] using hy)
      · simp at h
theorem one_cle {t : ET} {ds : List DV} {x : t.T} (h : t.one ds = some x) : CLe (DV.pvs ds) (DV.pvs (t.cells x)) := by
  unfold ET.one at h
  split at h
  · rename_i y hy
    simp at h; subst h
    obtain ⟨ds', e, hr⟩ := un_ren (τ := id) (S := fun _ => false) t hy
    rw [List.append_nil] at e; subst e
    rw [cells_pv]
    exact hr.cle
  · simp at h
theorem st_out {rl : DLb} {t : ET} {ds es : List DV} {g : GS} {x : t.T} (hl : (DV.pvs ds).length = (DV.pvs es).length) (ho : ∀ (i : Nat) (x y : PV), (DV.pvs ds)[i]? = some x → (DV.pvs es)[i]? = some y → OutLe (dlb rl) x y) (hx : t.one es = some x) :
    GetB rl (.agg ds) g (g.put ⟨t, x⟩) 1 (Sh.st t).mk' := by
  refine ⟨[⟨t, x⟩], rfl, rfl, fun len rest => ⟨rfl, ?_, cells_ok t x⟩⟩
  have hc := one_cle hx
  obtain ⟨zs, f1, f2, f3⟩ := OutLe.aggs (ys := DV.pvs (t.cells x)) (hl.trans hc.1) fun i a b ha hb => by
    have hi : i < (DV.pvs es).length := by rw [hc.1]; exact (List.getElem?_eq_some_iff.1 hb).1
    have e := List.getElem?_eq_getElem hi
    exact (ho i a _ ha e).ple (hc.2 i _ b e hb)
  exact ⟨.agg zs, .agg f1 f2, .agg f3⟩
theorem out_refl {rl : DLb} {ds : List DV} {t : ET} {x : t.T} (h : t.one ds = some x) : ∀ (i : Nat) (a b : PV), (DV.pvs ds)[i]? = some a → (DV.pvs ds)[i]? = some b → OutLe (dlb rl) a b := by
  intro i a b ha hb
  rw [ha] at hb; simp at hb; subst hb
  unfold ET.one at h
  split at h
  · rename_i y hy
    obtain ⟨ds', e, hr⟩ := un_ren (τ := id) (S := fun _ => false) t hy
    rw [List.append_nil] at e; subst e
    have h1 := hr.get
    have hi : i < ((el t).pv y).length := by rw [← h1.1]; exact (List.getElem?_eq_some_iff.1 ha).1
    exact ⟨_, .pure (h1.2 i a _ ha (List.getElem?_eq_getElem hi)).pureL, .refl _⟩
  · simp at h
mutual
theorem getB_ok {rl : DLb} : ∀ (s : Sh) {d : DV} {g : GS} {k : GS → Option R}, s.getB rl d g k = some r → ∃ g', k g' = some r ∧ GetB rl d g g' s.n s.mk'
  | .h t, d, g, k, h => by
    cases t with
    | tl t =>
      simp only [Sh.getB] at h
      split at h
      · rename_i lab sz off n co w
        split at h
        · rename_i hp
          obtain ⟨l, cells, hs, h⟩ := srcL_ok h
          refine ⟨_, h, [⟨.tl t, l⟩], rfl, rfl, fun len rest => ⟨rfl, src_out hs ?_ ⟨_, _, _, _, _, _, rfl⟩, trivial⟩⟩
          obtain ⟨cc, h1, _, _, h4, _⟩ := hs.rw _ _ _ _ _ _ rfl
          rw [← h4]
          unfold pureAt at hp
          split at hp
          · rename_i c hc
            rw [lget_dlb, hc] at h1
            exact part_pure (dcPure_ok hp (by simpa using h1)) _ _
          · simp at hp
        · simp at h
      · split at h
        · rename_i x hx; exact ⟨_, h, getB_hole hx⟩
        · simp at h
    | ti k' => simp only [Sh.getB] at h; exact getB_plain h
    | tu => simp only [Sh.getB] at h; exact getB_plain h
    | tb => simp only [Sh.getB] at h; exact getB_plain h
    | ts => simp only [Sh.getB] at h; exact getB_plain h
    | tn => simp only [Sh.getB] at h; exact getB_plain h
    | tp a c => simp only [Sh.getB] at h; exact getB_plain h
  | .agg cs, d, g, k, h => by
    simp only [Sh.getB] at h
    split at h
    · rename_i ds
      obtain ⟨g', h, xs, h1, h2, h3⟩ := getBs_ok cs h
      refine ⟨g', h, xs, h1, h2, fun len rest => ?_⟩
      obtain ⟨e1, e2, e3⟩ := h3 len rest
      obtain ⟨zs, f1, f2, f3⟩ := OutLe.aggs e2.1 e2.2
      exact ⟨e1, ⟨.agg zs, .agg f1 f2, .agg f3⟩, e3⟩
    · simp at h
  | .tup cs, d, g, k, h => by
    simp only [Sh.getB] at h
    split at h
    · rename_i ds
      obtain ⟨g', h, xs, h1, h2, h3⟩ := getBs_ok cs h
      refine ⟨g', h, xs, h1, h2, fun len rest => ?_⟩
      obtain ⟨e1, e2, e3⟩ := h3 len rest
      obtain ⟨zs, f1, f2, f3⟩ := OutLe.aggs e2.1 e2.2
      exact ⟨e1, ⟨.tup zs, .tup f1 f2, .tup f3⟩, e3⟩
    · simp at h
  | .k c, d, g, k, h => by simp only [Sh.getB] at h; exact getB_plain h
  | .st t, d, g, k, h => by
    simp only [Sh.getB] at h
    split at h
    · rename_i ds
      split at h
      · obtain ⟨es, h, h1, h2⟩ := borL_ok h
        split at h
        · rename_i x hx; exact ⟨_, h, st_out h1 h2 hx⟩
        · simp at h
      · split at h
        · rename_i x hx; exact ⟨_, h, st_out rfl (out_refl hx) hx⟩
        · simp at h
    · simp at h
  | .ptr l o, d, g, k, h => by simp only [Sh.getB] at h; exact getB_plain h
  | .rww l o, d, g, k, h => by simp only [Sh.getB] at h; exact getB_plain h
  | .rwf l o, d, g, k, h => by simp only [Sh.getB] at h; exact getB_plain h
  | .fn f cs, d, g, k, h => by simp only [Sh.getB] at h; exact getB_plain h
  | .iface t s, d, g, k, h => by simp only [Sh.getB] at h; exact getB_plain h
theorem getBs_ok {rl : DLb} : ∀ (ss : List Sh) {ds : List DV} {g : GS} {k : GS → Option R}, Sh.getBs rl ss ds g k = some r → ∃ g', k g' = some r ∧ GetBs rl ds g g' (Sh.ns ss) (fun len vs => Sh.mks len ss vs)
  | [], ds, g, k, h => by
    simp only [Sh.getBs] at h
    split at h
    · exact ⟨g, h, [], by simp, rfl, fun len rest => ⟨rfl, ⟨rfl, by simp [DV.pvs]⟩, trivial⟩⟩
    · simp at h
  | s :: ss, ds, g, k, h => by
    simp only [Sh.getBs] at h
    split at h
    · simp at h
    · rename_i d ds
      obtain ⟨g1, h, xs, h1, h2, h3⟩ := getB_ok s h
      obtain ⟨g2, h, ys, k1, k2, k3⟩ := getBs_ok ss h
      refine ⟨g2, h, xs ++ ys, by rw [k1, h1, List.append_assoc], by simp [h2, k2, Sh.ns], fun len rest => ?_⟩
      obtain ⟨e1, e2, e3⟩ := h3 len (ys ++ rest)
      obtain ⟨f1, f2, f3⟩ := k3 len rest
      simp only [Sh.mk'] at e1 e2 e3
      simp only [Sh.mks, List.append_assoc]
      rw [e1]
      refine ⟨f1, ⟨by simp [DV.pvs, f2.1], fun i x y hx hy => ?_⟩, e3, f3⟩
      cases i with
      | zero => simp [DV.pvs] at hx hy; subst hx; subst hy; exact e2
      | succ i => exact f2.2 i x y (by simpa [DV.pvs] using hx) (by simpa [DV.pvs] using hy)
end
end
end Go.SH
namespace Go.SH

theorem ACalls.argsLe {E : Env} {f : FuncId} {xs ys : List PV} {L : Lb} {Q : PV → Lb → Prop} (h : ACalls E f ys L Q) (hl : CLe xs ys) : ACalls E f xs L Q := by
  intro A w σ cargs hlen hv hb hg
  refine h A w σ cargs (hlen.trans hl.1) (fun i y v hy hc => ?_) hb hg
  have hi : i < xs.length := by rw [hl.1]; exact (List.getElem?_eq_some_iff.1 hy).1
  exact hl.2 i _ y (List.getElem?_eq_getElem hi) hy _ _ _ _ (hv i _ v (List.getElem?_eq_getElem hi) hc)

/-- What a plain function does: a Lean function. -/
structure PCon (E : Env) where
  f : FuncId
  ar : List Sh
  out : Sh
  fn : HT (Sh.hss ar) → Option (HT out.hs)
  run : ∀ args w, (callFunc f args).run E.P w = .ok (.enter f args) w
  ok : ∀ a v, fn a = some v → Pure E f (DV.pvs (Sh.mks (fun _ => 0) ar (unpack _ a)).1) (out.mk (fun _ => 0) (unpack _ v)).1.pv

def dz0 : Nat → Nat := fun _ => 0
section
variable {E : Env} {d : Option Tmp} {ty : TypeId} {pos : String} {after : Array Edge} {g : Option (Nat × Bool)} {ra : DAl} {rl : DLb} {R : Type} {r : R} {G : GTab} {k : DV → DLb → DL → Option R}

mutual
/-- A shape without names. -/
def Sh.plain : Sh → Bool
  | .h _ => true
  | .st _ => true
  | .k _ => true
  | .fn _ cs => Sh.plains cs
  | .iface _ s => s.plain
  | .agg cs => Sh.plains cs
  | .tup cs => Sh.plains cs
  | _ => false
def Sh.plains : List Sh → Bool
  | [] => true
  | s :: r => s.plain && Sh.plains r
end
def constOK : DV → Bool
  | .dead => true
  | .nilp => true
  | .nils => true
  | .nilf => true
  | .nili => true
  | .int _ _ => true
  | .bool _ => true
  | _ => false
theorem constOK_ok {d : DV} (h : constOK d = true) : d.ok := by cases d <;> simp [constOK] at h <;> trivial
theorem oneDV_ok (t : ET) (x : t.T) : (oneDV (t.cells x)).ok := by
  unfold oneDV
  split
  · rename_i d hd; have := cells_ok t x; rw [hd] at this; exact this.1
  · trivial
mutual
def Sh.kOK : Sh → Bool
  | .k c => constOK c
  | .fn _ cs => Sh.kOKs cs
  | .iface _ s => s.kOK
  | .agg cs => Sh.kOKs cs
  | .tup cs => Sh.kOKs cs
  | _ => true
def Sh.kOKs : List Sh → Bool
  | [] => true
  | s :: r => s.kOK && Sh.kOKs r
end
mutual
theorem mk_ok (len : Nat → Nat) : ∀ (s : Sh) (vs : List TV), s.kOK = true → (s.mk len vs).1.ok
  | .h t, vs, _ => by
    simp only [Sh.mk]
    split
    · exact oneDV_ok _ _
    · trivial
  | .st t, vs, _ => by
    simp only [Sh.mk]
    split
    · exact cells_ok _ _
    · trivial
  | .k c, vs, h => constOK_ok h
  | .ptr _ _, _, _ => trivial
  | .rww _ _, _, _ => trivial
  | .rwf _ _, _, _ => trivial
  | .fn f cs, vs, h => mks_ok len cs vs h
  | .iface t s, vs, h => mk_ok len s vs h
  | .agg cs, vs, h => mks_ok len cs vs h
  | .tup cs, vs, h => mks_ok len cs vs h
theorem mks_ok (len : Nat → Nat) : ∀ (ss : List Sh) (vs : List TV), Sh.kOKs ss = true → DV.oks (Sh.mks len ss vs).1
  | [], _, _ => trivial
  | s :: ss, vs, h => by
    simp only [Sh.kOKs, Bool.and_eq_true] at h
    exact ⟨mk_ok len s vs h.1, mks_ok len ss _ h.2⟩
end

def dCallP (rl : DLb) (con : PCon E) (f : FuncId) (args : List DV) (k : DV → DLb → DL → Option R) : Option R :=
  if con.f = f ∧ con.out.kOK = true then Sh.getBs rl con.ar args ⟨[], [], []⟩ fun g => match pack (Sh.hss con.ar) g.vs with
    | some a => (con.fn a).bind fun v => if (DV.labsL (fun _ => false) args || noRo (con.out.mk dz0 (unpack _ v)).1.pv) = true then k (con.out.mk dz0 (unpack _ v)).1 [] [] else none
    | none => none else none
theorem dCallP_ok (hG : E.G = gtPV G) (hE : GOK E) (hal : alOk ra) {con : PCon E} {f : FuncId} {fo : Operand} {args : Array Operand} {ts : Array TypeId} {caps xs : List DV} (hf : dev G ra fo = some (.fn f caps)) (hx : devs G ra args.toList = some xs)
    (h : dCallP rl con f (xs ++ caps) k = some r) : OpS E ⟨d, .call ⟨.value fo, args, ts⟩, ty, pos, after, g⟩ ra rl k r := by
  obtain ⟨hf', hfo⟩ := dev_ok hal hf
  obtain ⟨hx', hxo⟩ := devs_ok hal hx
  rw [← hG] at hf' hx'
  unfold dCallP at h
  split at h
  · rename_i e; obtain ⟨e, ho⟩ := e; subst e
    obtain ⟨g', h, as, h1, h2, h3⟩ := getBs_ok con.ar h
    split at h
    · rename_i a ha
      obtain ⟨v, hv, h⟩ := bind_some h
      split at h
      · rename_i hp
        have hu := pack_ok ha
        obtain ⟨_, hB, _⟩ := h3 (fun _ => 0) []
        have h1' : g'.vs = as := by rw [h1]; rfl
        rw [List.append_nil, ← h1', ← hu] at hB
        have hP := con.ok a v hv
        obtain ⟨zs, z1, z2, z3⟩ := OutLe.aggs hB.1 hB.2
        have hA := AOp_call (d := d) (ty := ty) (pos := pos) (after := after) (g := g) (ts := ts) (rl := dlb rl) (v := (con.out.mk dz0 (unpack _ v)).1.pv) hf' hx' con.run hE (by rw [pvs_append] at z1; exact z1) (by rw [pvs_append] at z2; exact z2) (hP.argsLe z3) (by
          simp only [Bool.or_eq_true] at hp
          rcases hp with hp | hp
          · left; have := labsL_within hp; rwa [pvs_append] at this
          · exact .inr hp)
        exact .val hA (mk_ok _ _ _ ho) h
      · simp at h
    · simp at h
  · simp at h

/-! ### new slices, conversions -/
theorem zrow_fl {t : ET} {z : List DV} {x : t.T} {c : Nat} (hz : z.length = t.sz) (hx : CLe (DV.pvs z) ((el t).pv x)) : CLe (zrow (DV.pvs z) (c * t.sz)) (fl (el t) (List.replicate c x)) := by
  have hl : (zrow (DV.pvs z) (c * t.sz)).length = c * t.sz := by simp [zrow]
  refine ⟨by rw [hl, fl_length, el_sz]; simp, fun i a b ha hb => ?_⟩
  have hi : i < c * t.sz := by rw [← hl]; exact (List.getElem?_eq_some_iff.1 ha).1
  have hm : i % t.sz < t.sz := Nat.mod_lt _ t.sz_pos
  have hq : i / t.sz < c := Nat.div_lt_of_lt_mul (by rw [Nat.mul_comm]; exact hi)
  have e : i = i / t.sz * (el t).sz + i % t.sz := by rw [el_sz, Nat.mul_comm]; exact (Nat.div_add_mod i t.sz).symm
  rw [e, fl_get (by rw [List.getElem?_replicate, if_pos hq]) (by rw [el_sz]; exact hm)] at hb
  simp only [zrow, List.getElem?_map, List.getElem?_range hi, Option.map_some, Option.some.injEq, pvs_length, hz] at ha
  have hzl : i % t.sz < (DV.pvs z).length := by rw [pvs_length, hz]; exact hm
  have ha' : (DV.pvs z)[i % t.sz]? = some a := by
    rw [← ha, List.getD_eq_getElem?_getD, List.getElem?_eq_getElem hzl]; rfl
  exact hx.2 _ a b ha' hb
def sameO : Operand → Operand → Bool
  | .tmp a, .tmp b => Nat.beq a b
  | _, _ => false
def dMakeSlice (P : Program) (nl : Nat) (T : TypeId) (w : Bool) (x y : DV) (k : DV → DLb → DL → Option R) : Option R := match elemOf P T with
  | some (ie, z, t) => match t.one z with
    | some z0 => match intOf x, intOf y with
      | some (_, n), some (_, c) => req (0 ≤ n ∧ n ≤ c ∧ c.toNat * ie.bytes ≤ maxBy) (k (.rw nl t.sz 0 n.toNat (some c.toNat) w) [(nl, .ls t (List.replicate c.toNat z0))] [(nl, none)])
      | _, _ => none
    | none => none
  | none => none
theorem dMakeSlice_ok (hG : E.G = gtPV G) (hal : alOk ra) {nl : Nat} (hn : lget rl nl = none) {T : TypeId} {x y : Operand} {w : Bool} {a b : DV} (hx : dev G ra x = some a) (hy : dev G ra y = some b)
    (h : dMakeSlice E.P nl T w a b k = some r) : OpS E ⟨d, .makeSlice T x y, ty, pos, after, g⟩ ra rl k r := by
  have hx' := (dev_ok hal hx).1
  have hy' := (dev_ok hal hy).1
  rw [← hG] at hx' hy'
  unfold dMakeSlice at h
  split at h
  · rename_i ie z t he
    obtain ⟨e, hu, hie, hz, hz2, hzl, hpos, hsz, hby⟩ := elemOf_ok he
    split at h
    · rename_i z0 hz0
      split at h
      · rename_i _ n _ c ha hb
        obtain ⟨⟨h0, h1, h2⟩, h⟩ := req_some h
        rw [intOf_pv ha, show n = ((n.toNat : Nat) : Int) from by omega] at hx'
        rw [intOf_pv hb, show c = ((c.toNat : Nat) : Int) from by omega] at hy'
        unfold maxBy at h2
        have hc2 : c.toNat ≤ 9223372036854775807 := Nat.le_trans (Nat.le_mul_of_pos_right _ hby) (by omega)
        have hA := AOp_makeSlice (d := d) (ty := ty) (pos := pos) (after := after) (g := g) (rl := dlb rl) nl hx' hy' hu hie hz (by rw [pvs_length]; exact hzl) hpos (by omega) h2 hc2 (by simp [lget_dlb, hn])
        refine ⟨.rw nl t.sz 0 n.toNat (some c.toNat) w, [(nl, .ls t (List.replicate c.toNat z0))], _, AOp.weak hA ?_ (.one ?_), trivial, ?_, ?_, h⟩
        · rw [hsz]; simp [DV.pv]; exact .refl _
        · rw [hsz]; exact zrow_fl (by rw [hzl, hsz]) (one_le hz0)
        · intro p hp; simp at hp; subst hp; trivial
        · intro p hp; simp at hp; subst hp; exact .inl (by simp)
      · simp at h
    · simp at h
  · simp at h

def dConv (P : Program) (rl : DLb) (nl : Nat) (s t : TypeId) (a : DV) (k : DV → DLb → DL → Option R) : Option R := match P.underlying t with
  | some (.int kk) => match intOf a with
    | some (_, n) => match P.underlying s with
      | some _ => k (ofInt kk (kk.wrap n)) [] []
      | none => none
    | none => none
  | some .string => match P.underlying s with
    | some .string => match a with
      | .str bs => k (.str bs) [] []
      | _ => none
    | some (.slice e) => match P.underlying e with
      | some (.int .u8) => srcL rl .tu a fun bs => k (.str bs) [] []
      | some (.int .i32) => srcL rl (.ti .i32) a fun ns => k (.str (runesL ns)) [] []
      | _ => none
    | _ => none
  | some (.slice e) => match P.underlying e with
    | some (.int .u8) => match P.underlying s with
      | some .string => match a with
        | .str bs => k (.rw nl 1 0 bs.length none true) [(nl, .ls .tu bs)] [(nl, none)]
        | _ => none
      | _ => none
    | _ => none
  | _ => none
theorem dConv_ok (hG : E.G = gtPV G) (hal : alOk ra) {nl : Nat} (hn : lget rl nl = none) {s t : TypeId} {x : Operand} {a : DV} (hx : dev G ra x = some a)
    (h : dConv E.P rl nl s t a k = some r) : OpS E ⟨d, .convert s t x, ty, pos, after, g⟩ ra rl k r := by
  have hx' := (dev_ok hal hx).1
  rw [← hG] at hx'
  unfold dConv at h
  split at h
  · rename_i kk hu
    split at h
    · rename_i _ n ha
      split at h
      · rename_i _ hs
        rw [intOf_pv ha] at hx'
        refine .val (AOp.weak (AOp_convert hx' (q := .int kk (kk.wrap n)) (by simp [xconv, hs, hu])) ?_ .nil) (ofInt_ok _ _) h
        rw [ofInt_pv (fun e => by subst e; exact wrap_u8_range _)]; exact .refl _
      · simp at h
    · simp at h
  · rename_i hu
    split at h
    · rename_i hs
      split at h
      · exact .val (x := .str _) (AOp_convert hx' (by simp [xconv, hs, hu, DV.pv])) trivial h
      · simp at h
    · rename_i e hs
      split at h
      · rename_i he
        obtain ⟨bs, cells, hc, h⟩ := srcL_ok h
        have e1 := hc.u8 (.inl rfl)
        have e2 := hc.slc
        rw [e1, show fl (el .tu) bs = bytesPV bs from (bytesPV_fl bs).symm] at e2
        exact .val (x := .str bs) (AOp_bytesStr hx' hs he hu e2) trivial h
      · rename_i he
        obtain ⟨ns, cells, hc, h⟩ := srcL_ok h
        have e1 := hc.u8 (.inr rfl)
        have e2 := hc.slc
        rw [e1, fl_ints] at e2
        exact .val (x := .str (runesL ns)) (AOp_runesStr hx' hs he hu e2) trivial h
      · simp at h
    · simp at h
  · rename_i e hu
    split at h
    · rename_i he
      split at h
      · rename_i hs
        split at h
        · rename_i bs
          refine .new (x := .rw nl 1 0 bs.length none true) (c := .ls .tu bs) ?_ trivial trivial h
          have := AOp_strBytes (d := d) (ty := ty) (pos := pos) (after := after) (g := g) (rl := dlb rl) nl hx' hs hu he (by simp [lget_dlb, hn])
          simpa [DV.pv, DC.pv, el] using this
        · simp at h
      · simp at h
    · simp at h
  · simp at h

/-! ### all of them -/
structure OH where
  split : Bool := false
  sel : Bool := false
  fz : List (Nat × ET) := []
  con : Nat := 0
  io : Option Nat := none
  nq : Bool := false

def dOp (E : Env) (G : GTab) (C : Nat → Option (PCon E)) (oh : OH) (o : Oper) (al : DAl) (L : DLb) (nl : Nat) (k : DV → DLb → DL → Option R) : Option R := match o.op with
  | .move x => match dev G al x with
    | some v => k v [] []
    | none => none
  | .assign x => match dev G al x with
    | some v => k v [] []
    | none => none
  | .pick c x y => dPick G al c x y k
  | .binOp op T x y _ => match dev G al x, dev G al y with
    | some a, some b => dBin E.P op T x y a b fun v => k v [] []
    | _, _ => none
  | .unOp op _ x => match dev G al x with
    | some a => dUn op a fun v => k v [] []
    | none => none
  | .convert s t x => match dev G al x with
    | some a => dConv E.P L nl s t a k
    | none => none
  | .load T p => match dev G al p with
    | some q => dLoad E.P T L q fun v => k v [] []
    | none => none
  | .store T p v => match o.dst with
    | none => match dev G al p, dev G al v with
      | some a, some b => dStore E.P T L a b k
      | _, _ => none
    | some _ => none
  | .box _ x => match dev G al x with
    | some v => dBox nl v k
    | none => none
  | .alloc T => dAlloc E.P T nl k
  | .build T ps => dBuild E.P G al T ps.toList k
  | .buildSlice T len ps => dBuildSlice E.P G al nl T len ps.toList k
  | .fieldAddr S x f => match dev G al x with
    | some p => dFieldAddr E.P S f p k
    | none => none
  | .field S x f => match dev G al x with
    | some p => dField E.P S f p k
    | none => none
  | .extract x i => match dev G al x with
    | some p => dExtract p i k
    | none => none
  | .makeFunc (.func f) first caps => match first with
    | ⟨[]⟩ => dMakeFunc G al f caps.toList k
    | _ => none
  | .makeInterface T x => match dev G al x with
    | some p => dMakeIface E.P T p k
    | none => none
  | .nilCheck x => match dev G al x with
    | some p => dNilCheck p k
    | none => none
  | .indexAddr T x ix => match dev G al x, dev G al ix with
    | some p, some q => match intOf q with
      | some (_, i) => dIndexAddr E.P oh.sel T L p i k
      | none => none
    | _, _ => none
  | .index T x ix => match dev G al x, dev G al ix with
    | some p, some q => match intOf q with
      | some (_, i) => dIndex E.P oh.sel T p i k
      | none => none
    | _, _ => none
  | .slice T x lo hi mx => match mx with
    | none => match dev G al x with
      | some p => dSlice E.P G al T L p lo hi k
      | none => none
    | some _ => none
  | .makeSlice T x y => match dev G al x, dev G al y with
    | some a, some b => dMakeSlice E.P nl T (sameO x y) a b k
    | _, _ => none
  | .call ⟨.builtin .len, ⟨[x]⟩, ⟨[t]⟩⟩ => dLen E.P t (dev G al x) k
  | .call ⟨.builtin .min, xs, _⟩ => dMinMax false G al xs.toList k
  | .call ⟨.builtin .max, xs, _⟩ => dMinMax true G al xs.toList k
  | .call ⟨.builtin .append, ⟨[x, y]⟩, ⟨[T, tx]⟩⟩ => match dev G al x, dev G al y with
    | some p, some q => dAppend E.P L nl T tx p q k
    | _, _ => none
  | .call ⟨.builtin .copy, ⟨[x, y]⟩, ⟨[T, _]⟩⟩ => match dev G al x, dev G al y with
    | some p, some q => dCopy E.P L T p q k
    | _, _ => none
  | .call ⟨.value fo, args, _⟩ => match dev G al fo with
    | some (.fn f caps) => match devs G al args.toList with
      | some xs => match C oh.con with
        | some con => dCallP L con f (xs ++ caps) k
        | none => none
      | none => none
    | _ => none
  | _ => none

theorem dOp_ok (hG : E.G = gtPV G) (hE : GOK E) {C : Nat → Option (PCon E)} {oh : OH} {o : Oper} {nl : Nat} (hal : alOk ra) (hrl : lbOk rl) (hn : lget rl nl = none) (h : dOp E G C oh o ra rl nl k = some r) : OpS E o ra rl k r := by
  obtain ⟨dst, op, ty, pos, after, g⟩ := o
  unfold dOp at h
  simp only at h
  split at h
  case h_1 x =>
    split at h
    · rename_i v hv; obtain ⟨h1, h2⟩ := dev_ok hal hv; rw [← hG] at h1; exact .val (AOp_move h1) h2 h
    · simp at h
  case h_2 x =>
    split at h
    · rename_i v hv; obtain ⟨h1, h2⟩ := dev_ok hal hv; rw [← hG] at h1; exact .val (AOp_assign h1) h2 h
    · simp at h
  case h_3 => exact dPick_ok hG hal h
  case h_4 =>
    split at h
    · rename_i a b ha hb; exact dBin_ok hG hal ha hb h
    · simp at h
  case h_5 =>
    split at h
    · rename_i a ha; exact dUn_ok hG hal ha h
    · simp at h
  case h_6 =>
    split at h
    · rename_i a ha; exact dConv_ok hG hal hn ha h
    · simp at h
  case h_7 =>
    split at h
    · rename_i a ha; exact dLoad_ok hG hal hrl ha h
    · simp at h
  case h_8 =>
    split at h
    · split at h
      · rename_i a b ha hb; exact dStore_ok hG hal hrl ha hb h
      · simp at h
    · simp at h
  case h_9 =>
    split at h
    · rename_i a ha; exact dBox_ok hG hal hn ha h
    · simp at h
  case h_10 => exact dAlloc_ok hn h
  case h_11 => exact dBuild_ok hG hal h
  case h_12 => exact dBuildSlice_ok hG hal hn h
  case h_13 =>
    split at h
    · rename_i a ha; exact dFieldAddr_ok hG hal ha h
    · simp at h
  case h_14 =>
    split at h
    · rename_i a ha; exact dField_ok hG hal ha h
    · simp at h
  case h_15 =>
    split at h
    · rename_i a ha; exact dExtract_ok hG hal ha h
    · simp at h
  case h_16 =>
    split at h
    · exact dMakeFunc_ok hG hal h
    · simp at h
  case h_17 =>
    split at h
    · rename_i a ha; exact dMakeIface_ok hG hal ha h
    · simp at h
  case h_18 =>
    split at h
    · rename_i a ha; exact dNilCheck_ok hG hal ha h
    · simp at h
  case h_19 =>
    split at h
    · rename_i a b ha hb
      split at h
      · rename_i _ i hi; exact dIndexAddr_ok hG hal ha hb hi h
      · simp at h
    · simp at h
  case h_20 =>
    split at h
    · rename_i a b ha hb
      split at h
      · rename_i _ i hi; exact dIndex_ok hG hal ha hb hi h
      · simp at h
    · simp at h
  case h_21 =>
    split at h
    · split at h
      · rename_i a ha; exact dSlice_ok hG hal ha h
      · simp at h
    · simp at h
  case h_22 =>
    split at h
    · rename_i a b ha hb; exact dMakeSlice_ok hG hal hn ha hb h
    · simp at h
  case h_23 => exact dLen_ok hG hal (fun q hq => hq) h
  case h_24 => exact dMinMax_ok (mx := false) hG hal h
  case h_25 => exact dMinMax_ok (mx := true) hG hal h
  case h_26 =>
    split at h
    · rename_i a b ha hb; exact dAppend_ok hG hal hn ha hb h
    · simp at h
  case h_27 =>
    split at h
    · rename_i a b ha hb; exact dCopy_ok hG hal ha hb h
    · simp at h
  case h_28 =>
    split at h
    · rename_i f caps hf
      split at h
      · rename_i xs hx
        split at h
        · rename_i con hc; exact dCallP_ok hG hE hal hf hx h
        · simp at h
      · simp at h
    · simp at h
  case h_29 => simp at h
end

def LSh.kOK : LSh → Bool
  | .ls _ => true
  | .cs ss => Sh.kOKs ss
def Tm.kOK (tm : Tm) : Bool := tm.slots.all (fun p => p.2.kOK) && tm.labs.all (fun p => p.2.kOK) && tm.cups.all fun p => p.2.2.kOK
theorem mkS_ok {len : Nat → Nat} : ∀ {sl : List (Nat × Sh)} {vs : List TV}, sl.all (fun p => p.2.kOK) = true → ∀ p ∈ (mkS len sl vs).1, p.2.ok
  | [], vs, _ => by simp [mkS]
  | (t, s) :: sl, vs, h => by
    simp only [List.all_cons, Bool.and_eq_true] at h
    intro p hp
    simp only [mkS] at hp
    rcases List.mem_cons.1 hp with rfl | hp
    · exact mk_ok len s vs h.1
    · exact mkS_ok h.2 p hp
theorem mkL_okk {len : Nat → Nat} : ∀ {sl : List (Nat × LSh)} {vs : List TV}, sl.all (fun p => p.2.kOK) = true → ∀ p ∈ (mkL len sl vs).1, p.2.ok
  | [], vs, _ => by simp [mkL]
  | (t, s) :: sl, vs, h => by
    simp only [List.all_cons, Bool.and_eq_true] at h
    intro p hp
    simp only [mkL] at hp
    rcases List.mem_cons.1 hp with rfl | hp
    · cases s with
      | ls t => simp only [LSh.mk]; split <;> trivial
      | cs ss => exact mks_ok len ss vs h.1
    · exact mkL_okk h.2 p hp
theorem mkC_okk {len : Nat → Nat} : ∀ {sl : List (Nat × Nat × Sh)} {vs : List TV}, sl.all (fun p => p.2.2.kOK) = true → ∀ p ∈ (mkC len sl vs).1, p.2.2.ok
  | [], vs, _ => by simp [mkC]
  | (t, i, s) :: sl, vs, h => by
    simp only [List.all_cons, Bool.and_eq_true] at h
    intro p hp
    simp only [mkC] at hp
    rcases List.mem_cons.1 hp with rfl | hp
    · exact mk_ok len s vs h.1
    · exact mkC_okk h.2 p hp
theorem app_ok {tm : Tm} (h : tm.kOK = true) (v : tm.T) {b : St} (hb : b.ok) : (tm.app v b).ok := by
  simp only [Tm.kOK, Bool.and_eq_true] at h
  refine ⟨fun t x hx => ?_, fun l c hl => ?_⟩
  · simp only [Tm.app, Tm.appL] at hx
    rcases lget_appM hx with ⟨p, hp, rfl⟩ | ⟨_, hx⟩
    · exact mkS_ok h.1.1 _ hp
    · exact hb.1 _ _ (ded_mem (mem_of_lget hx)).2
  · simp only [Tm.app, Tm.appL] at hl
    rcases lget_appM hl with ⟨p, hp, rfl⟩ | ⟨_, hl⟩
    · exact mkL_okk h.1.2 _ hp
    · obtain ⟨⟨l', c0⟩, hp, e⟩ := List.mem_map.1 (mem_of_lget hl)
      simp only [Prod.mk.injEq] at e; obtain ⟨rfl, rfl⟩ := e
      have hok := hb.2 _ _ (ded_mem hp).2
      cases c0 with
      | gone => simp only [cupL]; split <;> trivial
      | ls t x => simp only [cupL]; split <;> trivial
      | cs cs0 =>
        simp only [cupL]
        split
        · trivial
        · refine oks_iff.2 fun x hx => ?_
          obtain ⟨i, hi⟩ := List.getElem?_of_mem hx
          rw [cupM_get] at hi
          cases hc0 : cs0[i]? with
          | none => rw [hc0] at hi; simp at hi
          | some d0 =>
            rw [hc0] at hi
            simp only [Option.map_some, Option.some.injEq, Nat.zero_add] at hi
            subst hi
            rcases cupD_or _ l' i d0 with ⟨h5, _⟩ | ⟨c, h5, _, _, h8⟩
            · rw [h5]; exact oks_get hok hc0
            · rw [h8]; exact mkC_okk h.2 c h5

end Go.SH
namespace Go.SH

mutual
def PV.rn (τ : Nat → Nat) : PV → PV
  | .ptr l o => .ptr (τ l) o
  | .rw l o n sz co => .rw (τ l) o n sz co
  | .rop cs o => .rop (PV.rns τ cs) o
  | .ro cs n co => .ro (PV.rns τ cs) n co
  | .fn f cs => .fn f (PV.rns τ cs)
  | .iface t v => .iface t (v.rn τ)
  | .agg cs => .agg (PV.rns τ cs)
  | .tup cs => .tup (PV.rns τ cs)
  | .yld n ps a b ts vs => .yld n ps a b ts (PV.rns τ vs)
  | x => x
def PV.rns (τ : Nat → Nat) : List PV → List PV
  | [] => []
  | x :: r => x.rn τ :: PV.rns τ r
end
theorem rns_eq (τ : Nat → Nat) : ∀ l : List PV, PV.rns τ l = l.map (PV.rn τ)
  | [] => rfl
  | x :: r => by simp [PV.rns, rns_eq τ r]
theorem rns_get {τ : Nat → Nat} {l : List PV} {i : Nat} {y : PV} (h : (PV.rns τ l)[i]? = some y) : ∃ x, l[i]? = some x ∧ y = x.rn τ := by
  rw [rns_eq, List.getElem?_map] at h
  cases hx : l[i]? with
  | none => rw [hx] at h; simp at h
  | some x => rw [hx] at h; simp at h; exact ⟨x, rfl, h.symm⟩
theorem rns_len (τ : Nat → Nat) (l : List PV) : (PV.rns τ l).length = l.length := by simp [rns_eq]

theorem VR.rnT {w : World} {σ σ' : Sig} {av av' : Nat → Prop} {τ : Nat → Nat} {S : Nat → Bool} (hσ : ∀ l, S l = true → σ' (τ l) = σ l) (hav : ∀ β, ¬ av β → ¬ av' β) {x : PV} {v : Value} (h : VR w σ av x v) : within S x = true → VR w σ' av' (x.rn τ) v := by
  have imm : ∀ {β add cs}, Imm w av β add cs → Imm w av' β add cs := fun h => ⟨h.lt, hav _ h.na, h.cell⟩
  have key : ∀ {cells : List PV} {cs : List Value}, (∀ (i : Nat) (x : PV) (v : Value), cells[i]? = some x → cs[i]? = some v → within S x = true → VR w σ' av' (x.rn τ) v) → withinL S cells = true →
      ∀ (i : Nat) (y : PV) (u : Value), (PV.rns τ cells)[i]? = some y → cs[i]? = some u → VR w σ' av' y u := by
    intro cells cs ih hw i y u hy hu
    obtain ⟨x, h1, rfl⟩ := rns_get hy
    exact ih i x u h1 hu (withinL_get hw h1)
  induction h with
  | dead => exact fun _ => .dead
  | int k n => exact fun _ => .int k n
  | bool b => exact fun _ => .bool b
  | str l => exact fun _ => .str l
  | nilp => exact fun _ => .nilp
  | ptr h => exact fun hw => .ptr (by rw [hσ _ hw]; exact h)
  | rop cs him hl hv ih => exact fun hw => .rop cs (imm him) (by rw [rns_len]; exact hl) (key ih hw)
  | nils => exact fun _ => .nils
  | roE a cap hc => exact fun _ => .roE a cap hc
  | ro cs him hl hv hn hc ih => exact fun hw => .ro cs (imm him) (by rw [rns_len]; exact hl) (key ih hw) hn hc
  | rwE a hc => exact fun _ => .rwE a hc
  | rw h hn hc hs => exact fun hw => .rw (by rw [hσ _ hw]; exact h) hn hc hs
  | fn f cs hl hv ih => exact fun hw => .fn f cs (by rw [rns_len]; exact hl) (key ih hw)
  | nilf => exact fun _ => .nilf
  | iface t v _ ih => exact fun hw => .iface t v (ih hw)
  | nili => exact fun _ => .nili
  | agg cs hl hv ih => exact fun hw => .agg cs (by rw [rns_len]; exact hl) (key ih hw)
  | tup cs hl hv ih => exact fun hw => .tup cs (by rw [rns_len]; exact hl) (key ih hw)
  | yld l fn dfr tmps cs hn hl hz hc ht hv ih =>
    intro hw
    simp only [within, Bool.and_eq_true] at hw
    exact .yld l fn dfr tmps cs (hav _ hn) hl hz (by rw [rns_len]; exact hc) ht (key ih hw.2)

open Classical in
theorem ACalls.ren {E : Env} {f : FuncId} {xs ys : List PV} {L1 L2 LL1 LL2 : Lb} {τ : Nat → Nat} {V1 : PV} (h : ACalls E f ys L1 fun r L' => r = V1 ∧ L' = LL1) (hlen : xs.length = ys.length)
    (ha : ∀ (i : Nat) (x y : PV), xs[i]? = some x → ys[i]? = some y → Ren τ (hasL L1) x y) (hb : ∀ l c, lget L1 l = some c → ∃ cells xs, c = some cells ∧ lget L2 (τ l) = some (some xs) ∧ RenC τ (hasL L1) xs cells)
    (hcov : ∀ k, lget L2 k ≠ none → ∃ l, lget L1 l ≠ none ∧ τ l = k) (hinj : ∀ l l', lget LL1 l ≠ none → lget LL1 l' ≠ none → τ l = τ l' → l = l') (hdom : ∀ l, lget L1 l ≠ none → lget LL1 l ≠ none)
    (hV : within (hasL LL1) V1 = true) (hC : ∀ l cells, lget LL1 l = some (some cells) → withinL (hasL LL1) cells = true) (hLL : ∀ l c, lget LL1 l = some c → lget LL2 (τ l) = some (c.map (PV.rns τ)))
    (hLL' : ∀ k, lget LL2 k ≠ none → ∃ l, lget LL1 l ≠ none ∧ τ l = k) (hG : GOK E) : ACalls E f xs L2 fun r L' => r = V1.rn τ ∧ L' = LL2 := by
  intro A w σ cargs hl hv hbr hg
  let σ1 : Sig := fun l => if hasL L1 l then σ (τ l) else none
  have hS : ∀ l, hasL L1 l = true → σ1 l = σ (τ l) := fun l h => by simp [σ1, h]
  have hne : ∀ {L : Lb} {l : Nat}, lget L l ≠ none → hasL L l = true := fun h => by simpa [hasL, Option.isSome_iff_ne_none] using h
  have hav : ∀ β, avOf σ1 L1 β → avOf σ L2 β := by
    rintro β ⟨l, cells, x, s, h1, h2⟩
    rw [hS l (by simp [hasL, h1])] at h2
    obtain ⟨cells', xs', _, h3, _⟩ := hb l _ h1
    exact ⟨_, xs', x, s, h3, h2⟩
  have havo : ∀ β, ¬ avo A σ L2 β → ¬ avo A σ1 L1 β := fun β hn hh => hn (hh.imp id (hav β))
  have hb1 : BR w σ1 A L1 := by
    refine ⟨fun l cells hl => ?_, ?_, ?_, ?_⟩
    · obtain ⟨cells', xs', e, h1, h2⟩ := hb l _ hl
      simp at e; subst e
      have hh : hasL L1 l = true := by simp [hasL, hl]
      obtain ⟨e1, e2⟩ := h2.get
      rcases hbr.all _ xs' h1 with ⟨h3, h4⟩ | ⟨β, add, size, c, T, fr, hB⟩
      · exact .inl ⟨by rw [hS l hh]; exact h3, by subst h4; simpa using e1.symm⟩
      · refine .inr ⟨β, add, size, c, T, fr, ⟨by rw [hS l hh]; exact hB.sig, hB.heap, hB.hsz, e1 ▸ hB.fits, fun i y hy => ?_, hB.frs⟩⟩
        have hi : i < xs'.length := by rw [e1]; exact (List.getElem?_eq_some_iff.1 hy).1
        obtain ⟨v, h5, h6⟩ := hB.vals i _ (List.getElem?_eq_getElem hi)
        exact ⟨v, h5, h6.ren hS havo (e2 i _ y (List.getElem?_eq_getElem hi) hy)⟩
    · intro l l' c c' β a s a' s' h1 h2 h3 h4
      rw [hS l (by simp [hasL, h1])] at h3
      rw [hS l' (by simp [hasL, h2])] at h4
      obtain ⟨_, _, _, h5, _⟩ := hb l _ h1
      obtain ⟨_, _, _, h6, _⟩ := hb l' _ h2
      exact hinj l l' (hdom l (by rw [h1]; simp)) (hdom l' (by rw [h2]; simp)) (hbr.inj _ _ _ _ β a s a' s' h5 h6 h3 h4)
    · intro l x h1
      by_cases hh : hasL L1 l = true
      · simp only [hasL, Option.isSome_iff_ne_none] at hh; exact hh
      · simp [σ1, hh] at h1
    · intro β hA
      obtain ⟨h1, h2⟩ := hbr.lo β hA
      exact ⟨h1, fun ha => h2 (hav β ha)⟩
  refine (h A w σ1 cargs (by omega) (fun i y u hy hu => ?_) hb1 (fun g cells hgc => Env.pureG hG hgc (hg g cells hgc) havo)).mono ?_
  · have hi : i < xs.length := by rw [hlen]; exact (List.getElem?_eq_some_iff.1 hy).1
    exact (hv i _ u (List.getElem?_eq_getElem hi) hu).ren hS havo (ha i _ y (List.getElem?_eq_getElem hi) hy)
  · rintro e w' ⟨r, c, L', σ1', rfl, ⟨rfl, rfl⟩, hvr, hbr', hgr⟩
    let σ2 : Sig := fun k => if h : ∃ l, lget L' l ≠ none ∧ τ l = k then σ1' h.choose else none
    have h2 : ∀ l, lget L' l ≠ none → σ2 (τ l) = σ1' l := by
      intro l hl
      have he : ∃ l', lget L' l' ≠ none ∧ τ l' = τ l := ⟨l, hl, rfl⟩
      have : he.choose = l := hinj _ _ he.choose_spec.1 hl he.choose_spec.2
      simp only [σ2, he, dif_pos, this]
    have h2' : ∀ l, hasL L' l = true → σ2 (τ l) = σ1' l := fun l hl => h2 l (by simpa [hasL, Option.isSome_iff_ne_none] using hl)
    have back : ∀ {k : Nat} {cells' : List PV}, lget LL2 k = some (some cells') → ∃ l cells, τ l = k ∧ lget L' l = some (some cells) ∧ cells' = PV.rns τ cells := by
      intro k cells' hk
      obtain ⟨l, h3, rfl⟩ := hLL' k (by rw [hk]; simp)
      cases h4 : lget L' l with
      | none => exact absurd h4 h3
      | some c =>
        have := hLL l c h4
        rw [hk] at this
        cases c with
        | none => simp at this
        | some cells => simp at this; exact ⟨l, cells, rfl, h4, this⟩
    have hav2 : ∀ β, avOf σ2 LL2 β → avOf σ1' L' β := by
      rintro β ⟨k, cells', a, s, h3, h4⟩
      obtain ⟨l, cells, rfl, h5, _⟩ := back h3
      rw [h2 l (by rw [h5]; simp)] at h4
      exact ⟨l, cells, a, s, h5, h4⟩
    have havo2 : ∀ β, ¬ avo A σ1' L' β → ¬ avo A σ2 LL2 β := fun β hn hh => hn (hh.imp id (hav2 β))
    refine ⟨_, c, _, σ2, rfl, ⟨rfl, rfl⟩, hvr.rnT h2' havo2 hV, ⟨?_, ?_, ?_, ?_⟩, ⟨hgr.size, ?_, ?_, hgr.out⟩⟩
    · intro k cells' hk
      obtain ⟨l, cells, rfl, h5, rfl⟩ := back hk
      have hl := h2 l (by rw [h5]; simp)
      rcases hbr'.all l cells h5 with ⟨h6, h7⟩ | ⟨β, add, size, cc, T, fr, hB⟩
      · exact .inl ⟨by rw [hl]; exact h6, by subst h7; rfl⟩
      · refine .inr ⟨β, add, size, cc, T, fr, ⟨by rw [hl]; exact hB.sig, hB.heap, hB.hsz, by rw [rns_len]; exact hB.fits, fun i y hy => ?_, hB.frs⟩⟩
        obtain ⟨x, h8, rfl⟩ := rns_get hy
        obtain ⟨v, h9, h10⟩ := hB.vals i x h8
        exact ⟨v, h9, h10.rnT h2' havo2 (withinL_get (hC l cells h5) h8)⟩
    · intro k k' c1 c2 β a s a' s' h3 h4 h5 h6
      obtain ⟨l, d, rfl, h7, _⟩ := back h3
      obtain ⟨l', d', rfl, h8, _⟩ := back h4
      rw [h2 l (by rw [h7]; simp)] at h5
      rw [h2 l' (by rw [h8]; simp)] at h6
      rw [hbr'.inj l l' d d' β a s a' s' h7 h8 h5 h6]
    · intro k x hk
      by_cases he : ∃ l, lget L' l ≠ none ∧ τ l = k
      · obtain ⟨l, h3, rfl⟩ := he
        cases h4 : lget L' l with
        | none => exact absurd h4 h3
        | some c => rw [hLL l c h4]; simp
      · simp only [σ2, he, dif_neg, not_false_eq_true] at hk; simp at hk
    · intro β hA
      obtain ⟨h3, h4⟩ := hbr'.lo β hA
      exact ⟨h3, fun hh => h4 (hav2 β hh)⟩
    · intro k y hk hy
      obtain ⟨l, h3, rfl⟩ := hcov k hk
      rw [h2 l (hdom l h3)]
      exact hgr.sig l y h3 (by rw [hS l (hne h3)]; exact hy)
    · intro β hβ hn
      obtain ⟨h3, h4⟩ := hgr.keep β hβ fun hh => hn (hav β hh)
      exact ⟨fun hh => h3 (hav2 β hh), h4⟩
end Go.SH
namespace Go.SH

mutual
def DV.rn (τ : Nat → Nat) : DV → DV
  | .ptr l o => .ptr (τ l) o
  | .lp l sz i k => .lp (τ l) sz i k
  | .rw l sz o n co w => .rw (τ l) sz o n co w
  | .fn f cs => .fn f (DV.rns τ cs)
  | .iface t v => .iface t (v.rn τ)
  | .agg cs => .agg (DV.rns τ cs)
  | .tup cs => .tup (DV.rns τ cs)
  | x => x
def DV.rns (τ : Nat → Nat) : List DV → List DV
  | [] => []
  | x :: r => x.rn τ :: DV.rns τ r
end
mutual
theorem pure_rn (τ : Nat → Nat) : ∀ (x : PV), within (fun _ => false) x = true → x.rn τ = x
  | .ptr _ _, h => by simp [within] at h
  | .rw _ _ _ _ _, h => by simp [within] at h
  | .rop cs _, h => by simp only [PV.rn]; rw [pure_rns τ cs h]
  | .ro cs _ _, h => by simp only [PV.rn]; rw [pure_rns τ cs h]
  | .fn f cs, h => by simp only [PV.rn]; rw [pure_rns τ cs h]
  | .iface t v, h => by simp only [PV.rn]; rw [pure_rn τ v h]
  | .agg cs, h => by simp only [PV.rn]; rw [pure_rns τ cs h]
  | .tup cs, h => by simp only [PV.rn]; rw [pure_rns τ cs h]
  | .yld _ _ _ _ _ _, h => by simp [within] at h
  | .dead, _ => rfl
  | .int _ _, _ => rfl
  | .bool _, _ => rfl
  | .str _, _ => rfl
  | .nilp, _ => rfl
  | .nils, _ => rfl
  | .nilf, _ => rfl
  | .nili, _ => rfl
theorem pure_rns (τ : Nat → Nat) : ∀ (xs : List PV), withinL (fun _ => false) xs = true → PV.rns τ xs = xs
  | [], _ => rfl
  | x :: r, h => by
    simp only [withinL, Bool.and_eq_true] at h
    simp only [PV.rns]; rw [pure_rn τ x h.1, pure_rns τ r h.2]
end
mutual
theorem rn_pv (τ : Nat → Nat) : ∀ (d : DV), (d.rn τ).pv = d.pv.rn τ
  | .ptr _ _ => rfl
  | .lp _ _ _ _ => rfl
  | .rw _ _ _ _ _ _ => rfl
  | .fn f cs => by simp only [DV.rn, DV.pv, PV.rn]; rw [rns_pv τ cs]
  | .iface t v => by simp only [DV.rn, DV.pv, PV.rn]; rw [rn_pv τ v]
  | .agg cs => by simp only [DV.rn, DV.pv, PV.rn]; rw [rns_pv τ cs]
  | .tup cs => by simp only [DV.rn, DV.pv, PV.rn]; rw [rns_pv τ cs]
  | .dead => rfl
  | .int _ _ => rfl
  | .by _ => rfl
  | .bool _ => rfl
  | .str _ => rfl
  | .nilp => rfl
  | .nils => rfl
  | .nilf => rfl
  | .nili => rfl
  | .ep t l i x k => by simp only [DV.rn, DV.pv, PV.rn]; rw [pure_rns τ _ (fl_pure l)]
  | .gp t l => by simp only [DV.rn, DV.pv, PV.rn]; rw [pure_rns τ _ (fl_pure l)]
  | .sl t l => by simp only [DV.rn, DV.pv, PV.rn]; rw [pure_rns τ _ (fl_pure l)]
theorem rns_pv (τ : Nat → Nat) : ∀ (ds : List DV), DV.pvs (DV.rns τ ds) = PV.rns τ (DV.pvs ds)
  | [] => rfl
  | d :: r => by simp only [DV.rns, DV.pvs, PV.rns]; rw [rn_pv τ d, rns_pv τ r]
end
mutual
theorem rn_ok (τ : Nat → Nat) : ∀ {d : DV}, d.ok → (d.rn τ).ok
  | .ptr _ _, h => h
  | .lp _ _ _ _, h => h
  | .rw _ _ _ _ _ _, h => h
  | .fn f cs, h => rns_ok τ (ds := cs) h
  | .iface t v, h => rn_ok τ (d := v) h
  | .agg cs, h => rns_ok τ (ds := cs) h
  | .tup cs, h => rns_ok τ (ds := cs) h
  | .dead, h => h
  | .int _ _, h => h
  | .by _, h => h
  | .bool _, h => h
  | .str _, h => h
  | .nilp, h => h
  | .nils, h => h
  | .nilf, h => h
  | .nili, h => h
  | .ep _ _ _ _ _, h => h
  | .gp _ _, h => h
  | .sl _ _, h => h
theorem rns_ok (τ : Nat → Nat) : ∀ {ds : List DV}, DV.oks ds → DV.oks (DV.rns τ ds)
  | [], _ => trivial
  | d :: r, h => ⟨rn_ok τ h.1, rns_ok τ h.2⟩
end
theorem rnsD_get {τ : Nat → Nat} : ∀ {l : List DV} {i : Nat}, (DV.rns τ l)[i]? = (l[i]?).map (DV.rn τ)
  | [], _ => by simp [DV.rns]
  | x :: r, i => by cases i with
    | zero => simp [DV.rns]
    | succ i => simp only [DV.rns, List.getElem?_cons_succ]; exact rnsD_get
theorem rnsD_len {τ : Nat → Nat} : ∀ {l : List DV}, (DV.rns τ l).length = l.length
  | [] => rfl
  | x :: r => by simp [DV.rns, rnsD_len (l := r)]
def DC.rn (τ : Nat → Nat) : DC → DC
  | .cs l => .cs (DV.rns τ l)
  | c => c
theorem dc_rn_pv (τ : Nat → Nat) : ∀ c : DC, (c.rn τ).pv = c.pv.map (PV.rns τ)
  | .gone => rfl
  | .cs l => by simp [DC.rn, DC.pv, rns_pv]
  | .ls t l => by simp only [DC.rn, DC.pv, Option.map_some]; rw [pure_rns τ _ (fl_pure l)]

/-! ### cells that were read off as they are -/
def exactD : Sh → DV → Bool
  | .h t, d => match t, d with
    | .ti _, .int _ _ => true
    | .tu, .by _ => true
    | .tb, .bool _ => true
    | .ts, .str _ => true
    | .tl _, .sl _ _ => true
    | _, _ => false
  | .k _, _ => true
  | .ptr _ _, _ => true
  | .rww _ _, .rw _ _ _ _ co w => co.isNone && w
  | .rwf _ _, .rw _ _ _ _ co w => co.isNone && !w
  | _, _ => false
theorem exact_h {t : ET} {d : DV} {x : t.T} (h : t.one [d] = some x) (he : exactD (.h t) d = true) : oneDV (t.cells x) = d := by
  unfold ET.one at h
  split at h
  · rename_i y hy
    simp at h; subst h
    cases t with
    | ti k => obtain ⟨d', e, h1⟩ := hdBy_ok hy; simp at e; subst e; exact (asI_ok h1).symm
    | tu =>
      obtain ⟨d', e, h1⟩ := hdBy_ok hy; simp at e; subst e
      unfold exactD at he
      simp only at he
      split at he <;> simp_all [asY, ET.cells, oneDV]
    | tb => obtain ⟨d', e, h1⟩ := hdBy_ok hy; simp at e; subst e; exact (asB_ok h1).symm
    | ts => obtain ⟨d', e, h1⟩ := hdBy_ok hy; simp at e; subst e; exact (asS_ok h1).symm
    | tn => simp [ET.un] at hy
    | tl t =>
      obtain ⟨d', e, h1⟩ := hdBy_ok hy; simp at e; subst e
      rcases asL_ok h1 with ⟨rfl, rfl⟩ | rfl
      · simp [exactD] at he
      · rfl
    | tp a c => simp [exactD] at he
  · simp at h
theorem exact_get {fr : Nat} {s : Sh} {d : DV} {g g' : GS} (h : s.get fr d g = some g') (he : exactD s d = true) {xs : List TV} (hx : g'.vs = g.vs ++ xs) {len : Nat → Nat} {rest : List TV} {τ : Nat → Nat} {S : Nat → Bool} (hm : MapOK τ S g') (hq : ∀ p ∈ g'.q, p.2 = len p.1) :
    (s.mk len (xs ++ rest)).1.rn τ = d := by
  cases s with
  | h t =>
    simp only [Sh.get] at h
    split at h
    · rename_i x hxx
      simp at h; subst h
      have : xs = [⟨t, x⟩] := by simpa [GS.put] using hx.symm
      subst this
      simp only [Sh.mk, List.cons_append]
      have e := exact_h hxx he
      rw [e]
      unfold exactD at he
      simp only at he
      split at he <;> first | rfl | simp at he
    · simp at h
  | k c =>
    simp only [Sh.get] at h
    split at h
    · rename_i hc
      obtain ⟨rfl, h1, _⟩ := constEq_ok hc
      show c.rn τ = c
      unfold constEq at hc
      split at hc <;> first | rfl | simp at hc
    · simp at h
  | ptr l o =>
    simp only [Sh.get] at h
    split at h
    · split at h
      · rename_i e; subst e
        obtain ⟨_, _, _, h4⟩ := lab_ok h
        show DV.ptr (τ l) o = _
        rw [(hm _ h4).1]
      · simp at h
    · simp at h
  | rww l sz =>
    simp only [Sh.get] at h
    split at h
    · rename_i l' sz' off n co w
      split at h
      · rename_i e; obtain ⟨rfl, rfl⟩ := e
        split at h
        · rename_i g1 hg
          simp at h; subst h
          obtain ⟨_, _, _, h4⟩ := lab_ok hg
          have e := hq (l, n) (by simp)
          simp only [exactD, Bool.and_eq_true, Option.isNone_iff_eq_none] at he
          obtain ⟨rfl, rfl⟩ := he
          show DV.rw (τ l) sz 0 (len l) none true = _
          rw [(hm _ h4).1, ← e]
        · simp at h
      · simp at h
    · simp [exactD] at he
    · simp at h
  | rwf l sz =>
    simp only [Sh.get] at h
    split at h
    · rename_i l' sz' off n co w
      split at h
      · rename_i e; subst e
        split at h
        · rename_i g1 hg
          simp at h; subst h
          obtain ⟨h1, _, _, h4⟩ := lab_ok hg
          have : xs = [⟨.tn, off⟩, ⟨.tn, n⟩] := by
            have : g.vs ++ xs = g.vs ++ [⟨.tn, off⟩, ⟨.tn, n⟩] := by rw [← hx]; simp [GS.put, h1]
            exact List.append_cancel_left this
          subst this
          simp only [exactD, Bool.and_eq_true, Option.isNone_iff_eq_none, Bool.not_eq_true'] at he
          obtain ⟨rfl, rfl⟩ := he
          show DV.rw (τ l) sz off n none false = _
          rw [(hm _ h4).1]
        · simp at h
      · simp at h
    · simp at h
  | st t => simp [exactD] at he
  | fn f cs => simp [exactD] at he
  | iface t s => simp [exactD] at he
  | agg cs => simp [exactD] at he
  | tup cs => simp [exactD] at he

theorem gets_exact {fr : Nat} : ∀ {ss : List Sh} {ds : List DV} {g g' : GS}, Sh.gets fr ss ds g = some g' → ∀ {xs : List TV}, g'.vs = g.vs ++ xs → ∀ {len : Nat → Nat} {rest : List TV} {τ : Nat → Nat} {S : Nat → Bool}, MapOK τ S g' → (∀ p ∈ g'.q, p.2 = len p.1) →
    ∀ (i : Nat) (s : Sh) (d : DV), ss[i]? = some s → ds[i]? = some d → exactD s d = true → ∃ e, (Sh.mks len ss (xs ++ rest)).1[i]? = some e ∧ e.rn τ = d
  | [], ds, g, g', h, xs, hx, len, rest, τ, S, hm, hq, i, s, d, hs, hd, he => by simp at hs
  | s :: ss, ds, g, g', h, xs, hx, len, rest, τ, S, hm, hq, i, s', d', hs, hd, he => by
    simp only [Sh.gets] at h
    split at h
    · simp at h
    · rename_i d ds
      split at h
      · rename_i g1 h1
        obtain ⟨a1, ys, a2, a3, a4⟩ := get_mk fr s h1
        obtain ⟨b1, zs, b2, b3, b4⟩ := gets_mks fr ss h
        have e : xs = ys ++ zs := by
          have : g.vs ++ xs = g.vs ++ (ys ++ zs) := by rw [← hx, b2, a2, List.append_assoc]
          exact List.append_cancel_left this
        subst e
        have hm1 : MapOK τ S g1 := fun p hp => hm p (b1.1 p hp)
        have hq1 : ∀ p ∈ g1.q, p.2 = len p.1 := fun p hp => hq p (b1.2 p hp)
        obtain ⟨c1, _, _⟩ := a4 len (zs ++ rest) τ S hm1 hq1
        simp only [Sh.mk'] at c1
        simp only [Sh.mks, List.append_assoc]
        cases i with
        | zero =>
          simp at hs hd; subst hs; subst hd
          exact ⟨_, rfl, exact_get h1 he a2 hm1 hq1⟩
        | succ i =>
          simp only [List.getElem?_cons_succ] at hs hd ⊢
          rw [c1]
          exact gets_exact h b2 hm hq i s' d' hs hd he
      · simp at h
end Go.SH
namespace Go.SH

def inLen (ar : List Sh) (ls : List (Nat × LSh)) (vs : List TV) : Nat → Nat := lenF (lenT ls (vs.drop (Sh.ns ar))) []
def inA (ar : List Sh) (ls : List (Nat × LSh)) (vs : List TV) : List DV := (Sh.mks (inLen ar ls vs) ar vs).1
def inL (ar : List Sh) (ls : List (Nat × LSh)) (vs : List TV) : DLb := (mkL (inLen ar ls vs) ls (Sh.mks (inLen ar ls vs) ar vs).2).1
def inS (ar : List Sh) (ls : List (Nat × LSh)) (vs : List TV) : St := ⟨[], inL ar ls vs, [], []⟩
def resV (s : St) : DV := match lget s.al 0 with
  | some d => d
  | none => .dead
/-- What a function does that is handed blocks: a Lean function. -/
structure ICon (E : Env) where
  f : FuncId
  ar : List Sh
  ls : List (Nat × LSh)
  ot : Tm
  fn : HT (Sh.hss ar ++ hsL ls) → Option ot.T
  run : ∀ args w, (callFunc f args).run E.P w = .ok (.enter f args) w
  ok : ∀ a v, fn a = some v → ACalls E f (DV.pvs (inA ar ls (unpack _ a))) (dlb (inL ar ls (unpack _ a))) fun x L => x = (resV (ot.app v (inS ar ls (unpack _ a)))).pv ∧ L = dlb (ot.app v (inS ar ls (unpack _ a))).L

def keys {α : Type} (L : List (Nat × α)) : List Nat := L.map (·.1)
/-- Names for new blocks. -/
def newN (fr : Nat) (old : List Nat) : List Nat → Nat → List (Nat × Nat)
  | [], _ => []
  | l :: r, i => match old.elem l with
    | true => newN fr old r i
    | false => (l, fr + i) :: newN fr old r (i + 1)
def rnL (τ : Nat → Nat) (L : DLb) : DLb := L.map fun p => (τ p.1, p.2.rn τ)
/-- Which cells of a block that was handed in are told otherwise than they were. -/
def inexact (k : Nat) : LSh → Option DC → DL
  | .ls t, c => match c with
    | some (.ls t' _) => if t' = t then [] else [(k, none)]
    | _ => [(k, none)]
  | .cs ss, c => match c with
    | some (.cs ds) => go ss ds 0
    | _ => [(k, none)]
where
  go : List Sh → List DV → Nat → DL
    | s :: ss, d :: ds, i => match exactD s d with
      | true => go ss ds (i + 1)
      | false => (k, some i) :: go ss ds (i + 1)
    | _, _, _ => []
def allExact : List Sh → List DV → Bool
  | s :: ss, d :: ds => exactD s d && allExact ss ds
  | _, _ => true
theorem allExact_get : ∀ {ss : List Sh} {ds : List DV} {i : Nat} {s : Sh} {d : DV}, allExact ss ds = true → ss[i]? = some s → ds[i]? = some d → exactD s d = true
  | [], _, i, s, d, _, h, _ => by simp at h
  | _ :: _, [], i, s, d, _, _, h => by simp at h
  | s :: ss, d :: ds, i, s', d', h, hs, hd => by
    simp only [allExact, Bool.and_eq_true] at h
    cases i with
    | zero => simp at hs hd; subst hs; subst hd; exact h.1
    | succ i => exact allExact_get h.2 (by simpa using hs) (by simpa using hd)
def lsSame : LSh → Option DC → Bool
  | .ls t, some (.ls t' _) => decide (t' = t)
  | .cs ss, some (.cs ds) => allExact ss ds
  | _, _ => false
def dirtyI (τ : Nat → Nat) (L : DLb) (ls : List (Nat × LSh)) (ot : Tm) : DL :=
  ot.labs.map (fun p => (τ p.1, none)) ++ ot.cups.map (fun c => (τ c.1, some c.2.1)) ++ ot.killL.map (fun l => (τ l, none)) ++ ls.flatMap fun p => inexact (τ p.1) p.2 (lget L (τ p.1))
/-- Blocks that a call leaves as they were. -/
def keptI (τ : Nat → Nat) (L : DLb) (ls : List (Nat × LSh)) (ot : Tm) (l : Nat) : Bool :=
  !(keys ot.labs).elem l && !ot.killL.elem l && !(ot.cups.any fun c => decide (c.1 = l)) && match lget ls l with
    | some s => lsSame s (lget L (τ l))
    | none => false
def wlI (τ : Nat → Nat) (L : DLb) (ls : List (Nat × LSh)) (ot : Tm) (oL : DLb) : DLb := rnL τ (oL.filter fun p => !keptI τ L ls ot p.1)

def nodupN : List Nat → Bool
  | [] => true
  | l :: r => !r.elem l && nodupN r
/-- Cells that are told to change lie in blocks told cell by cell. -/
def cupsIn (ls : List (Nat × LSh)) (ot : Tm) : Bool := ot.cups.all fun c => match lget ls c.1 with
  | some (.cs _) => true
  | _ => false
def dCallI {E : Env} {R : Type} (rl : DLb) (fr : Nat) (con : ICon E) (f : FuncId) (args : List DV) (k : DV → DLb → DL → Option R) : Option R :=
  if con.f = f ∧ con.ot.kOK = true ∧ con.ls.all (fun p => p.2.kOK) = true ∧ cupsIn con.ls con.ot = true then match Sh.gets fr con.ar args ⟨[], [], []⟩ with
    | some g1 => match getL fr rl con.ls g1 with
      | some g => reqs (inLen con.ar con.ls g.vs) g.q (match pack (Sh.hss con.ar ++ hsL con.ls) g.vs with
        | some a => (con.fn a).bind fun v =>
          let o := con.ot.app v (inS con.ar con.ls g.vs)
          let m := g.m ++ newN fr (keys con.ls) (keys o.L) 0
          let τ := lk m
          if nodupM m = true ∧ (g.m.all fun p => (keys con.ls).elem p.1) = true ∧ DV.labsL (fun l => ((keys con.ls).map τ).elem l) args = true ∧
              (con.ls.all fun p => match lget rl (τ p.1) with
                | some .gone => false
                | some c => dcLabs (fun l => ((keys con.ls).map τ).elem l) c
                | none => false) = true ∧
              (keys con.ls).all (fun l => (keys o.L).elem l) = true ∧ ((keys o.L).all fun l => (keys o.L).all fun l' => decide (τ l = τ l' → l = l')) = true ∧
              (resV o).labs (fun l => (keys o.L).elem l) = true ∧ o.L.all (fun p => dcLabs (fun l => (keys o.L).elem l) p.2) = true ∧
              (keys o.L).all (fun l => (keys con.ls).elem l || !(keys rl).elem (τ l)) = true ∧ (keys con.ls).all (fun l => (keys g.m).elem l) = true ∧ nodupN (keys o.L) = true ∧ nodupN (keys con.ls) = true then
            k ((resV o).rn τ) (wlI τ rl con.ls con.ot o.L) (dirtyI τ rl con.ls con.ot) else none
        | none => none)
      | none => none
    | none => none else none

theorem elemK {α : Type} {L : List (Nat × α)} {l : Nat} : (keys L).elem l = true ↔ lget L l ≠ none := by
  constructor
  · intro h
    simp only [keys, List.elem_eq_mem, decide_eq_true_eq] at h
    obtain ⟨p, hp, rfl⟩ := List.mem_map.1 h
    intro hn
    clear h
    induction L with
    | nil => simp at hp
    | cons q r ih =>
      obtain ⟨j, x⟩ := q
      rw [lget] at hn
      split at hn
      · simp at hn
      · rename_i hj
        rcases List.mem_cons.1 hp with rfl | hp
        · exact hj rfl
        · exact ih hp hn
  · intro h
    cases hc : lget L l with
    | none => exact absurd hc h
    | some c => simp only [keys, List.elem_eq_mem, decide_eq_true_eq]; exact List.mem_map.2 ⟨_, mem_of_lget hc, rfl⟩
theorem lget_rn {τ : Nat → Nat} : ∀ {L : DLb} {l : Nat}, (∀ l' ∈ keys L, τ l' = τ l → l' = l) → lget (rnL τ L) (τ l) = (lget L l).map (DC.rn τ)
  | [], l, _ => rfl
  | (k, c) :: r, l, h => by
    simp only [rnL, List.map_cons, lget]
    by_cases e : k = l
    · subst e; simp
    · rw [if_neg (fun e2 => e (h k (by simp [keys]) e2)), if_neg e]
      exact lget_rn (L := r) fun l' hl' => h l' (by simp only [keys, List.map_cons, List.mem_cons]; exact .inr hl')
theorem lget_rn_none {τ : Nat → Nat} : ∀ {L : DLb} {k : Nat}, lget (rnL τ L) k ≠ none → ∃ l ∈ keys L, τ l = k
  | [], k, h => by simp [rnL, lget] at h
  | (j, c) :: r, k, h => by
    simp only [rnL, List.map_cons, lget] at h
    by_cases e : τ j = k
    · exact ⟨j, by simp [keys], e⟩
    · rw [if_neg e] at h
      obtain ⟨l, h1, h2⟩ := lget_rn_none (L := r) h
      exact ⟨l, by simp only [keys, List.map_cons, List.mem_cons]; exact .inr h1, h2⟩
theorem lget_filter {L : DLb} {f : Nat → Bool} (l : Nat) : lget (L.filter fun p => f p.1) l = if f l = true then lget L l else none := by
  induction L with
  | nil => simp [lget]
  | cons p r ih =>
    obtain ⟨k, c⟩ := p
    simp only [List.filter_cons]
    split
    · rename_i hk
      simp only [lget]
      by_cases e : k = l
      · subst e; simp [hk]
      · rw [if_neg e, if_neg e]; exact ih
    · rename_i hk
      rw [ih]
      simp only [lget]
      by_cases e : k = l
      · subst e; simp [hk]
      · rw [if_neg e]
theorem inexact_mem {k : Nat} {ss : List Sh} {ds : List DV} : ∀ {j i : Nat}, (k, some (j + i)) ∉ inexact.go k ss ds j → ∀ {s d}, ss[i]? = some s → ds[i]? = some d → exactD s d = true := by
  induction ss generalizing ds with
  | nil => intro j i _ s d hs; simp at hs
  | cons s ss ih =>
    intro j i h s' d' hs hd
    cases ds with
    | nil => simp at hd
    | cons d ds =>
      simp only [inexact.go] at h
      cases i with
      | zero =>
        simp at hs hd; subst hs; subst hd
        split at h
        · assumption
        · simp at h
      | succ i =>
        simp only [List.getElem?_cons_succ] at hs hd
        refine ih (j := j + 1) (i := i) (ds := ds) ?_ hs hd
        rw [show j + 1 + i = j + (i + 1) from by omega]
        split at h
        · exact h
        · simp at h; exact h

theorem nodupN_lget {α : Type} : ∀ {L : List (Nat × α)}, nodupN (keys L) = true → ∀ {l : Nat} {c : α}, (l, c) ∈ L → lget L l = some c
  | [], _, l, c, h => by simp at h
  | (k, x) :: r, hn, l, c, h => by
    simp only [keys, List.map_cons, nodupN, Bool.and_eq_true, Bool.not_eq_true'] at hn
    rcases List.mem_cons.1 h with e | h
    · simp at e; obtain ⟨rfl, rfl⟩ := e; simp [lget]
    · have h1 : k ≠ l := by
        intro e; rw [e] at hn
        have : l ∈ r.map (·.1) := List.mem_map.2 ⟨_, h, rfl⟩
        have h2 := hn.1
        simp only [List.elem_eq_mem, decide_eq_false_iff_not] at h2
        exact h2 this
      rw [lget, if_neg h1]
      exact nodupN_lget hn.2 h
theorem hasL_keys (L : DLb) : hasL (dlb L) = fun l => (keys L).elem l := by
  funext l
  cases h : (keys L).elem l with
  | true =>
    have := elemK.1 h
    simp only [hasL, Option.isSome_iff_ne_none, lget_dlb]
    cases hc : lget L l with
    | none => exact absurd hc this
    | some c => simp
  | false =>
    cases hc : lget L l with
    | none => simp [hasL, lget_dlb, hc]
    | some c =>
      have : (keys L).elem l = true := elemK.2 (by rw [hc]; simp)
      rw [this] at h; simp at h

/-- What was read off blocks, cell by cell. -/
def LabX (τ : Nat → Nat) (L : DLb) (l : Nat) (s : LSh) (c : DC) : Prop := match s with
  | .ls t => ∃ y, c = .ls t y ∧ ∀ x, lget L (τ l) = some (.ls t x) → y = x
  | .cs ss => ∃ ds es, lget L (τ l) = some (.cs ds) ∧ c = .cs es ∧ es.length = ds.length ∧ ss.length = ds.length ∧ ∀ (i : Nat) (s : Sh) (d : DV), ss[i]? = some s → ds[i]? = some d → exactD s d = true → ∃ e, es[i]? = some e ∧ e.rn τ = d
theorem gets_len {fr : Nat} : ∀ {ss : List Sh} {ds : List DV} {g g' : GS}, Sh.gets fr ss ds g = some g' → ss.length = ds.length
  | [], ds, g, g', h => by
    simp only [Sh.gets] at h
    split at h
    · rfl
    · simp at h
  | s :: ss, ds, g, g', h => by
    simp only [Sh.gets] at h
    split at h
    · simp at h
    · split at h
      · simp [gets_len h]
      · simp at h
theorem mks_len (len : Nat → Nat) : ∀ (ss : List Sh) (vs : List TV), (Sh.mks len ss vs).1.length = ss.length
  | [], _ => rfl
  | s :: ss, vs => by simp only [Sh.mks, List.length_cons]; rw [mks_len len ss]
theorem LSh_x {fr : Nat} {L : DLb} : ∀ {s : LSh} {l : Nat} {g g' : GS}, s.get fr (lget L l) g = some g' → ∀ {xs : List TV}, g'.vs = g.vs ++ xs → ∀ {len : Nat → Nat} {rest : List TV} {τ : Nat → Nat} {S : Nat → Bool} {k : Nat}, Fin τ S len g' → τ k = l →
    LabX τ L k s (s.mk len (xs ++ rest)).1
  | .ls t, l, g, g', h, xs, hx, len, rest, τ, S, k, hf, hk => by
    simp only [LSh.get] at h
    split at h
    · rename_i t' ls hl
      split at h
      · rename_i e; subst e
        simp at h; subst h
        have : xs = [⟨.tl t', ls⟩] := by simpa [GS.put] using hx.symm
        subst this
        exact ⟨ls, rfl, fun x hx => by rw [hk, hl] at hx; simpa using hx⟩
      · simp at h
    · rename_i cs hl
      split at h
      · rename_i ls hal
        simp at h; subst h
        have : xs = [⟨.tl t, ls⟩] := by simpa [GS.put] using hx.symm
        subst this
        exact ⟨ls, rfl, fun x hx => by rw [hk, hl] at hx; simp at hx⟩
      · simp at h
    · simp at h
    · rename_i hl
      simp at h; subst h
      have : xs = [⟨.tl t, []⟩] := by simpa [GS.put] using hx.symm
      subst this
      exact ⟨[], rfl, fun x hx => by rw [hk, hl] at hx; simp at hx⟩
  | .cs ss, l, g, g', h, xs, hx, len, rest, τ, S, k, hf, hk => by
    simp only [LSh.get] at h
    split at h
    · rename_i ds hl
      refine ⟨ds, _, by rw [hk]; exact hl, rfl, ?_, gets_len h, fun i s d hs hd he => gets_exact h hx hf.m hf.q i s d hs hd he⟩
      rw [mks_len, gets_len h]
    · simp at h
theorem getL_x {fr : Nat} {L : DLb} : ∀ {sl : List (Nat × LSh)} {g g' : GS}, getL fr L sl g = some g' → ∀ {xs : List TV}, g'.vs = g.vs ++ xs → ∀ {len : Nat → Nat} {rest : List TV} {τ : Nat → Nat} {S : Nat → Bool}, Fin τ S len g' →
    ∀ p ∈ (mkL len sl (xs ++ rest)).1, ∃ s, (p.1, s) ∈ sl ∧ LabX τ L p.1 s p.2
  | [], g, g', h, xs, hx, len, rest, τ, S, hf, p, hp => by simp [mkL] at hp
  | (l, s) :: r, g, g', h, xs, hx, len, rest, τ, S, hf, p, hp => by
    simp only [getL] at h
    split at h
    · rename_i g0 h0
      split at h
      · rename_i g1 h1
        obtain ⟨l1, l2, l3, l4⟩ := lab_ok h0
        obtain ⟨a1, ys, a2, a3, a4⟩ := LSh_ok h1
        obtain ⟨b1, zs, b2, b4⟩ := getL_ok h
        have e : xs = ys ++ zs := by
          have : g.vs ++ xs = g.vs ++ (ys ++ zs) := by rw [← hx, b2, a2, l1, List.append_assoc]
          exact List.append_cancel_left this
        subst e
        have hf1 := hf.sub b1
        have hf0 := hf1.sub a1
        have ht := (hf0.m _ l4).1
        obtain ⟨c1, c2⟩ := a4 (zs ++ rest) hf1 ht
        simp only [mkL, List.append_assoc, c1] at hp
        rcases List.mem_cons.1 hp with rfl | hp
        · exact ⟨s, by simp, LSh_x h1 a2 hf1 ht⟩
        · obtain ⟨s', h2, h3⟩ := getL_x h b2 hf p hp
          exact ⟨s', List.mem_cons_of_mem _ h2, h3⟩
      · simp at h
    · simp at h
theorem SubL.of {L : Lb} : ∀ {L1 : Lb}, (∀ p ∈ L1, lget L p.1 = some p.2) → SubL L L1
  | [], _ => .nil
  | (l, y) :: r, h => .cons (h (l, y) (by simp)) (.of fun p hp => h p (List.mem_cons_of_mem _ hp))
theorem InL.of {S : Nat → Bool} : ∀ {L1 : Lb}, (∀ p ∈ L1, ∀ cells, p.2 = some cells → withinL S cells = true) → InL S L1
  | [], _ => .nil
  | (l, none) :: r, h => .gone (.of fun p hp => h p (List.mem_cons_of_mem _ hp))
  | (l, some cs) :: r, h => .cons (h (l, some cs) (by simp) cs rfl) (.of fun p hp => h p (List.mem_cons_of_mem _ hp))
end Go.SH
namespace Go.SH

inductive Task where
  | code (n : Nat) (c : Code) (al : Al) (m : Tr) (nx lo : Nat)
  | ops (n : Nat) (ops : Array Oper) (rest : List Oper) (al : Al) (m : Tr) (nx lo : Nat)
  | draw (n : Nat) (ops : Array Oper) (rest : List Oper) (fs : List Fp) (al : Al) (m : Tr) (nx lo : Nat)
  | fn (f : FuncId) (args : List PV) (m : Tr) (nx lo : Nat)
inductive Outc where
  | st (e : Exit) (al : Al) (m : Tr) (nx : Nat)
  | ret (v : PV) (m : Tr) (nx : Nat)

def of1 (G : List (Nat × List PV)) (al : Al) (m : Tr) (x : Operand) : Lb :=
  match xev G al x with
  | some (.ptr l _) => match tget m l with | some cs => [(l, some cs)] | none => []
  | some (.rw l _ _ _ _) => match tget m l with | some cs => [(l, some cs)] | none => []
  | _ => []
def rlOf (G : List (Nat × List PV)) (al : Al) (m : Tr) (o : Op) : Lb :=
  match o with
  | .load _ p => of1 G al m p
  | .store _ p _ => of1 G al m p
  | .slice _ x _ _ _ => of1 G al m x
  | .convert _ _ x => of1 G al m x
  | .call ⟨.builtin .append, ⟨[x, y]⟩, _⟩ => of1 G al m x ++ of1 G al m y
  | .call ⟨.builtin .copy, ⟨[x, y]⟩, _⟩ => of1 G al m x ++ of1 G al m y
  | _ => []
/-- What is written: a new block, or one that was looked at and may be written. -/
def wlOK (rl : Lb) (nx lo : Nat) (wl : Lb) : Bool := wl.all fun p => Nat.blt nx maxL && (p.1.beq nx || (hasL rl p.1 && Nat.ble lo p.1))

def xresT (P : Program) (al : Al) (m : Tr) : List ResultVar → Option (List PV)
  | [] => some []
  | .tmp t :: r => match lget al t, xresT P al m r with
    | some x, some xs => some (x :: xs)
    | _, _ => none
  | .cell s T :: r => match lget al s, xresT P al m r with
    | some (.ptr l off), some xs => match tget m l with
      | some cs => match xload P T [(l, some cs)] (.ptr l off) with
        | some x => some (x :: xs)
        | none => none
      | none => none
    | _, _ => none

/-! The labels that a value names. -/
mutual
def labs : PV → List Nat
  | .ptr l _ => [l]
  | .rw l _ _ _ _ => [l]
  | .rop cells _ => labsL cells
  | .ro cells _ _ => labsL cells
  | .fn _ caps => labsL caps
  | .iface _ v => labs v
  | .agg cells => labsL cells
  | .tup vs => labsL vs
  | .yld _ _ _ _ _ vs => ylab :: labsL vs
  | _ => []
def labsL : List PV → List Nat
  | [] => []
  | x :: xs => labs x ++ labsL xs
end

/-- What can be reached from labels. -/
def reach (m : Tr) : Nat → List Nat → Lb → Option Lb
  | 0, _, _ => none
  | _ + 1, [], acc => some acc
  | f + 1, l :: r, acc => bif hasL acc l then reach m f r acc else match tget m l with
    | some cs => reach m f (labsL cs ++ r) ((l, some cs) :: acc)
    | none => none

def slotsOf : List Operand → List Nat
  | [] => []
  | .tmp t :: r => t :: slotsOf r
  | _ :: r => slotsOf r
def opnds : Op → List Operand
  | .move x => [x]
  | .assign x => [x]
  | .pick c a b => [c, a, b]
  | .binOp _ _ x y _ => [x, y]
  | .unOp _ _ x => [x]
  | .convert _ _ x => [x]
  | .load _ p => [p]
  | .store _ p v => [p, v]
  | .box _ x => [x]
  | .build _ ps => ps.toList.map (·.2)
  | .buildSlice _ _ ps => ps.toList.map (·.2)
  | .fieldAddr _ x _ => [x]
  | .field _ x _ => [x]
  | .extract x _ => [x]
  | .makeFunc _ first caps => first.toList ++ caps.toList
  | .makeInterface _ x => [x]
  | .nilCheck x => [x]
  | .indexAddr _ x i => [x, i]
  | .index _ x i => [x, i]
  | .slice _ x lo hi _ => x :: (lo.toList ++ hi.toList)
  | .makeSlice _ x y => [x, y]
  | .call ⟨.value f, args, _⟩ => f :: args.toList
  | .call ⟨_, args, _⟩ => args.toList
  | _ => []
def raOf (al : Al) : List Nat → Al
  | [] => []
  | t :: r => match lget al t with | some x => (t, x) :: raOf al r | none => raOf al r

def gdOf (ops : Array Oper) (al : Al) (o : Oper) : Bool := match o.guard with
  | some (j, _) => match (ops[j]?).bind (·.dst) with
    | some d => match lget al d with | some .dead => true | _ => false
    | none => false
  | none => false

/-! which operations come ahead of which -/
def maskOf (acc : List Nat) : List Nat → Nat
  | [] => 0
  | k :: r => Nat.lor (Nat.lor (Nat.shiftLeft 1 k) (acc.getD k 0)) (maskOf acc r)
def masks : List Oper → List Nat → List Nat
  | [], acc => acc
  | o :: r, acc => masks r (acc ++ [maskOf acc (edgesOf o)])
def bitB (m i : Nat) : Bool := Nat.beq (Nat.mod (Nat.shiftRight m i) 2) 1
def hasN (l : List Nat) (x : Nat) : Bool := l.any fun y => Nat.beq y x
def meetN (a b : List Nat) : Bool := a.any (hasN b)

def rdS (ops : Array Oper) (o : Oper) : List Nat := (match gslot ops o with | some d => [d] | none => []) ++ slotsOf (opnds o.op)
def wrS (o : Oper) : List Nat := match o.dst with | some d => [d] | none => []
def pairsS (mk : List Nat) (j : Nat) (rj wj : List Nat) : List (List Nat × List Nat) → Nat → Bool
  | [], _ => true
  | (ri, wi) :: r, i => (bitB (mk.getD j 0) i || !(meetN wi (rj ++ wj) || meetN wj ri)) && pairsS mk j rj wj r (i + 1)
def allS (mk : List Nat) : List (List Nat × List Nat) → List (List Nat × List Nat) → Nat → Bool
  | _, [], _ => true
  | pre, (rj, wj) :: r, j => pairsS mk j rj wj pre 0 && allS mk (pre ++ [(rj, wj)]) r (j + 1)
/-- No slot is written and looked at by operations of open order. -/
def indepS (ops : Array Oper) : Bool := allS (masks ops.toList []) [] (ops.toList.map fun o => (rdS ops o, wrS o)) 0
def rdL (f : Fp) : List Nat := if f.run then f.rl.map (·.1) ++ fnew f else []
def wrL (f : Fp) : List Nat := if f.run then f.wl.map (·.1) else []
/-- Nor a block. -/
def indepD (ops : Array Oper) (fs : List Fp) : Bool := allS (masks ops.toList []) [] (fs.map fun f => (rdL f, wrL f)) 0

/-- Every operation of a statement of open order has its place and its guard. -/
def drawS (n : Nat) (ops : Array Oper) : Bool := (ops.toList.all fun o => dstOK n o.dst && (match o.guard with | some _ => (gslot ops o).isSome | none => true)) && ops.toList.all fun o => notD o.op
def pureL (fs : List Fp) : Bool := fs.all fun f => match f.wl with | [] => true | _ => false
def nodupAll (fs : List Fp) : Bool := fs.all fun f => nodupK f.wl

def isEnd : Exit → Bool
  | .normal => true
  | .ret => true
  | _ => false

def nxt (nx : Nat) : Lb → Nat
  | [] => nx
  | _ => nx + 1
/-- The blocks that were not there, or not so. -/
def fresh (nx : Nat) (rl : Lb) : Lb := rl.filter fun p => Nat.ble nx p.1
def tree (rl : Lb) : Tr := tupd .nil rl
def keysL (rl : Lb) : List Nat := rl.map (·.1)

/-- No range over a function. -/
def noRange : Code → Bool
  | .seq x y => noRange x && noRange y
  | .cond _ x y => noRange x && noRange y
  | .block _ c => noRange c
  | .loop c => noRange c
  | .scope c => noRange c
  | .rangeFunc _ _ _ _ => false
  | _ => true

def ySlots (ps : List Nat) (xs : List PV) (ts : List Nat) (vs : List PV) : Al := (ps.zip xs).foldl (fun al p => p :: al) (ts.zip vs)
/-- The slots, each once. -/
def uni (al : Al) : Al := raOf al (al.map (·.1))
def valsOf (al : Al) : List PV := al.map (·.2)
def keysOf (al : Al) : List Nat := al.map (·.1)
def yOK (m : Nat) (ps : List Nat) (xs : List PV) (ts : List Nat) (vs : List PV) (assign body : Code) : Bool :=
  Nat.beq ps.length xs.length && (Nat.beq ts.length vs.length && (ps.all (fun p => Nat.blt p m) && (noRange assign && noRange body)))

/-- A scope with labels: from a goto on at its label, some times over. -/
def xscope (ih : Task → Option Outc) (n : Nat) (body : Code) (lo : Nat) : Nat → Code → Al → Tr → Nat → Option Outc
  | 0, _, _, _, _ => none
  | f + 1, c, al, m, nx => match ih (.code n c al m nx lo) with
    | some (.st e al' m' nx') => match e with
      | .goto l => match findLabel body l with
        | some rest => xscope ih n body lo f rest al' m' nx'
        | none => some (.st (.goto l) al' m' nx')
      | e => some (.st e al' m' nx')
    | _ => none

def Xstep (P : Program) (G : List (Nat × List PV)) (ih : Task → Option Outc) : Task → Option Outc
  | .code n c al m nx lo => match c with
    | .skip => some (.st .normal al m nx)
    | .seq x y => match ih (.code n x al m nx lo) with
      | some (.st e al' m' nx') => match e with
        | .normal => ih (.code n y al' m' nx' lo)
        | e => some (.st e al' m' nx')
      | _ => none
    | .cond (.tmp t) x y => match lget al t with
      | some (.bool b) => bif b then ih (.code n x al m nx lo) else ih (.code n y al m nx lo)
      | _ => none
    | .cond (.const (.bool b)) x y => bif b then ih (.code n x al m nx lo) else ih (.code n y al m nx lo)
    | .block i c => match ih (.code n c al m nx lo) with
      | some (.st e al' m' nx') => match e with
        | .exit j => bif j.beq i then some (.st .normal al' m' nx') else some (.st (.exit j) al' m' nx')
        | e => some (.st e al' m' nx')
      | _ => none
    | .loop c => match ih (.code n c al m nx lo) with
      | some (.st e al' m' nx') => match e with
        | .normal => ih (.code n (.loop c) (raOf al' (al.map (·.1))) m' nx' lo)
        | e => some (.st e al' m' nx')
      | _ => none
    | .exit i => some (.st (.exit i) al m nx)
    | .goto i => some (.st (.goto i) al m nx)
    | .scope c => xscope ih n c lo 64 c al m nx
    | .ret => some (.st .ret al m nx)
    | .label _ => some (.st .normal al m nx)
    | .rangeFunc g ps assign body => match xev G al g with
      | some (.fn f caps) => match reach m 100000 (labsL (valsOf (uni al) ++ caps)) [] with
        | some rl => match ih (.fn f (.yld n ps.toList assign body (keysOf (uni al)) (valsOf (uni al)) :: caps) (tree rl) nx lo) with
          | some (.ret v m' nx') => match reach m' 100000 (labs v ++ keysL rl) [] with
            | some rl' => some (.st .normal al (tupd m rl') nx')
            | none => none
          | _ => none
        | none => none
      | _ => none
    | .region _ ops false => ih (.ops n ops ops.toList al m nx lo)
    | .region _ ops true => ih (.draw n ops ops.toList [] al m nx lo)
    | _ => none
  | .ops n ops rest al m nx lo => match rest with
    | [] => some (.st .normal al m nx)
    | o :: rest => match wants ops al o with
      | some true => match o.op with
        | .call ⟨.value fo, args, _⟩ => match xev G al fo, xevs G al args.toList with
          | some (.fn f caps), some xs => match ih (.fn f (xs ++ caps) m nx lo) with
            | some (.ret v m' nx') => bif dstOK n o.dst then ih (.ops n ops rest (oset o.dst v al) m' nx' lo) else none
            | _ => none
          | some (.yld k ps assign body ts vs), some xs => match reach m 100000 (labsL (vs ++ xs)) [] with
            | some rl => bif yOK k ps xs ts vs assign body && dstOK n o.dst then (match ih (.code k assign (ySlots ps xs ts vs) (tree rl) nx lo) with
              | some (.st .normal al1 m1 nx1) => match reach m1 100000 (labsL (valsOf (uni al1)) ++ keysL rl) [] with
                | some rl1 => match ih (.code k body (uni al1) (tree rl1) nx1 lo) with
                  | some (.st .normal al2 m2 nx2) => match reach m2 100000 (keysL rl) [] with
                    | some rl2 => ih (.ops n ops rest (oset o.dst (.bool true) al) (tupd m rl2) nx2 lo)
                    | none => none
                  | _ => none
                | none => none
              | _ => none) else none
            | none => none
          | _, _ => none
        | op => match xop2 P G o al (rlOf G al m op) nx with
          | some (x, wl) => bif dstOK n o.dst && wlOK (rlOf G al m op) nx lo wl then ih (.ops n ops rest (oset o.dst x al) (tupd m wl) (nxt nx wl) lo) else none
          | none => none
      | some false => bif dstOK n o.dst then ih (.ops n ops rest (oset o.dst .dead al) m nx lo) else none
      | none => none
  | .draw n ops rest fs al m nx lo => match rest with
    | [] => bif edgesOK ops && (indepS ops && drawS n ops) then (bif pureL fs || (nodupAll fs && indepD ops fs.reverse) then some (.st .normal al m nx) else none) else none
    | o :: rest => match wants ops al o with
      | some true => match o.op with
        | .call ⟨.value fo, args, _⟩ => match xev G al fo, xevs G al args.toList with
          | some (.fn f caps), some xs => match reach m 100000 (labsL (xs ++ caps)) [] with
            | some rl => match ih (.fn f (xs ++ caps) (tree rl) nx nx) with
              | some (.ret v m' nx') => match reach m' 100000 (labs v ++ keysL rl) [] with
                | some rl' => ih (.draw n ops rest (⟨raOf al (slotsOf (opnds o.op)), rl, v, fresh nx rl', true, false⟩ :: fs) (oset o.dst v al) (tupd m (fresh nx rl')) nx' lo)
                | none => none
              | _ => match ih (.fn f (xs ++ caps) (tree rl) nx lo) with
                | some (.ret v m' nx') => match reach m' 100000 (labs v ++ keysL rl) [] with
                  | some rl' => ih (.draw n ops rest (⟨raOf al (slotsOf (opnds o.op)), rl, v, rl', true, false⟩ :: fs) (oset o.dst v al) (tupd m rl') nx' lo)
                  | none => none
                | _ => none
            | none => none
          | _, _ => none
        | op => match xop2 P G o (raOf al (slotsOf (opnds op))) (rlOf G (raOf al (slotsOf (opnds op))) m op) nx with
          | some (x, wl) => bif wlOK (rlOf G (raOf al (slotsOf (opnds op))) m op) nx lo wl then
              ih (.draw n ops rest (⟨raOf al (slotsOf (opnds op)), rlOf G (raOf al (slotsOf (opnds op))) m op, x, wl, true, false⟩ :: fs) (oset o.dst x al) (tupd m wl) (nxt nx wl) lo) else none
          | none => none
      | some false => ih (.draw n ops rest (⟨[], [], .dead, [], false, gdOf ops al o⟩ :: fs) (oset o.dst .dead al) m nx lo)
      | none => none
  | .fn f args m nx lo => match P.funcs[f]? with
    | some fn => match fn.body with
      | some c => bif Nat.ble args.length fn.ntmps then (match ih (.code fn.ntmps c (entry args 0) m nx lo) with
        | some (.st e al' m' nx') => bif isEnd e then (match xresT P al' m' fn.results.toList with
          | some xs => some (.ret (rtup xs) m' nx')
          | none => none) else none
        | _ => none) else none
      | none => none
    | none => none

def X (P : Program) (G : List (Nat × List PV)) : Nat → Task → Option Outc
  | 0 => fun _ => none
  | k + 1 => Xstep P G (X P G k)
end Go.SH
namespace Go.SH

section
variable {E : Env} {K : Nat → Prop} {n : Nat} {al : Al} {L : Lb} {Q : Exit → Al → Lb → Prop}

/-- What a loop does from the head of a round on. -/
def AWin (E : Env) (K : Nat → Prop) (n : Nat) (c : Code) (Q : Exit → Al → Lb → Prop) (al : Al) (L : Lb) : Prop :=
  ∀ A w σ a, Rel E A w σ al L a → a.tmps.size = n → ∀ b k cs, b.roundOf = (fen E.ro).round → (fen E.ro).fn b.fn → (fen E.ro).room (cs.length + 1 + 0) → ∃ e a' w', Post E K A w σ L n Q e a' w' ∧ ArrivesIn (Machine.fenced E.P (fen E.ro)) E.P (lone (b.atR a (.code c :: .inLoop c :: k)) cs w) b k cs e a' w'

theorem AW_loopI {c : Code} (h : AWin E K n c Q al L) : AW E K n (.loop c) Q al L := by
  intro A w σ a r t b k cs hro hb hrm
  obtain ⟨e, a', w', hq, harr⟩ := h A w σ a r t b k cs hro hb hrm
  exact ⟨e, a', w', hq, .of_steps (.one (fenced_calm hb hrm rfl) stepR_loop) harr⟩

/-- One round of a loop. -/
theorem AWin_round {c : Code} (h : AW E K n c (athen (AWin E K n c Q) Q) al L) : AWin E K n c Q al L := by
  intro A w σ a r t b k cs hro hb hrm
  obtain ⟨e, a₁, w₁, ⟨al₁, L₁, σ₁, q, r₁, g₁, t₁⟩, harr⟩ := h A w σ a r t b (.inLoop c :: k) cs hro hb hrm
  cases e with
  | normal =>
    obtain ⟨e₂, a₂, w₂, hq₂, harr₂⟩ := q A w₁ σ₁ a₁ r₁ t₁ b k cs hro hb hrm
    exact ⟨e₂, a₂, w₂, Post.trans g₁ hq₂, .of_steps (StepsIn.trans harr (.one (fenced_calm hb hrm rfl) stepR_inLoop)) harr₂⟩
  | exit id => exact ⟨_, a₁, w₁, ⟨al₁, L₁, σ₁, q, r₁, g₁, t₁⟩, .pass (x := .inLoop c) rfl (fun _ _ => .inl (by simp)) harr⟩
  | goto l => exact ⟨_, a₁, w₁, ⟨al₁, L₁, σ₁, q, r₁, g₁, t₁⟩, .pass (x := .inLoop c) rfl (fun _ _ => .inl (by simp)) harr⟩
  | ret => exact ⟨_, a₁, w₁, ⟨al₁, L₁, σ₁, q, r₁, g₁, t₁⟩, .pass (x := .inLoop c) rfl (fun _ _ => .inl (by simp)) harr⟩
  | panic ch => exact ⟨_, a₁, w₁, ⟨al₁, L₁, σ₁, q, r₁, g₁, t₁⟩, .pass (x := .inLoop c) rfl (fun _ _ => .inl (by simp)) harr⟩
  | outgrown => exact ⟨_, a₁, w₁, ⟨al₁, L₁, σ₁, q, r₁, g₁, t₁⟩, .pass (x := .inLoop c) rfl (fun _ _ => .inl (by simp)) harr⟩

theorem AWin_weak {c : Code} {al' : Al} {L' : Lb} (hw : Weak E K al L al' L') (h : AWin E K n c Q al' L') : AWin E K n c Q al L := by
  intro A w σ a r t b k cs hro hb hrm
  obtain ⟨σ', r', g⟩ := hw A w σ a r
  obtain ⟨e, a', w', hq, harr⟩ := h A w σ' a r' t b k cs hro hb hrm
  exact ⟨e, a', w', Post.trans g hq, harr⟩

/-! ### scopes with labels -/
theorem stepR_scope {P : Program} {b : Frame} {a : Act} {k : List Item} {cs : List Frame} {w : World} {c : Code} : step P (lone (b.atR a (.code (.scope c) :: k)) cs w) = .next (lone (b.atR a (.code c :: .inScope c :: k)) cs w) :=
  step_lone_go (by simp [stepG, stepG.exec, Frame.atR])
theorem stepR_inScope {P : Program} {b : Frame} {a : Act} {k : List Item} {cs : List Frame} {w : World} {c : Code} : step P (lone (b.atR a (.inScope c :: k)) cs w) = .next (lone (b.atR a k) cs w) :=
  step_lone_go (by simp [stepG, stepG.exec, Frame.atR])

/-- What a piece of a scope does, the scope around it. -/
def AWsc (E : Env) (K : Nat → Prop) (n : Nat) (body c : Code) (Q : Exit → Al → Lb → Prop) (al : Al) (L : Lb) : Prop :=
  ∀ A w σ a, Rel E A w σ al L a → a.tmps.size = n → ∀ b k cs, b.roundOf = (fen E.ro).round → (fen E.ro).fn b.fn → (fen E.ro).room (cs.length + 1 + 0) → ∃ e a' w', Post E K A w σ L n Q e a' w' ∧ ArrivesIn (Machine.fenced E.P (fen E.ro)) E.P (lone (b.atR a (.code c :: .inScope body :: k)) cs w) b k cs e a' w'

theorem AW_scope {c : Code} (h : AWsc E K n c c Q al L) : AW E K n (.scope c) Q al L := by
  intro A w σ a r t b k cs hro hb hrm
  obtain ⟨e, a', w', hq, harr⟩ := h A w σ a r t b k cs hro hb hrm
  exact ⟨e, a', w', hq, .of_steps (.one (fenced_calm hb hrm rfl) stepR_scope) harr⟩

/-- Where a goto goes to. -/
def scopeQ (E : Env) (K : Nat → Prop) (n : Nat) (body : Code) (Q : Exit → Al → Lb → Prop) : Exit → Al → Lb → Prop
  | .goto l, al, L => match findLabel body l with | some rest => AWsc E K n body rest Q al L | none => Q (.goto l) al L
  | e, al, L => Q e al L

theorem AWsc_run {body c : Code} (h : AW E K n c (scopeQ E K n body Q) al L) : AWsc E K n body c Q al L := by
  intro A w σ a r t b k cs hro hb hrm
  obtain ⟨e, a₁, w₁, ⟨al₁, L₁, σ₁, q, r₁, g₁, t₁⟩, harr⟩ := h A w σ a r t b (.inScope body :: k) cs hro hb hrm
  cases e with
  | normal => exact ⟨.normal, a₁, w₁, ⟨al₁, L₁, σ₁, q, r₁, g₁, t₁⟩, StepsIn.trans harr (.one (fenced_calm hb hrm rfl) stepR_inScope)⟩
  | exit id => exact ⟨_, a₁, w₁, ⟨al₁, L₁, σ₁, q, r₁, g₁, t₁⟩, fun k' hk => harr.1 k' (by simp [exitTo, hk]), fun hr hk => harr.2 hr (by simp [exitTo, hk])⟩
  | goto l =>
    simp only [scopeQ] at q
    cases hf : findLabel body l with
    | none =>
      rw [hf] at q
      have hg : gotoIn l (.inScope body :: k) = gotoIn l k := by simp [gotoIn, hf]
      exact ⟨_, a₁, w₁, ⟨al₁, L₁, σ₁, q, r₁, g₁, t₁⟩, fun k' hk => harr.1 k' (by rw [hg]; exact hk), fun hr hk => harr.2 hr (by rw [hg]; exact hk)⟩
    | some rest =>
      rw [hf] at q
      have hg : gotoIn l (.inScope body :: k) = some (.code rest :: .inScope body :: k) := by simp [gotoIn, hf]
      obtain ⟨e₂, a₂, w₂, hq₂, harr₂⟩ := q A w₁ σ₁ a₁ r₁ t₁ b k cs hro hb hrm
      exact ⟨e₂, a₂, w₂, Post.trans g₁ hq₂, .of_steps (harr.1 _ hg) harr₂⟩
  | ret => exact ⟨_, a₁, w₁, ⟨al₁, L₁, σ₁, q, r₁, g₁, t₁⟩, harr⟩
  | panic ch => exact ⟨_, a₁, w₁, ⟨al₁, L₁, σ₁, q, r₁, g₁, t₁⟩, harr⟩
  | outgrown => exact ⟨_, a₁, w₁, ⟨al₁, L₁, σ₁, q, r₁, g₁, t₁⟩, harr⟩

/-- A call in the state as it is. -/
theorem AWl_callF {ops : Array Oper} {rest : List Oper} {d : Option Tmp} {ty : TypeId} {pos : String} {after : Array Edge} {g : Option (Nat × Bool)} {fo : Operand} {args : Array Operand} {ts : Array TypeId} {f : FuncId} {caps xs : List PV} {R : PV → Lb → Prop}
    (hf : xev E.G al fo = some (.fn f caps)) (hx : xevs E.G al args.toList = some xs) (hrun : ∀ args w, (callFunc f args).run E.P w = .ok (.enter f args) w)
    (h : ACalls E f (xs ++ caps) L R) (hd : ∀ t, d = some t → t < n) (hg : wants ops al ⟨d, .call ⟨.value fo, args, ts⟩, ty, pos, after, g⟩ = some true)
    (k : ∀ x L', R x L' → AWl E K n ops rest Q (oset d x al) L') : AWl E K n ops (⟨d, .call ⟨.value fo, args, ts⟩, ty, pos, after, g⟩ :: rest) Q al L := by
  intro A w σ a r t
  obtain ⟨cargs, hr, hl, hcv⟩ := run_call (d := d) (ty := ty) (pos := pos) (after := after) (g := g) (ts := ts) r (fun _ _ h => h) hf hx hrun
  simp only [wpListIn]
  rw [if_pos (wants_ok r hg)]
  refine Oper_wpIn (fun c h => by cases h) ?_
  unfold Oper.wp
  rw [hr]
  refine (h A w σ cargs (by omega) hcv r.blocks r.globals).mono ?_
  rintro e w' ⟨x, c, L', σ', rfl, hR, hv, hb, hgr⟩
  have hgt : Grow top w σ L w' σ' L' := ⟨hgr.size, fun l y _ hy => hgr.sig l y (r.blocks.dom l y hy) hy, hgr.keep, hgr.out⟩
  have r' := (r.grow hb hgt).put (d := d) (fun u hu => by rw [t]; exact hd u hu) hv
  exact wpListIn_mono (fun e a w h => Post.trans (hgt.weaken fun _ _ => trivial) h) _ _ _ (k x L' hR A w' σ' _ r' (by rw [size_put]; exact t))
end

/-- What a call leaves, without the labels that nothing names. -/
theorem ACallsT.trim {E : Env} (hG : GOK E) {T : World → List Value → (Ending → World → Prop) → Prop} (hT : ∀ w cargs (R R' : Ending → World → Prop), (∀ e w', R e w' → R' e w') → T w cargs R → T w cargs R') {args : List PV} {L : Lb} {v : PV} {R : Lb → Prop} {LL : Lb} (h : ACallsT E T args L fun r L' => r = v ∧ R L')
    (hk : ∀ L', R L' → (∀ l y, lget LL l = some y → lget L' l = some y) ∧ ∀ l, lget L l ≠ none → lget LL l ≠ none)
    (hv : within (hasL LL) v = true) (hc : LL.all (fun p => match p.2 with | some cells => withinL (hasL LL) cells | none => true) = true) : ACallsT E T args L fun r L' => r = v ∧ L' = LL := by
  intro A w σ cargs hl hvr hb hg
  refine hT w cargs _ _ ?_ (h A w σ cargs hl hvr hb hg)
  rintro e w' ⟨r, c, L', σ', rfl, ⟨rfl, hR⟩, hv', hb', hgr⟩
  obtain ⟨k1, k2⟩ := hk L' hR
  have hgt : Grow top w σ L w' σ' L' := ⟨hgr.size, fun l y _ hy => hgr.sig l y (hb.dom l y hy) hy, hgr.keep, hgr.out⟩
  have rel : Rel (E.on none none) A w' σ' [(0, r)] L' { tmps := #[c], defers := [] } := ⟨fun t x hx => by
    simp only [lget] at hx
    split at hx
    · rename_i ht; subst ht; simp at hx; subst hx; exact ⟨c, rfl, hv'⟩
    · simp at hx, hb', fun g cells hgc => (hg g cells hgc).grow hgt, rfl⟩
  obtain ⟨σ'', rel', g'⟩ := Weak.trim (E := E.on none none) (K := fun l => lget L l ≠ none) (al' := [(0, r)]) (L' := LL) (fun p hp => by simp at hp; subst hp; simp [lget]) k1 (fun l hl => .inl (k2 l hl)) (by simpa using hv) hc hG A w' σ' _ rel
  obtain ⟨u, hu1, hu2⟩ := rel'.tmps 0 r (by simp [lget])
  simp at hu1; subst hu1
  exact ⟨r, c, LL, σ'', rfl, ⟨rfl, rfl⟩, hu2, rel'.blocks, hgr.trans g'⟩

theorem ACalls.trim {E : Env} (hG : GOK E) {f : FuncId} {args : List PV} {L : Lb} {v : PV} {R : Lb → Prop} {LL : Lb} (h : ACalls E f args L fun r L' => r = v ∧ R L')
    (hk : ∀ L', R L' → (∀ l y, lget LL l = some y → lget L' l = some y) ∧ ∀ l, lget L l ≠ none → lget LL l ≠ none)
    (hv : within (hasL LL) v = true) (hc : LL.all (fun p => match p.2 with | some cells => withinL (hasL LL) cells | none => true) = true) : ACalls E f args L fun r L' => r = v ∧ L' = LL :=
  ACallsT.trim hG (T := fun w cargs R => Calls E.P f cargs.toArray w R) (fun w cargs R R' hr h => h.mono hr) h hk hv hc

/-- What is run looks at the blocks 'rl' alone. -/
theorem ACallsT.use {E : Env} {T : World → List Value → (Ending → World → Prop) → Prop} (hT : ∀ w cargs (R R' : Ending → World → Prop), (∀ e w', R e w' → R' e w') → T w cargs R → T w cargs R') {args : List PV} {v : PV} {rl LL wl : Lb} (hG : GOK E) (h : ACallsT E T args rl fun r L' => r = v ∧ L' = LL)
    (hw : withinL (hasL rl) args = true) (hc : ∀ l cells, lget rl l = some (some cells) → withinL (hasL rl) cells = true)
    (hkeys : ∀ l, lget rl l ≠ none → lget LL l ≠ none) (hnew : ∀ l y, lget LL l = some y → lget rl l = none → ∃ p ∈ wl, p.1 = l)
    (heq : ∀ (L : Lb) (l : Nat), (∀ l y, lget rl l = some y → lget L l = some y) → lget (lupd L wl) l = lget (LL ++ L) l)
    {A : Nat → Prop} {w : World} {σ : Sig} {al : Al} {L : Lb} {a : Act} (r : Rel E A w σ al L a) (h2 : ∀ l y, lget rl l = some y → lget L l = some y) (h3 : ∀ p ∈ wl, lget rl p.1 ≠ none ∨ lget L p.1 = none)
    {cargs : List Value} (hl : cargs.length = args.length) (hcv : ∀ (i : Nat) (x : PV) (v : Value), args[i]? = some x → cargs[i]? = some v → VR w σ (avo A σ L) x v) :
    T w cargs fun e w' => ∃ σ' c, e = .returned c ∧ VR w' σ' (avo A σ' (lupd L wl)) v c ∧ BR w' σ' A (lupd L wl) ∧ Grow top w σ L w' σ' (lupd L wl) := by
  refine hT _ _ _ _ ?_ (h.frame hT h2 hw hc r hl hcv hG)
  rintro e w' ⟨x, c, L1', rfl, ⟨rfl, rfl⟩, hk⟩
  obtain ⟨σ', e1, e2, e3⟩ := hk (fun l hl => by
    by_cases hr : lget rl l = none
    · cases hy : lget L1' l with
      | none => exact absurd hy hl
      | some y =>
        obtain ⟨p, hp, rfl⟩ := hnew l y hy hr
        rcases h3 p hp with h | h
        · exact .inl h
        · exact .inr h
    · exact .inl hr) hkeys
  have hq := fun l => heq L l h2
  have hgg : Grow top w' σ' (L1' ++ L) w' σ' (lupd L wl) := ⟨Nat.le_refl _, fun _ _ _ h => h, fun β _ hn => ⟨fun ha => hn ((avOf_congr hq β).1 ha), rfl⟩, rfl, rfl, rfl⟩
  refine ⟨σ', c, rfl, e1.grow hgg, ⟨?_, ?_, ?_, ?_⟩, e3.trans hgg⟩
  · intro l cells hl
    rw [hq] at hl
    rcases e2.all l cells hl with h1 | ⟨β, add, size, c, T, fr, hB⟩
    · exact .inl h1
    · exact .inr ⟨β, add, size, c, T, fr, ⟨hB.sig, hB.heap, hB.hsz, hB.fits, fun i x hx => let ⟨v, h1, h2⟩ := hB.vals i x hx; ⟨v, h1, h2.grow hgg⟩, hB.frs⟩⟩
  · intro l l' c c' β a s a' s' h1 h2; rw [hq] at h1 h2; exact e2.inj l l' c c' β a s a' s' h1 h2
  · intro l x hx; rw [hq]; exact e2.dom l x hx
  · intro β hA; obtain ⟨h1, h2⟩ := e2.lo β hA; exact ⟨h1, fun ha => h2 ((avOf_congr hq β).1 ha)⟩

section
variable {E : Env} {d : Option Tmp} {ty : TypeId} {pos : String} {after : Array Edge} {g : Option (Nat × Bool)} {ra : Al} {rl : Lb}
/-- A call where the order is open: it looks at the blocks 'rl' alone. -/
theorem AOp_callG {fo : Operand} {args : Array Operand} {ts : Array TypeId} {f : FuncId} {caps xs : List PV} {v : PV} {LL wl : Lb} (hG : GOK E) (hf : xev E.G ra fo = some (.fn f caps)) (hx : xevs E.G ra args.toList = some xs)
    (hrun : ∀ args w, (callFunc f args).run E.P w = .ok (.enter f args) w) (h : ACalls E f (xs ++ caps) rl fun r L' => r = v ∧ L' = LL)
    (hw : withinL (hasL rl) (xs ++ caps) = true) (hc : ∀ l cells, lget rl l = some (some cells) → withinL (hasL rl) cells = true)
    (hkeys : ∀ l, lget rl l ≠ none → lget LL l ≠ none) (hnew : ∀ l y, lget LL l = some y → lget rl l = none → ∃ p ∈ wl, p.1 = l)
    (heq : ∀ (L : Lb) (l : Nat), (∀ l y, lget rl l = some y → lget L l = some y) → lget (lupd L wl) l = lget (LL ++ L) l) : AOp E ⟨d, .call ⟨.value fo, args, ts⟩, ty, pos, after, g⟩ ra rl v wl := by
  intro A w σ al L a r h1 h2 h3
  obtain ⟨cargs, hr, hl, hcv⟩ := run_call (d := d) (ty := ty) (pos := pos) (after := after) (g := g) (ts := ts) r h1 hf hx hrun
  unfold Oper.wp
  rw [hr]
  exact (ACallsT.use (T := fun w cargs R => Calls E.P f cargs.toArray w R) (fun w cargs R R' hr h => h.mono hr) hG h hw hc hkeys hnew heq r h2 h3 (by omega) hcv).mono fun e w' ⟨σ', c, he, e1, e2, e3⟩ => by subst he; exact ⟨σ', c, rfl, e1, e2, e3⟩

end
end Go.SH
namespace Go.SH

theorem lget_lupdN {α : Type} {wl L : List (Nat × α)} {k : Nat} (h : ∀ p ∈ wl, ∀ q ∈ wl, p.1 = q.1 → p = q) : lget (lupd L wl) k = match lget wl k with | some c => some c | none => lget L k := by
  rcases lget_lupdG wl L k with ⟨p, hp, rfl, h2⟩ | ⟨h1, h2⟩
  · have hk : (keys wl).elem p.1 = true := by simp only [keys, List.elem_eq_mem, decide_eq_true_eq]; exact List.mem_map.2 ⟨p, hp, rfl⟩
    cases hc : lget wl p.1 with
    | none => exact absurd hc (elemK.1 hk)
    | some c =>
      have := h p hp _ (mem_of_lget hc) rfl
      rw [h2, this]
  · cases hc : lget wl k with
    | none => exact h2
    | some c => exact absurd rfl (h1 _ (mem_of_lget hc))
theorem set_ok {s : St} (h : s.ok) {d : Option Nat} {x : DV} (hx : x.ok) : (s.set d x).ok := by
  cases d with
  | none => exact h
  | some t =>
    refine ⟨fun u y hy => ?_, h.2⟩
    simp only [St.set, lget] at hy
    split at hy
    · simp at hy; subst hy; exact hx
    · exact h.1 u y hy
theorem wr_ok {s : St} (h : s.ok) {wl : DLb} {dl : DL} (hw : wlOk wl) : (s.wr wl dl).ok := by
  refine ⟨h.1, fun l c hl => ?_⟩
  simp only [St.wr] at hl
  rcases lget_lupdG wl s.L l with ⟨p, hp, rfl, h2⟩ | ⟨_, h2⟩
  · rw [h2] at hl; simp at hl; subst hl; exact hw p hp
  · rw [h2] at hl; exact h.2 l c hl
theorem set_up (s : St) (d : Option Nat) (x : DV) : Up s (s.set d x) := fun _ h => h.set d x
theorem wr_up {s : St} {wl : DLb} {dl : DL} (h : DirtyOK s.L wl dl) : Up s (s.wr wl dl) := fun _ k => k.wr h
theorem dal_set (s : St) (d : Option Nat) (x : DV) : dal (s.set d x).al = oset d x.pv (dal s.al) := by cases d <;> rfl
theorem dlb_set (s : St) (d : Option Nat) (x : DV) : (s.set d x).L = s.L := by cases d <;> rfl
theorem resV_ok {s : St} (h : s.ok) : (resV s).ok := by
  unfold resV
  split
  · rename_i d hd; exact h.1 _ _ hd
  · trivial
theorem nodupM_mem : ∀ {m m' : List (Nat × Nat)}, nodupM (m ++ m') = true → ∀ p ∈ m, lk (m ++ m') p.1 = p.2 := fun h p hp => nodupM_lk h p (List.mem_append_left _ hp)

section
variable {E : Env} {d : Option Tmp} {ty : TypeId} {pos : String} {after : Array Edge} {gg : Option (Nat × Bool)} {ra : DAl} {rl : DLb} {R : Type} {k : DV → DLb → DL → Option R} {r : R} {G : GTab}

theorem dCallI_ok (hG : E.G = gtPV G) (hE : GOK E) (hal : alOk ra) (hrl : lbOk rl) {fr : Nat} {con : ICon E} {f : FuncId} {fo : Operand} {args : Array Operand} {ts : Array TypeId} {caps xs : List DV} (hf : dev G ra fo = some (.fn f caps)) (hx : devs G ra args.toList = some xs)
    (h : dCallI rl fr con f (xs ++ caps) k = some r) : OpS E ⟨d, .call ⟨.value fo, args, ts⟩, ty, pos, after, gg⟩ ra rl k r := by
  obtain ⟨hf', _⟩ := dev_ok hal hf
  obtain ⟨hx', hxo⟩ := devs_ok hal hx
  rw [← hG] at hf' hx'
  unfold dCallI at h
  split at h
  rotate_left
  · simp at h
  rename_i hc0; obtain ⟨rfl, hk1, hk2, hk3⟩ := hc0
  split at h
  rotate_left
  · simp at h
  rename_i g1 hg1
  split at h
  rotate_left
  · simp at h
  rename_i g hg
  obtain ⟨hq, h⟩ := reqs_ok h
  split at h
  rotate_left
  · simp at h
  rename_i a ha
  obtain ⟨v, hv, h⟩ := bind_some h
  simp only at h
  split at h
  rotate_left
  · simp at h
  rename_i hc
  obtain ⟨c1, c2, c3, c4, c5, c6, c7, c8, c9, c10, c11, c12⟩ := hc
  have hu := pack_ok ha
  obtain ⟨a1, as, a2, a3, a4⟩ := gets_mks _ con.ar hg1
  obtain ⟨b1, ys, b2, b4⟩ := getL_ok hg
  have hvs : g.vs = as ++ ys := by rw [b2, a2]; simp
  have hC := con.ok a v hv
  rw [hu] at hC
  generalize hlen : inLen con.ar con.ls g.vs = len at *
  generalize ho : con.ot.app v (inS con.ar con.ls g.vs) = o at *
  have hAeq : inA con.ar con.ls g.vs = (Sh.mks len con.ar (as ++ ys)).1 := by unfold inA; rw [hlen, hvs]
  have hτ : ∀ p ∈ g.m, lk (g.m ++ newN (fr) (keys con.ls) (keys o.L) 0) p.1 = p.2 := nodupM_mem c1
  generalize lk (g.m ++ newN (fr) (keys con.ls) (keys o.L) 0) = τ at *
  have hLk : keys (inL con.ar con.ls g.vs) = keys con.ls := mkL_keys _ _ _
  have hS : hasL (dlb (inL con.ar con.ls g.vs)) = fun l => (keys con.ls).elem l := by rw [hasL_keys, hLk]
  have hF : Fin τ (hasL (dlb (inL con.ar con.ls g.vs))) len g := ⟨fun p hp => ⟨hτ p hp, by rw [hS]; exact List.all_eq_true.1 c2 p hp⟩, hq⟩
  obtain ⟨d1, d2, d3⟩ := a4 len ys τ _ (hF.sub b1).m (hF.sub b1).q
  obtain ⟨e1, e2⟩ := b4 [] hF
  have hx1 := getL_x hg b2 (rest := []) hF
  rw [List.append_nil] at e1 e2 hx1
  have hLeq : inL con.ar con.ls g.vs = (mkL len con.ls ys).1 := by
    unfold inL; rw [hlen, hvs]
    simp only at d1
    rw [d1]
  let L2 : Lb := con.ls.map fun p => (τ p.1, match lget rl (τ p.1) with | some c => c.pv | none => none)
  have hL2k : hasL L2 = fun l => ((keys con.ls).map τ).elem l := by
    have : L2 = dlb (con.ls.map fun p => (τ p.1, match lget rl (τ p.1) with | some c => c | none => .gone)) := by
      simp only [L2, dlb, List.map_map]
      refine List.map_congr_left fun p _ => ?_
      simp only [Function.comp]
      cases lget rl (τ p.1) <;> rfl
    rw [this, hasL_keys]
    funext l
    simp only [keys, List.map_map]
    rfl
  have hin : ∀ l, l ∈ keys con.ls → ∃ c cells, lget rl (τ l) = some c ∧ c.pv = some cells ∧ dcLabs (fun l => ((keys con.ls).map τ).elem l) c = true := by
    intro l hl
    obtain ⟨p, hp, rfl⟩ := List.mem_map.1 hl
    have := List.all_eq_true.1 c4 p hp
    split at this
    · simp at this
    · rename_i c hne hc
      cases c with
      | gone => exact (hne rfl).elim
      | cs ds => exact ⟨_, _, hc, rfl, this⟩
      | ls t x => exact ⟨_, _, hc, rfl, this⟩
    · simp at this
  have hsub : ∀ p ∈ L2, lget (dlb rl) p.1 = some p.2 := by
    intro p hp
    obtain ⟨q, hq, rfl⟩ := List.mem_map.1 hp
    obtain ⟨c, cells, h1, h2, _⟩ := hin q.1 (List.mem_map.2 ⟨q, hq, rfl⟩)
    simp only; rw [lget_dlb, h1]; rfl
  have hL2get : ∀ l, l ∈ keys con.ls → lget L2 (τ l) = lget (dlb rl) (τ l) := by
    intro l hl
    have : hasL L2 (τ l) = true := by rw [hL2k]; simp only [List.elem_eq_mem, decide_eq_true_eq]; exact List.mem_map.2 ⟨l, hl, rfl⟩
    simp only [hasL, Option.isSome_iff_exists] at this
    obtain ⟨y, hy⟩ := this
    rw [hy]; exact (hsub _ (mem_of_lget hy)).symm
  have hinj : ∀ l l', lget (dlb o.L) l ≠ none → lget (dlb o.L) l' ≠ none → τ l = τ l' → l = l' := by
    intro l l' h1 h2 h3
    have hk : ∀ {l}, lget (dlb o.L) l ≠ none → l ∈ keys o.L := fun {l} h => by
      have : hasL (dlb o.L) l = true := by simpa [hasL, Option.isSome_iff_ne_none] using h
      rw [hasL_keys] at this; simpa using this
    have := List.all_eq_true.1 (List.all_eq_true.1 c6 l (hk h1)) l' (hk h2)
    simp only [decide_eq_true_eq] at this
    exact this h3
  have hmemo : ∀ {l}, lget (dlb o.L) l ≠ none ↔ l ∈ keys o.L := fun {l} => by
    have : hasL (dlb o.L) l = true ↔ l ∈ keys o.L := by rw [hasL_keys]; simp
    rw [← this]; simp [hasL, Option.isSome_iff_ne_none]
  have hmemi : ∀ {l}, lget (dlb (inL con.ar con.ls g.vs)) l ≠ none ↔ l ∈ keys con.ls := fun {l} => by
    have : hasL (dlb (inL con.ar con.ls g.vs)) l = true ↔ l ∈ keys con.ls := by rw [hS]; simp
    rw [← this]; simp [hasL, Option.isSome_iff_ne_none]
  have hdom : ∀ l, l ∈ keys con.ls → l ∈ keys o.L := fun l hl => by simpa using List.all_eq_true.1 c5 l hl
  have hrn : ∀ l, l ∈ keys o.L → lget (rnL τ o.L) (τ l) = (lget o.L l).map (DC.rn τ) := fun l hl => lget_rn fun l' hl' e => hinj l' l (hmemo.2 hl') (hmemo.2 hl) e
  have hR := ACalls.ren (L2 := L2) (LL2 := dlb (rnL τ o.L)) (τ := τ) (xs := DV.pvs (xs ++ caps)) hC (by
      rw [hAeq]; exact d2.get.1) (fun i x y hx hy => by rw [hAeq] at hy; exact d2.get.2 i x y hx hy) (fun l c hl => by
      have hlk : l ∈ keys con.ls := hmemi.1 (by rw [hl]; simp)
      have hm := mem_of_lget hl
      obtain ⟨⟨l', c'⟩, hp, e⟩ := List.mem_map.1 hm
      simp only [Prod.mk.injEq] at e; obtain ⟨rfl, rfl⟩ := e
      rw [hLeq] at hp
      obtain ⟨_, ys', k2, k3⟩ := e2 _ hp
      simp only at k2 k3
      rcases k3 with ⟨xs', k4, k5⟩ | ⟨k4, _⟩
      · exact ⟨ys', xs', k2, by rw [hL2get _ hlk]; exact k4, k5⟩
      · obtain ⟨c, cells, h1, _⟩ := hin _ hlk
        rw [lget_dlb, h1] at k4; simp at k4)
    (fun k' hk' => by
      have : hasL L2 k' = true := by simpa [hasL, Option.isSome_iff_ne_none] using hk'
      rw [hL2k] at this
      simp only [List.elem_eq_mem, decide_eq_true_eq] at this
      obtain ⟨l, h1, h2⟩ := List.mem_map.1 this
      exact ⟨l, hmemi.2 h1, h2⟩) hinj (fun l hl => hmemo.2 (hdom l (hmemi.1 hl)))
    (by rw [hasL_keys]; exact labs_within c7) (fun l cells hl => by
      have hm := mem_of_lget hl
      obtain ⟨⟨l', c'⟩, hp, e⟩ := List.mem_map.1 hm
      simp only [Prod.mk.injEq] at e; obtain ⟨rfl, e⟩ := e
      have h8 := List.all_eq_true.1 c8 _ hp
      rw [hasL_keys]
      cases c' with
      | gone => simp [DC.pv] at e
      | cs ds => simp [DC.pv] at e; subst e; exact labsL_within h8
      | ls t x => simp [DC.pv] at e; subst e; exact fl_within _ _)
    (fun l c hl => by
      have hlk : l ∈ keys o.L := hmemo.1 (by rw [hl]; simp)
      rw [lget_dlb] at hl
      cases ho2 : lget o.L l with
      | none => rw [ho2] at hl; simp at hl
      | some c' =>
        rw [ho2] at hl; simp at hl; subst hl
        rw [lget_dlb, hrn l hlk, ho2]
        simp [dc_rn_pv])
    (fun k' hk' => by
      rw [lget_dlb] at hk'
      obtain ⟨l, h1, h2⟩ := lget_rn_none (L := o.L) (τ := τ) (k := k') (fun e => hk' (by rw [e]; rfl))
      exact ⟨l, hmemo.2 h1, h2⟩) hE
  have hwl_nd : ∀ p ∈ wlI τ rl con.ls con.ot o.L, ∀ q ∈ wlI τ rl con.ls con.ot o.L, p.1 = q.1 → p = q := by
    intro p hp q hq e
    obtain ⟨⟨l, c⟩, hp1, rfl⟩ := List.mem_map.1 hp
    obtain ⟨⟨l', c'⟩, hq1, rfl⟩ := List.mem_map.1 hq
    have hp' := (List.mem_filter.1 hp1).1
    have hq' := (List.mem_filter.1 hq1).1
    have h1 := nodupN_lget c11 hp'
    have h2 := nodupN_lget c11 hq'
    have hlk : ∀ {l c}, (l, c) ∈ o.L → l ∈ keys o.L := fun h => List.mem_map.2 ⟨_, h, rfl⟩
    have := hinj l l' (hmemo.2 (hlk hp')) (hmemo.2 (hlk hq')) e
    subst this
    rw [h1] at h2; simp at h2; rw [h2]
  have hbase : ∀ l c, lget o.L l = some c → l ∉ keys con.ot.labs → ∃ c0, (l, c0) ∈ inL con.ar con.ls g.vs ∧ ∃ cu : List (Nat × Nat × DV), (cu.map fun c => (c.1, c.2.1)) = (con.ot.cups.map fun c => (c.1, c.2.1)) ∧ c = cupL cu con.ot.killL l c0 := by
    intro l c hl hn
    rw [← ho] at hl
    simp only [Tm.app, Tm.appL] at hl
    rcases lget_appM hl with ⟨p, hp, rfl⟩ | ⟨_, hl⟩
    · have : l ∈ keys con.ot.labs := by
        have h1 : l ∈ (mkL (lenF (lenT con.ot.labs ((unpack con.ot.hs v).drop (nS con.ot.slots))) (inS con.ar con.ls g.vs).L) con.ot.labs (mkS (lenF (lenT con.ot.labs ((unpack con.ot.hs v).drop (nS con.ot.slots))) (inS con.ar con.ls g.vs).L) con.ot.slots (unpack con.ot.hs v)).2).1.map (·.1) := List.mem_map.2 ⟨_, hp, rfl⟩
        rw [mkL_keys] at h1; exact h1
      exact absurd this hn
    · obtain ⟨⟨l', c0⟩, hp, e⟩ := List.mem_map.1 (mem_of_lget hl)
      simp only [Prod.mk.injEq] at e; obtain ⟨rfl, rfl⟩ := e
      exact ⟨c0, mem_of_lget (ded_mem hp).2, _, mkC_keys _ _ _, rfl⟩
  have hcup_no : ∀ {cu : List (Nat × Nat × DV)} {l : Nat} {c0 : DC}, (cu.map fun c => (c.1, c.2.1)) = (con.ot.cups.map fun c => (c.1, c.2.1)) → con.ot.killL.elem l = false → ∀ t x, c0 = .ls t x → cupL cu con.ot.killL l c0 = .ls t x := by
    intro cu l c0 _ hk t x e; subst e; simp only [cupL, hk]
  have hkept : ∀ l, l ∈ keys o.L → keptI τ rl con.ls con.ot l = true → ∃ c, lget rl (τ l) = some c ∧ (lget o.L l).map (DC.rn τ) = some c := by
    intro l hlo hk
    simp only [keptI, Bool.and_eq_true, Bool.not_eq_true'] at hk
    obtain ⟨⟨⟨k1, k2⟩, k3⟩, k4⟩ := hk
    split at k4
    · rename_i sl hsl
      cases hoc : lget o.L l with
      | none => exact absurd (by rw [lget_dlb, hoc]; rfl) (hmemo.2 hlo)
      | some c =>
        have hn : l ∉ keys con.ot.labs := fun hm => by
          have : (keys con.ot.labs).elem l = true := by simpa using hm
          rw [this] at k1; simp at k1
        obtain ⟨c0, h1, cu, h2, h3⟩ := hbase l c hoc hn
        rw [hLeq] at h1
        obtain ⟨sh, h4, h5⟩ := hx1 _ h1
        have h6 := nodupN_lget c12 h4
        rw [hsl] at h6; simp at h6; subst h6
        unfold lsSame at k4
        split at k4
        · rename_i t t' x hls
          simp at k4; subst k4
          obtain ⟨y, h7, h8⟩ := h5
          simp only at h7 h8
          have h9 := h8 x hls
          subst h9
          exact ⟨_, hls, by rw [h3, hcup_no h2 k2 _ _ h7]; rfl⟩
        · rename_i ss ds hls
          obtain ⟨ds', es, h6, h7, h8, h9, h10⟩ := h5
          simp only at h6 h7
          rw [hls] at h6; simp at h6; subst h6
          refine ⟨_, hls, ?_⟩
          rw [h3, h7]
          simp only [cupL, k2, Option.map_some, DC.rn]
          have hno : ∀ i e0, cupD cu l i e0 = e0 := by
            intro i e0
            rcases cupD_or cu l i e0 with ⟨h13, _⟩ | ⟨q, h13, h14, h15, _⟩
            · exact h13
            · exfalso
              have hm : (q.1, q.2.1) ∈ cu.map (fun c => (c.1, c.2.1)) := List.mem_map.2 ⟨q, h13, rfl⟩
              rw [h2] at hm
              obtain ⟨q', h16, h17⟩ := List.mem_map.1 hm
              simp at h17
              have : (con.ot.cups.any fun c => decide (c.1 = l)) = true := List.any_eq_true.2 ⟨q', h16, by simp [h17.1, h14]⟩
              rw [this] at k3; simp at k3
          congr 2
          refine List.ext_getElem? fun i => ?_
          rw [rnsD_get, cupM_get]
          cases hei : es[i]? with
          | none =>
            have : ds.length ≤ i := by have := List.getElem?_eq_none_iff.1 hei; omega
            rw [List.getElem?_eq_none this]; rfl
          | some e0 =>
            have hlt : i < ds.length := by have := (List.getElem?_eq_some_iff.1 hei).1; omega
            have hdi := List.getElem?_eq_getElem hlt
            have hsi : ss[i]? = some (ss[i]'(by omega)) := List.getElem?_eq_getElem (by omega)
            obtain ⟨e, h11, h12⟩ := h10 i _ _ hsi hdi (allExact_get k4 hsi hdi)
            rw [hei] at h11; simp at h11; subst h11
            simp only [Option.map_some, Nat.zero_add, hno]
            rw [h12, hdi]
        · simp at k4
    · simp at k4
  have hwl : ∀ l, l ∈ keys o.L → lget (wlI τ rl con.ls con.ot o.L) (τ l) = if keptI τ rl con.ls con.ot l = true then none else (lget o.L l).map (DC.rn τ) := by
    intro l hl
    unfold wlI
    rw [lget_rn]
    · rw [lget_filter (f := fun l => !keptI τ rl con.ls con.ot l)]
      cases keptI τ rl con.ls con.ot l <;> simp
    · intro l' hl' e
      obtain ⟨p, hp, rfl⟩ := List.mem_map.1 hl'
      exact hinj _ _ (hmemo.2 (List.mem_map.2 ⟨p, (List.mem_filter.1 hp).1, rfl⟩)) (hmemo.2 hl) e
  have hstate : ∀ (L : Lb) (l : Nat), (∀ l y, lget L2 l = some y → lget L l = some y) → lget (lupd L (dlb (wlI τ rl con.ls con.ot o.L))) l = lget (dlb (rnL τ o.L) ++ L) l := by
    intro L k' hL
    have hwl_nd' : ∀ p ∈ dlb (wlI τ rl con.ls con.ot o.L), ∀ q ∈ dlb (wlI τ rl con.ls con.ot o.L), p.1 = q.1 → p = q := by
      intro p hp q hq e
      obtain ⟨p', hp1, rfl⟩ := List.mem_map.1 hp
      obtain ⟨q', hq1, rfl⟩ := List.mem_map.1 hq
      rw [hwl_nd p' hp1 q' hq1 e]
    rw [lget_append, lget_dlb, lget_lupdN hwl_nd', lget_dlb]
    by_cases hk : ∃ l ∈ keys o.L, τ l = k'
    · obtain ⟨l, hl, rfl⟩ := hk
      rw [hwl l hl, hrn l hl]
      cases hoc : lget o.L l with
      | none => exact absurd (by rw [lget_dlb, hoc]; rfl) (hmemo.2 hl)
      | some c =>
        cases hkp : keptI τ rl con.ls con.ot l with
        | true =>
          obtain ⟨c1, h1, h2⟩ := hkept l hl hkp
          rw [hoc] at h2; simp at h2
          have hlk : l ∈ keys con.ls := by
            simp only [keptI, Bool.and_eq_true] at hkp
            have h3 := hkp.2
            split at h3
            · rename_i hls; have : (keys con.ls).elem l = true := elemK.2 (by rw [hls]; simp)
              simpa using this
            · simp at h3
          have h4 : lget L (τ l) = some c1.pv := hL _ _ (by rw [hL2get l hlk, lget_dlb, h1]; rfl)
          simp [h4, h2]
        | false => simp
    · have h1 : lget (rnL τ o.L) k' = none := by
        cases hc : lget (rnL τ o.L) k' with
        | none => rfl
        | some c => exact absurd (lget_rn_none (by rw [hc]; simp)) hk
      have h2 : lget (wlI τ rl con.ls con.ot o.L) k' = none := by
        cases hc : lget (wlI τ rl con.ls con.ot o.L) k' with
        | none => rfl
        | some c =>
          obtain ⟨l, h3, h4⟩ := lget_rn_none (L := o.L.filter fun p => !keptI τ rl con.ls con.ot p.1) (τ := τ) (k := k') (by unfold wlI at hc; rw [hc]; simp)
          obtain ⟨p, hp, rfl⟩ := List.mem_map.1 h3
          exact absurd ⟨p.1, List.mem_map.2 ⟨p, (List.mem_filter.1 hp).1, rfl⟩, h4⟩ hk
      rw [h1, h2]
      simp
  have hook : o.ok := by
    rw [← ho]
    refine app_ok hk1 v ⟨fun t x hx => by simp [inS, lget] at hx, fun l c hl => ?_⟩
    exact mkL_okk hk2 (l, c) (mem_of_lget hl)
  have hwlok : wlOk (wlI τ rl con.ls con.ot o.L) := by
    intro p hp
    obtain ⟨⟨l, c⟩, hp1, rfl⟩ := List.mem_map.1 hp
    have h1 := hook.2 l c (nodupN_lget c11 (List.mem_filter.1 hp1).1)
    cases c with
    | gone => trivial
    | ls t x => trivial
    | cs ds => exact rns_ok τ h1
  have hdirty : DirtyOK rl (wlI τ rl con.ls con.ot o.L) (dirtyI τ rl con.ls con.ot) := by
    intro p hp
    obtain ⟨⟨l, c⟩, hp1, rfl⟩ := List.mem_map.1 hp
    obtain ⟨hpm, hnk⟩ := List.mem_filter.1 hp1
    have hoc := nodupN_lget c11 hpm
    have hlo : l ∈ keys o.L := List.mem_map.2 ⟨_, hpm, rfl⟩
    simp only
    by_cases hlab : l ∈ keys con.ot.labs
    · left
      obtain ⟨q, hq, rfl⟩ := List.mem_map.1 hlab
      simp only [dirtyI, List.mem_append]
      exact .inl (.inl (.inl (List.mem_map.2 ⟨q, hq, rfl⟩)))
    · obtain ⟨c0, h1, cu, h2, h3⟩ := hbase l c hoc hlab
      cases hkl : con.ot.killL.elem l with
      | true =>
        left
        simp only [dirtyI, List.mem_append]
        exact .inl (.inr (List.mem_map.2 ⟨l, by simpa using hkl, rfl⟩))
      | false =>
        rw [hLeq] at h1
        obtain ⟨sh, h4, h5⟩ := hx1 _ h1
        simp only at h4 h5
        have hsh := nodupN_lget c12 h4
        have hinx : ∀ z, z ∈ inexact (τ l) sh (lget rl (τ l)) → z ∈ dirtyI τ rl con.ls con.ot := by
          intro z hz
          simp only [dirtyI, List.mem_append]
          exact .inr (List.mem_flatMap.2 ⟨(l, sh), h4, hz⟩)
        cases sh with
        | ls t =>
          obtain ⟨y, h6, h7⟩ := h5
          have hnk' : keptI τ rl con.ls con.ot l = false := by simpa using hnk
          have hl1 : (keys con.ot.labs).elem l = false := by simpa using hlab
          simp only [keptI, hl1, hkl, hsh, Bool.not_false, Bool.true_and, Bool.and_eq_false_iff, Bool.not_eq_false'] at hnk'
          rcases hnk' with h8 | h8
          · -- a cell of a list: there is none
            left
            simp only [List.any_eq_true, decide_eq_true_eq] at h8
            obtain ⟨q, hq, rfl⟩ := h8
            exfalso
            have := List.all_eq_true.1 hk3 q hq
            split at this
            · rename_i ss hss; rw [hsh] at hss; simp at hss
            · simp at this
          · left
            refine hinx _ ?_
            unfold inexact
            simp only
            cases hsl : lget rl (τ l) with
            | none => simp
            | some c' =>
              cases c' with
              | gone => simp
              | cs ds => simp
              | ls t' x =>
                simp only
                rw [hsl] at h8
                simp only [lsSame, decide_eq_false_iff_not] at h8
                rw [if_neg h8]; simp
        | cs ss =>
          obtain ⟨ds, es, h6, h7, h8, h9, h10⟩ := h5
          right
          subst h7
          have hcc : c = .cs (cupM cu l 0 es) := by rw [h3]; simp only [cupL, hkl]
          subst hcc
          refine ⟨ds, DV.rns τ (cupM cu l 0 es), h6, rfl, by rw [rnsD_len, cupM_len, h8], fun i hi => ?_⟩
          rw [rnsD_get, cupM_get]
          cases hei : es[i]? with
          | none =>
            have : ds.length ≤ i := by have := List.getElem?_eq_none_iff.1 hei; omega
            rw [List.getElem?_eq_none this]; rfl
          | some e0 =>
            have hlt : i < ds.length := by have := (List.getElem?_eq_some_iff.1 hei).1; omega
            have hdi := List.getElem?_eq_getElem hlt
            have hsi : ss[i]? = some (ss[i]'(by omega)) := List.getElem?_eq_getElem (by omega)
            have hex : exactD (ss[i]'(by omega)) ds[i] = true := by
              refine inexact_mem (k := τ l) (j := 0) (i := i) (fun hm => hi (hinx _ ?_)) hsi hdi
              unfold inexact
              simp only [h6]
              simpa using hm
            obtain ⟨e, h11, h12⟩ := h10 i _ _ hsi hdi hex
            rw [hei] at h11; simp at h11; subst h11
            simp only [Option.map_some, Nat.zero_add]
            rcases cupD_or cu l i e0 with ⟨h13, _⟩ | ⟨q, h13, h14, h15, _⟩
            · rw [h13, h12, hdi]
            · exfalso
              have hm : (q.1, q.2.1) ∈ cu.map (fun c => (c.1, c.2.1)) := List.mem_map.2 ⟨q, h13, rfl⟩
              rw [h2] at hm
              obtain ⟨q', h16, h17⟩ := List.mem_map.1 hm
              simp at h17
              refine hi ?_
              simp only [dirtyI, List.mem_append]
              exact .inl (.inl (.inr (List.mem_map.2 ⟨q', h16, by rw [h17.1, h17.2, h14, h15]⟩)))
  have hA : AOp E ⟨d, .call ⟨.value fo, args, ts⟩, ty, pos, after, gg⟩ (dal ra) L2 ((resV o).rn τ).pv (dlb (wlI τ rl con.ls con.ot o.L)) := by
    refine AOp_callG (caps := DV.pvs caps) (xs := DV.pvs xs) (LL := dlb (rnL τ o.L)) hE hf' hx' con.run (by rw [← pvs_append, rn_pv]; exact hR) ?_ ?_ ?_ ?_ hstate
    · rw [hL2k, ← pvs_append]; exact labsL_within c3
    · intro l cells hl
      obtain ⟨q, hq, e⟩ := List.mem_map.1 (mem_of_lget hl)
      simp only [Prod.mk.injEq] at e
      obtain ⟨rfl, hc⟩ := e
      rw [hL2k]
      obtain ⟨c, cells', h1, h2, h3⟩ := hin q.1 (List.mem_map.2 ⟨q, hq, rfl⟩)
      rw [h1] at hc
      simp only at hc
      rw [h2] at hc; simp at hc; subst hc
      cases c with
      | gone => simp [DC.pv] at h2
      | cs ds => simp [DC.pv] at h2; subst h2; exact labsL_within h3
      | ls t x => simp [DC.pv] at h2; subst h2; exact fl_within _ _
    · intro l hl
      have : hasL L2 l = true := by simpa [hasL, Option.isSome_iff_ne_none] using hl
      rw [hL2k] at this
      simp only [List.elem_eq_mem, decide_eq_true_eq] at this
      obtain ⟨q, hq, rfl⟩ := List.mem_map.1 this
      have hl2 := hdom q hq
      rw [lget_dlb, hrn q hl2]
      cases hoc : lget o.L q with
      | none => exact absurd (by rw [lget_dlb, hoc]; rfl) (hmemo.2 hl2)
      | some c => simp
    · intro l y hl hn
      have h1 : lget (rnL τ o.L) l ≠ none := fun e => by rw [lget_dlb, e] at hl; simp at hl
      obtain ⟨q, hq, rfl⟩ := lget_rn_none h1
      have hnl : q ∉ keys con.ls := fun hm => by
        have : hasL L2 (τ q) = true := by rw [hL2k]; simp only [List.elem_eq_mem, decide_eq_true_eq]; exact List.mem_map.2 ⟨q, hm, rfl⟩
        simp only [hasL, hn] at this; simp at this
      have hnk : keptI τ rl con.ls con.ot q = false := by
        have : lget con.ls q = none := by
          cases hc : lget con.ls q with
          | none => rfl
          | some c => exact absurd (by have : (keys con.ls).elem q = true := elemK.2 (by rw [hc]; simp)
                                       simpa using this) hnl
        simp only [keptI, this, Bool.and_false]
      obtain ⟨p, hp, rfl⟩ := List.mem_map.1 hq
      exact ⟨(τ p.1, (p.2.rn τ).pv), List.mem_map.2 ⟨(τ p.1, p.2.rn τ), List.mem_map.2 ⟨p, List.mem_filter.2 ⟨hp, by simp [hnk]⟩, rfl⟩, rfl⟩, rfl⟩
  refine ⟨_, _, _, ?_, rn_ok τ (resV_ok hook), hwlok, hdirty, h⟩
  intro A w σ al L a r h1 h2 h3
  refine hA A w σ al L a r h1 (fun l y hl => h2 l y ?_) fun p hp => ?_
  · rw [← hsub (l, y) (mem_of_lget hl)]
  · rcases h3 p hp with h4 | h4
    · left
      obtain ⟨p', hp1, rfl⟩ := List.mem_map.1 hp
      obtain ⟨⟨l, c⟩, hq1, rfl⟩ := List.mem_map.1 hp1
      have hl : l ∈ keys o.L := List.mem_map.2 ⟨_, (List.mem_filter.1 hq1).1, rfl⟩
      have := List.all_eq_true.1 c9 l hl
      simp only [Bool.or_eq_true, Bool.not_eq_true'] at this
      rcases this with h5 | h5
      · have : hasL L2 (τ l) = true := by rw [hL2k]; simp only [List.elem_eq_mem, decide_eq_true_eq] at h5 ⊢; exact List.mem_map.2 ⟨l, h5, rfl⟩
        simpa [hasL, Option.isSome_iff_ne_none] using this
      · exfalso
        simp only at h4
        rw [lget_dlb] at h4
        have : (keys rl).elem (τ l) = true := elemK.2 fun e => h4 (by rw [e]; rfl)
        rw [this] at h5; simp at h5
    · exact .inr h4

def dCallO {E : Env} (G : GTab) (con : Option (ICon E)) (o : Oper) (al : DAl) (L : DLb) (nl : Nat) {R : Type} (k : DV → DLb → DL → Option R) : Option R := match o.op with
  | .call ⟨.value fo, args, _⟩ => match dev G al fo with
    | some (.fn f caps) => match devs G al args.toList with
      | some xs => match con with
        | some con => dCallI L nl con f (xs ++ caps) k
        | none => none
      | none => none
    | _ => none
  | _ => none
theorem dCallO_ok (hG : E.G = gtPV G) (hE : GOK E) (hal : alOk ra) (hrl : lbOk rl) {con : Option (ICon E)} {o : Oper} {nl : Nat} (h : dCallO G con o ra rl nl k = some r) : OpS E o ra rl k r := by
  obtain ⟨dst, op, ty, pos, after, g⟩ := o
  unfold dCallO at h
  simp only at h
  split at h
  · split at h
    · rename_i hf
      split at h
      · rename_i hx
        split at h
        · exact dCallI_ok hG hE hal hrl hf hx h
        · simp at h
      · simp at h
    · simp at h
  · simp at h
/-- The contracts at hand. -/
structure CT (E : Env) where
  p : Nat → Option (PCon E)
  i : Nat → Option (ICon E)
def dOpX (E : Env) (G : GTab) (C : CT E) (oh : OH) (o : Oper) (al : DAl) (L : DLb) (nl : Nat) {R : Type} (k : DV → DLb → DL → Option R) : Option R := match oh.io with
  | none => dOp E G C.p oh o al L nl k
  | some j => dCallO G (C.i j) o al L nl k
theorem dOpX_ok (hG : E.G = gtPV G) (hE : GOK E) {C : CT E} {oh : OH} {o : Oper} {nl : Nat} (hal : alOk ra) (hrl : lbOk rl) (hn : lget rl nl = none) (h : dOpX E G C oh o ra rl nl k = some r) : OpS E o ra rl k r := by
  unfold dOpX at h
  split at h
  · exact dOp_ok hG hE hal hrl hn h
  · exact dCallO_ok hG hE hal hrl h
end
end Go.SH
namespace Go.SH

/-! ### freezing -/
theorem freeze_val {w : World} {σ : Sig} {A : Nat → Prop} {L : Lb} (hb : BR w σ A L) {l off n sz : Nat} {co : Option Nat} {cells part : List PV} (hl : lget L l = some (some cells)) (hp : (cells.drop off).take (n * sz) = part) (hin : off + n * sz ≤ cells.length)
    (hpure : withinL (fun _ => false) part = true) {v : Value} (h : VR w σ (avo A σ L) (.rw l off n sz co) v) : VR w σ (avo A σ (lset L l none)) (.ro part n none) v := by
  have hav : ∀ β, avOf σ (lset L l none) β → avOf σ L β := by
    rintro β ⟨k, d, a, s, hk, hs⟩
    rw [lget_lset] at hk
    split at hk
    · simp at hk
    · exact ⟨k, d, a, s, hk, hs⟩
  have h1 : ∀ β, ¬ avo A σ L β → ¬ avo A σ (lset L l none) β := fun β hn h => hn (h.imp id (hav β))
  cases h with
  | rwE a hc =>
    have : part = [] := by rw [← hp]; simp
    subst this
    exact .roE a 0 (by simp)
  | @rw _ _ _ _ _ β add size cap hs hn hc hsz =>
    rcases hb.all l cells hl with ⟨h3, h4⟩ | ⟨β', add', size', c, T, fr, hB⟩
    · rw [hs] at h3; simp at h3
    · have := hB.sig; rw [hs] at this; simp at this
      obtain ⟨rfl, rfl, rfl⟩ := this
      have hlen : part.length = n * sz := by rw [← hp]; simp; omega
      have hlt : β < w.heap.size := (Array.getElem?_eq_some_iff.1 hB.heap).1
      have hna : ¬ avo A σ (lset L l none) β := by
        rintro (hA | ⟨k, d, a, s, hk, hks⟩)
        · exact (hb.lo β hA).2 ⟨l, cells, add, size, hl, hs⟩
        · rw [lget_lset] at hk
          split at hk
          · simp at hk
          · rename_i hne; exact hne (hb.inj l k cells d β add size a s hl hk hs hks)
      have get : ∀ i x, part[i]? = some x → cells[off + i]? = some x := by
        intro i x hx
        rw [← hp, List.getElem?_take] at hx
        split at hx
        · rw [List.getElem?_drop] at hx; exact hx
        · simp at hx
      let f : Nat → Value := fun i => (c[add + off + i]?).getD undef
      refine .ro ((List.range (n * sz)).map f) ⟨hlt, hna, fun i v hv => ?_⟩ (by simp [hlen]) (fun i x v hx hv => ?_) hn (by simp)
      · have hi : i < n * sz := by have := (List.getElem?_eq_some_iff.1 hv).1; simpa using this
        have hi2 : i < part.length := by omega
        obtain ⟨u, h5, h6⟩ := hB.vals _ _ (get i _ (List.getElem?_eq_getElem hi2))
        rw [cell_of_heap hB.heap]
        rw [← Nat.add_assoc] at h5
        simp [List.getElem?_range hi, f, h5] at hv
        rw [h5, hv]
      · have hi : i < n * sz := by have := (List.getElem?_eq_some_iff.1 hv).1; simpa using this
        obtain ⟨u, h5, h6⟩ := hB.vals _ _ (get i x hx)
        rw [← Nat.add_assoc] at h5
        simp [List.getElem?_range hi, f, h5] at hv
        rw [← hv]
        exact h6.pure (withinL_get hpure hx) h1
theorem Weak.frz {E : Env} {K : Nat → Prop} {al : Al} {L : Lb} {lab : Nat} {cells : List PV} (hl : lget L lab = some (some cells)) {t off n sz : Nat} {co : Option Nat} (ht : lget al t = some (.rw lab off n sz co)) {part ys : List PV}
    (hp : (cells.drop off).take (n * sz) = part) (hin : off + n * sz ≤ cells.length) (hpu : withinL (fun _ => false) part = true) (hle : CLe part ys) : Weak E K al L ((t, .ro ys n none) :: al) (lset L lab none) := by
  intro A w σ a r
  obtain ⟨hb, hg⟩ := r.blocks.drop lab
  have r' := r.grow hb hg
  refine ⟨σ, ⟨fun u x hx => ?_, hb, r'.globals, r'.nodefer⟩, hg.weaken fun _ _ => trivial⟩
  rw [lget] at hx
  split at hx
  · rename_i e; subst e; simp at hx; subst hx
    obtain ⟨v, h1, h2⟩ := r.tmps t _ ht
    exact ⟨v, h1, PLe.ro hle _ _ _ _ (freeze_val r.blocks hl hp hin hpu h2)⟩
  · exact r'.tmps u x hx

def dFz {R : Type} : List (Nat × ET) → St → (St → Option R) → Option R
  | [], s, k => k s
  | (t, e) :: r, s, k => match lget s.al t with
    | some (.rw lab sz off n co w) => if pureAt s.L lab = true then srcL s.L e (.rw lab sz off n co w) fun l =>
        dFz r { al := (t, .sl e l) :: s.al, L := lset s.L lab .gone, ds := t :: s.ds, dl := (lab, none) :: s.dl } k else none
    | some _ => dFz r s k
    | none => none


section
variable {E : Env} {K : Nat → Prop} {n : Nat} {Q : Exit → Al → Lb → Prop} {ops : Array Oper} {rest : List Oper} {R : Type} {r : R}

theorem dFz_ok : ∀ {fz : List (Nat × ET)} {s : St} {k : St → Option R}, dFz fz s k = some r → s.ok → ∃ s', Up s s' ∧ s'.ok ∧ k s' = some r ∧ Weak E K (dal s.al) (dlb s.L) (dal s'.al) (dlb s'.L)
  | [], s, k, h, hs => ⟨s, .refl s, hs, h, .refl⟩
  | (t, e) :: fz, s, k, h, hs => by
    simp only [dFz] at h
    split at h
    · rename_i lab sz off n co w ht
      split at h
      · rename_i hp
        obtain ⟨l, cells, hc, h'⟩ := srcL_ok h
        clear h
        obtain ⟨cc, c1, c2, c3, c4, c5⟩ := hc.rw _ _ _ _ _ _ rfl
        subst c5; subst c3
        have hu : Up s { al := (t, .sl e l) :: s.al, L := lset s.L lab .gone, ds := t :: s.ds, dl := (lab, none) :: s.dl } := by
          have h1 := wr_up (s := s) (wl := [(lab, .gone)]) (dl := [(lab, none)]) (fun p hp => by simp at hp; subst hp; exact .inl (by simp))
          exact h1.trans (set_up _ (some t) (.sl e l))
        have ho : St.ok { al := (t, .sl e l) :: s.al, L := lset s.L lab .gone, ds := t :: s.ds, dl := (lab, none) :: s.dl } := by
          have h1 := wr_ok hs (wl := [(lab, .gone)]) (dl := [(lab, none)]) (fun p hp => by simp at hp; subst hp; trivial)
          exact set_ok h1 (d := some t) (x := .sl e l) trivial
        have hw : Weak E K (dal s.al) (dlb s.L) (dal ((t, .sl e l) :: s.al)) (dlb (lset s.L lab .gone)) := by
          have e1 : dlb (lset s.L lab .gone) = lset (dlb s.L) lab none := (lset_map DC.pv s.L lab .gone).symm
          rw [e1]
          refine Weak.frz c1 (off := off * e.sz) (sz := e.sz) (n := l.length) (co := co) (by rw [lget_dal, ht]; rfl) c4 c2 ?_ hc.le
          rw [← c4]
          unfold pureAt at hp
          split at hp
          · rename_i c hcc
            rw [lget_dlb, hcc] at c1
            exact part_pure (dcPure_ok hp (by simpa using c1)) _ _
          · simp at hp
        obtain ⟨s', u', o', k', w'⟩ := dFz_ok h' ho
        exact ⟨s', hu.trans u', o', k', hw.trans w'⟩
      · simp at h
    · exact dFz_ok h hs
    · simp at h

/-! ### regions -/

/-! ### freezing ahead of one operation -/
def dFzO : List (Nat × ET) → DAl → DLb → DLb → (DAl → DLb → DLb → Option R) → Option R
  | [], al, L, wl, k => k al L wl
  | (t, e) :: r, al, L, wl, k => match lget al t with
    | some (.rw lab sz off n co w) => if pureAt L lab = true then srcL L e (.rw lab sz off n co w) fun l => dFzO r ((t, .sl e l) :: al) (lset L lab .gone) (wl ++ [(lab, .gone)]) k else none
    | some _ => dFzO r al L wl k
    | none => none
def SubA (a b : Al) : Prop := ∀ t y, lget a t = some y → lget b t = some y
def SubB (a b : Lb) : Prop := ∀ l y, lget a l = some y → lget b l = some y
theorem dFzO_ok : ∀ {fz : List (Nat × ET)} {al : DAl} {L wl : DLb} {k : DAl → DLb → DLb → Option R}, dFzO fz al L wl k = some r → alOk al → lbOk L → ∃ al' L' w0, k al' L' (wl ++ w0) = some r ∧ alOk al' ∧ lbOk L' ∧ (∀ p ∈ w0, p.2 = .gone ∧ lget L p.1 ≠ none) ∧
    (∀ l, lget L' l ≠ none ↔ lget L l ≠ none) ∧ (∀ l cs, lget L' l = some (.cs cs) → lget L l = some (.cs cs)) ∧
    ∀ A w σ alw Lw a, Rel E A w σ alw Lw a → SubA (dal al) alw → SubB (dlb L) Lw → ∃ alw' σ', Rel E A w σ' alw' (lupd Lw (dlb w0)) a ∧ SubA (dal al') alw' ∧ SubB (dlb L') (lupd Lw (dlb w0)) ∧ Grow top w σ Lw w σ' (lupd Lw (dlb w0))
  | [], al, L, wl, k, h, ha, hl => ⟨al, L, [], by simpa [dFzO] using h, ha, hl, by simp, fun _ => Iff.rfl, fun _ _ h => h, fun A w σ alw Lw a r h1 h2 => ⟨alw, σ, r, h1, h2, Grow.refl _ _ _ _⟩⟩
  | (t, e) :: fz, al, L, wl, k, h, ha, hl => by
    simp only [dFzO] at h
    split at h
    · rename_i lab sz off n co w ht
      split at h
      · rename_i hp
        obtain ⟨l, cells, hc, h'⟩ := srcL_ok h
        obtain ⟨cc, c1, c2, c3, c4, c5⟩ := hc.rw _ _ _ _ _ _ rfl
        subst c5; subst c3
        have hex : lget L lab ≠ none := fun e => by rw [lget_dlb, e] at c1; simp at c1
        obtain ⟨al', L', w0, k1, k2, k3, k4, k5, k6, k7⟩ := dFzO_ok h' (fun u x hx => by
          simp only [lget] at hx
          split at hx
          · simp at hx; subst hx; trivial
          · exact ha u x hx) (fun u c hc => by
          rw [lget_lset] at hc
          split at hc
          · simp at hc; subst hc; trivial
          · exact hl u c hc)
        refine ⟨al', L', (lab, .gone) :: w0, by simpa using k1, k2, k3, fun p hp => ?_, fun l' => ?_, fun l' cs hcs => ?_, fun A w σ alw Lw a r h1 h2 => ?_⟩
        · rcases List.mem_cons.1 hp with rfl | hp
          · exact ⟨rfl, hex⟩
          · obtain ⟨e1, e2⟩ := k4 p hp
            refine ⟨e1, ?_⟩
            rw [lget_lset] at e2
            split at e2
            · rename_i e; rw [← e]; exact hex
            · exact e2
        · rw [k5 l', lget_lset]
          split
          · rename_i e; subst e; simp [hex]
          · rfl
        · have := k6 l' cs hcs
          rw [lget_lset] at this
          split at this
          · simp at this
          · exact this
        · have hw := Weak.frz (E := E) (K := top) (al := alw) (L := Lw) (h2 _ _ c1) (off := off * e.sz) (sz := e.sz) (n := l.length) (co := co) (h1 _ _ (by rw [lget_dal, ht]; rfl)) c4 c2 (by
            rw [← c4]
            unfold pureAt at hp
            split at hp
            · rename_i c hcc
              rw [lget_dlb, hcc] at c1
              exact part_pure (dcPure_ok hp (by simpa using c1)) _ _
            · simp at hp) hc.le
          obtain ⟨σ1, r1, g1⟩ := hw A w σ a r
          obtain ⟨alw', σ2, r2, s1, s2, g2⟩ := k7 A w σ1 _ _ a r1 (fun u y hy => by
            rw [lget_dal] at hy
            simp only [lget] at hy ⊢
            split
            · rename_i e; rw [if_pos e] at hy; simp at hy; rw [← hy]; rfl
            · rename_i e; rw [if_neg e] at hy; exact h1 u y (by rw [lget_dal]; exact hy)) (fun u y hy => by
            rw [lget_dlb, lget_lset] at hy
            rw [lget_lset]
            split
            · rename_i e; rw [if_pos e] at hy; simpa [DC.pv] using hy
            · rename_i e; rw [if_neg e] at hy; exact h2 u y (by rw [lget_dlb]; exact hy))
          exact ⟨alw', σ2, r2, s1, s2, g1.trans g2⟩
      · simp at h
    · exact dFzO_ok h ha hl
    · simp at h

def dOpF (E : Env) (G : GTab) (C : CT E) (oh : OH) (o : Oper) (al : DAl) (L : DLb) (nl : Nat) (k : DV → DLb → DL → Option R) : Option R := match oh.fz with
  | [] => dOpX E G C oh o al L nl k
  | fz => dFzO fz al L [] fun al' L' w0 => dOpX E G C oh o al' L' nl fun x wl dl => k x (w0 ++ wl) (w0.map (fun p => (p.1, none)) ++ dl)
theorem dOpF_ok {G : GTab} (hG : E.G = gtPV G) (hE : GOK E) {C : CT E} {oh : OH} {o : Oper} {nl : Nat} {ra : DAl} {rl : DLb} {k : DV → DLb → DL → Option R} (hal : alOk ra) (hrl : lbOk rl) (hn : lget rl nl = none) (h : dOpF E G C oh o ra rl nl k = some r) : OpS E o ra rl k r := by
  unfold dOpF at h
  split at h
  · exact dOpX_ok hG hE hal hrl hn h
  · obtain ⟨al', L', w0, k1, k2, k3, k4, k5, k6, k7⟩ := dFzO_ok (E := E) h hal hrl
    have hn' : lget L' nl = none := by
      cases hc : lget L' nl with
      | none => rfl
      | some c => exact absurd hn ((k5 nl).1 (by rw [hc]; simp))
    obtain ⟨x, wl, dl, hA, hx, hwl, hd, hk⟩ := dOpX_ok hG hE k2 k3 hn' k1
    refine ⟨x, w0 ++ wl, w0.map (fun p => (p.1, none)) ++ dl, ?_, hx, fun p hp => ?_, fun p hp => ?_, by simpa using hk⟩
    · intro A w σ alw Lw a r h1 h2 h3
      obtain ⟨alw', σ1, r1, s1, s2, g1⟩ := k7 A w σ alw Lw a r h1 h2
      have e1 : dlb (w0 ++ wl) = dlb w0 ++ dlb wl := List.map_append
      refine Oper_wp_mono (hA A w σ1 alw' _ a r1 s1 s2 fun p hp => ?_) ?_ fun _ _ _ h => h
      · rcases h3 p (by rw [e1]; exact List.mem_append_right _ hp) with h4 | h4
        · left
          rw [lget_dlb] at h4 ⊢
          have : lget rl p.1 ≠ none := fun e => by rw [e] at h4; simp at h4
          have := (k5 p.1).2 this
          cases hc : lget L' p.1 with
          | none => exact absurd hc this
          | some c => simp
        · right
          rcases lget_lupdG (dlb w0) Lw p.1 with ⟨q, hq, e2, _⟩ | ⟨_, e2⟩
          · exfalso
            obtain ⟨q', hq', rfl⟩ := List.mem_map.1 hq
            have e3 := (k4 q' hq').2
            cases hc : lget rl q'.1 with
            | none => exact e3 hc
            | some c =>
              have := h2 q'.1 c.pv (by rw [lget_dlb, hc]; rfl)
              simp only at e2
              rw [e2, h4] at this; simp at this
          · rw [e2]; exact h4
      · rintro a' w' ⟨σ', c, f1, f2, f3, f4⟩
        have e2 : lupd Lw (dlb (w0 ++ wl)) = lupd (lupd Lw (dlb w0)) (dlb wl) := by rw [e1]; unfold lupd; rw [List.foldl_append]
        rw [← e2] at f2 f3 f4
        exact ⟨σ', c, f1, f2, f3, g1.trans f4⟩
    · rcases List.mem_append.1 hp with hp | hp
      · rw [(k4 p hp).1]; trivial
      · exact hwl p hp
    · rcases List.mem_append.1 hp with hp | hp
      · left; exact List.mem_append_left _ (List.mem_map.2 ⟨p, hp, rfl⟩)
      · rcases hd p hp with h1 | ⟨cs, cs', e1, e2, e3, e4⟩
        · exact .inl (List.mem_append_right _ h1)
        · exact .inr ⟨cs, cs', k6 _ _ e1, e2, e3, fun i hi => e4 i fun hm => hi (List.mem_append_right _ hm)⟩

def dwants (ops : Array Oper) (al : DAl) (o : Oper) : Option Bool :=
  match o.guard with
  | none => some true
  | some (j, want) => match (ops[j]?).bind (·.dst) with
    | some d => match lget al d with
      | some (.bool b) => some (b == want)
      | some .dead => some false
      | _ => none
    | none => none
theorem dwants_ok {al : DAl} {o : Oper} {b : Bool} (h : dwants ops al o = some b) : wants ops (dal al) o = some b := by
  unfold dwants at h
  unfold wants
  split at h
  · rename_i hg; rw [hg]; exact h
  · rename_i j want hg
    rw [hg]
    simp only
    split at h
    · rename_i d hd
      simp only [hd, lget_dal]
      split at h
      · rename_i c hc; rw [hc]; exact h
      · rename_i hc; rw [hc]; exact h
      · simp at h
    · simp at h
def splitK (sp : Bool) (x : DV) (k : DV → Option R) : Option R := match sp with
  | true => match x with
    | .bool b => cond b (k (.bool true)) (k (.bool false))
    | x => k x
  | false => k x
theorem splitK_ok {sp : Bool} {x : DV} {k : DV → Option R} (h : splitK sp x k = some r) : k x = some r := by
  unfold splitK at h
  split at h
  · split at h
    · rename_i b; cases b <;> exact h
    · exact h
  · exact h

/-! ### is a slice nil? -/
theorem run_nil_slice {P : Program} {w : World} {T e : TypeId} (hu : P.underlying T = some (.slice e)) (D : Nat) (p : Option Addr) (n c : Nat) : (Op.equalIn (D + 1) T (.slice p n c) (.slice none 0 0)).run P w = .ok p.isNone w := by
  cases p <;> simp [Op.equalIn, run_underlying hu]
theorem AWl_nilq {al : Al} {L : Lb} {d : Option Tmp} {T yt e ty : TypeId} {pos : String} {after : Array Edge} {g : Option (Nat × Bool)} {x y : Operand} {cells : List PV} {m : Nat} {co : Option Nat} (hu : E.P.underlying T = some (.slice e)) (hx : xev E.G al x = some (.ro cells m co)) (hy : xev E.G al y = some .nils)
    (hd : ∀ t, d = some t → t < n) (hg : wants ops al ⟨d, .binOp .eql T x y yt, ty, pos, after, g⟩ = some true) (k : ∀ b : Bool, (b = true → m = 0) → AWl E K n ops rest Q (oset d (.bool b) al) L) :
    AWl E K n ops (⟨d, .binOp .eql T x y yt, ty, pos, after, g⟩ :: rest) Q al L := by
  intro A w σ a r t
  have hvx := xev_ok r (fun _ _ h => h) hx
  have hvy := xev_ok r (fun _ _ h => h) hy
  obtain ⟨b, hb, hrun⟩ : ∃ b : Bool, (b = true → m = 0) ∧ (execOp a.eval ⟨d, .binOp .eql T x y yt, ty, pos, after, g⟩).run E.P w = .ok (.value (.bool b)) w := by
    generalize hv : a.eval x = v at *
    generalize hv' : a.eval y = v' at *
    cases hvy
    cases hvx with
    | roE p cap hc =>
      refine ⟨p.isNone, fun _ => rfl, ?_⟩
      have he : (Op.equal T (.slice p 0 cap) (.slice none 0 0)).run E.P w = .ok p.isNone w := run_nil_slice hu 9999 p 0 cap
      have h1 := run_eq_of (P := E.P) (w := w) (op := .eql) (.inl rfl) (T := T) (u := .slice p 0 cap) (v := .slice none 0 0) rfl he
      have h2 := run_guard_free (P := E.P) (w := w) (op := .eql) (T := T) (x := x) (y := y) (u := .slice p 0 cap) (v := .slice none 0 0) rfl
      simp at h1
      simp [execOp, hv, hv', h1, h2]
    | @ro _ _ _ β add cap cs him hl hv2 hn hc =>
      refine ⟨false, fun h => by simp at h, ?_⟩
      have he : (Op.equal T (.slice (some ⟨β, add, none⟩) m cap) (.slice none 0 0)).run E.P w = .ok false w := run_nil_slice hu 9999 _ m cap
      have h1 := run_eq_of (P := E.P) (w := w) (op := .eql) (.inl rfl) (T := T) (u := .slice (some ⟨β, add, none⟩) m cap) (v := .slice none 0 0) rfl he
      have h2 := run_guard_free (P := E.P) (w := w) (op := .eql) (T := T) (x := x) (y := y) (u := .slice (some ⟨β, add, none⟩) m cap) (v := .slice none 0 0) rfl
      simp at h1
      simp [execOp, hv, hv', h1, h2]
  have hop : Oper.wp E.P ⟨d, .binOp .eql T x y yt, ty, pos, after, g⟩ a w (OpPost A w σ L a d (.bool b) []) (fun _ _ _ => False) := by
    unfold Oper.wp
    rw [hrun]
    exact ⟨σ, .bool b, rfl, .bool b, r.blocks, Grow.refl _ _ _ _⟩
  simp only [wpListIn]
  rw [if_pos (wants_ok r hg)]
  refine Oper_wpIn_mono (Oper_wpIn (not_defer hop ?_) hop) ?_ fun _ _ _ h => h.elim
  · rintro a' w' ⟨σ', c, rfl, _⟩; exact put_defers _ _ _
  rintro a' w' ⟨σ', c, rfl, hv, hb', hgr⟩
  have r' := (r.grow hb' hgr).put (d := d) (fun u hu => by rw [t]; exact hd u hu) hv
  refine wpListIn_mono ?_ _ _ _ (k b hb A w' σ' _ r' (by rw [size_put]; exact t))
  exact fun e a w h => Post.trans (hgr.weaken fun _ _ => trivial) h
/-- Both ways lead to the same. -/
noncomputable def agree (a b : Option R) : Option R := open Classical in if a = b then a else none
@[simp] theorem agree_self (a : Option R) : agree a a = a := by simp [agree]
theorem agree_ok {a b : Option R} (h : agree a b = some r) : a = some r ∧ b = some r := by
  unfold agree at h
  split at h
  · rename_i e; exact ⟨h, e ▸ h⟩
  · simp at h
def dNilq (P : Program) (G : GTab) (al : DAl) (o : Oper) : Option Bool := match o.op with
  | .binOp .eql T x y _ => match P.underlying T with
    | some (.slice _) => match dev G al x with
      | some (.sl _ l) => match dev G al y with
        | some .nils => some l.isEmpty
        | _ => none
      | _ => none
    | _ => none
  | _ => none

abbrev OHs := List (Nat × OH)
def ohOf (hs : OHs) (i : Nat) : OH := match lget hs i with
  | some h => h
  | none => {}

noncomputable def dOps (E : Env) (G : GTab) (C : CT E) (n : Nat) (hs : OHs) (ops : Array Oper) {R : Type} : List Oper → Nat → St → (St → Option R) → Option R
  | [], _, s, k => k s
  | o :: rest, i, s, k => match dwants ops s.al o with
    | some true => match (ohOf hs i).nq with
     | true => match dNilq E.P G s.al o with
      | some e => if dstOK n o.dst = true then cond e (agree (dOps E G C n hs ops rest (i + 1) (s.set o.dst (.bool true)) k) (dOps E G C n hs ops rest (i + 1) (s.set o.dst (.bool false)) k)) (dOps E G C n hs ops rest (i + 1) (s.set o.dst (.bool false)) k) else none
      | none => none
     | false => dFz (ohOf hs i).fz s fun s => match dwants ops s.al o with
      | some true => if dstOK n o.dst = true then dOpX E G C (ohOf hs i) o s.al s.L (frOf s.L) fun x wl dl => splitK (ohOf hs i).split x fun x => dOps E G C n hs ops rest (i + 1) ((s.wr wl dl).set o.dst x) k else none
      | _ => none
    | some false => if dstOK n o.dst = true then dOps E G C n hs ops rest (i + 1) (s.set o.dst .dead) k else none
    | none => none

theorem dOps_ok {G : GTab} {C : CT E} {hs : OHs} (hG : E.G = gtPV G) (hE : GOK E) : ∀ {rest : List Oper} {i : Nat} {s : St} {k : St → Option R}, dOps E G C n hs ops rest i s k = some r → s.ok →
    (∀ s', Up s s' → s'.ok → k s' = some r → Q .normal (dal s'.al) (dlb s'.L)) → AWl E K n ops rest Q (dal s.al) (dlb s.L)
  | [], i, s, k, h, ho, hq => AWl_nil (hq s (.refl s) ho h)
  | o :: rest, i, s, k, h, ho, hq => by
    simp only [dOps] at h
    split at h
    · rename_i hw
      split at h
      · split at h
        rotate_left
        · simp at h
        rename_i e he
        split at h
        rotate_left
        · simp at h
        rename_i hdst
        have go : ∀ b, dOps E G C n hs ops rest (i + 1) (s.set o.dst (.bool b)) k = some r → AWl E K n ops rest Q (oset o.dst (.bool b) (dal s.al)) (dlb s.L) := by
          intro b hb
          have ih := dOps_ok hG hE hb (set_ok ho (d := o.dst) (x := .bool b) trivial) fun s' u' o' k' => hq s' ((set_up _ _ _).trans u') o' k'
          rw [dal_set, dlb_set] at ih
          exact ih
        obtain ⟨dst, op, ty, pos, after, g⟩ := o
        unfold dNilq at he
        simp only at he
        split at he
        · rename_i T x y yt
          split at he
          · rename_i eT hu
            split at he
            · rename_i tt l hx
              split at he
              · rename_i hy
                simp at he; subst he
                have hx' := (dev_ok ho.1 hx).1
                have hy' := (dev_ok ho.1 hy).1
                rw [← hG] at hx' hy'
                refine AWl_nilq hu hx' hy' (dstOK_ok hdst) (dwants_ok hw) fun b hb => ?_
                cases hl : l.isEmpty with
                | true =>
                  rw [hl] at h
                  obtain ⟨h1, h2⟩ := agree_ok h
                  cases b with
                  | true => exact go true h1
                  | false => exact go false h2
                | false =>
                  rw [hl] at h
                  cases b with
                  | true =>
                    have : l.length = 0 := hb rfl
                    have : l = [] := List.eq_nil_of_length_eq_zero this
                    subst this; simp at hl
                  | false => exact go false h
              · simp at he
            · simp at he
          · simp at he
        · simp at he
      obtain ⟨s1, u1, o1, h, w1⟩ := dFz_ok (E := E) (K := K) h ho
      split at h
      rotate_left
      · simp at h
      rename_i hw1
      have hw1 := dwants_ok hw1
      split at h
      rotate_left
      · simp at h
      rename_i hdst
      obtain ⟨x, wl, dl, hA, hx, hwl, hd, h⟩ := dOpX_ok hG hE o1.1 o1.2 (frOf_ok (Nat.le_refl _)) h
      have h := splitK_ok h
      have u2 : Up s1 ((s1.wr wl dl).set o.dst x) := (wr_up hd).trans (set_up _ _ _)
      have o2 : ((s1.wr wl dl).set o.dst x).ok := set_ok (wr_ok o1 hwl) hx
      have ih := dOps_ok hG hE h o2 fun s' u' o' k' => hq s' (u1.trans (u2.trans u')) o' k'
      rw [dal_set, dlb_set] at ih
      refine AWl_weak w1 (AWl_op hA (dstOK_ok hdst) (fun _ _ h => h) (fun _ _ h => h) (fun p _ => ?_) hw1 ?_)
      · cases h : lget (dlb s1.L) p.1 with
        | none => exact .inr rfl
        | some y => exact .inl (by simp)
      · rw [lupd_dlb]; exact ih
    · rename_i hw
      split at h
      · rename_i hdst
        have ih := dOps_ok hG hE h (set_ok ho (d := o.dst) (x := .dead) trivial) fun s' u' o' k' => hq s' ((set_up _ _ _).trans u') o' k'
        rw [dal_set, dlb_set] at ih
        exact AWl_skip (dwants_ok hw) (dstOK_ok hdst) ih
      · simp at h
    · simp at h
end
end Go.SH
namespace Go.SH

theorem within_labs (S : Nat → Bool) (x : PV) : (∀ k ∈ labs x, S k = true) → within S x = true := by
  apply PV.rec (motive_1 := fun x => (∀ k ∈ labs x, S k = true) → within S x = true) (motive_2 := fun xs => (∀ k ∈ labsL xs, S k = true) → withinL S xs = true)
  all_goals intros
  all_goals simp_all [within, withinL, labs, labsL]
  all_goals (rename_i h1 h2 h3; exact ⟨h1 fun k hk => h3 k (.inl hk), h2 fun k hk => h3 k (.inr hk)⟩)
theorem withinL_labs (S : Nat → Bool) : ∀ (xs : List PV), (∀ k ∈ labsL xs, S k = true) → withinL S xs = true
  | [], _ => rfl
  | x :: xs, h => by
    simp only [labsL, List.mem_append] at h
    simp only [withinL, Bool.and_eq_true]
    exact ⟨within_labs S x fun k hk => h k (.inl hk), withinL_labs S xs fun k hk => h k (.inr hk)⟩

/-- Blocks as a tree tells them. -/
def AllM (m : Tr) (rl : Lb) : Prop := ∀ p ∈ rl, ∃ cs, p.2 = some cs ∧ tget m p.1 = some cs
theorem AllM.get {m : Tr} {rl : Lb} (h : AllM m rl) {l : Nat} {y : Option (List PV)} (hl : lget rl l = some y) : ∃ cs, y = some cs ∧ tget m l = some cs := h _ (mem_of_lget hl)
theorem AllM.sub {m : Tr} {rl L : Lb} (h : AllM m rl) (hm : MR m L) {l : Nat} {y : Option (List PV)} (hl : lget rl l = some y) : lget L l = some y := by
  obtain ⟨cs, rfl, h2⟩ := h.get hl
  exact hm l cs h2
theorem hasL_mem {rl : Lb} {l : Nat} : hasL rl l = true ↔ ∃ p ∈ rl, p.1 = l := by
  constructor
  · intro h
    simp only [hasL, Option.isSome_iff_ne_none] at h
    exact key_mem h
  · rintro ⟨p, hp, rfl⟩
    induction rl with
    | nil => simp at hp
    | cons q r ih =>
      obtain ⟨k, y⟩ := q
      simp only [hasL, lget]
      by_cases hk : k = p.1
      · simp [hk]
      · rw [if_neg hk]
        rcases List.mem_cons.1 hp with rfl | hp
        · exact absurd rfl hk
        · exact ih hp

theorem reach_ok (m : Tr) : ∀ (f : Nat) (todo : List Nat) (acc r : Lb), reach m f todo acc = some r → AllM m acc → (∀ p ∈ acc, ∀ cs, p.2 = some cs → ∀ k ∈ labsL cs, hasL acc k = true ∨ k ∈ todo) →
    AllM m r ∧ (∀ l, hasL acc l = true → hasL r l = true) ∧ (∀ l ∈ todo, hasL r l = true) ∧ ∀ p ∈ r, ∀ cs, p.2 = some cs → ∀ k ∈ labsL cs, hasL r k = true
  | 0, _, _, _, h, _, _ => by simp [reach] at h
  | f + 1, [], acc, r, h, ha, hc => by
    simp [reach] at h; subst h
    exact ⟨ha, fun l h => h, by simp, fun p hp cs hcs k hk => (hc p hp cs hcs k hk).resolve_right (by simp)⟩
  | f + 1, l :: todo, acc, r, h, ha, hc => by
    unfold reach at h
    cases hl : hasL acc l with
    | true =>
      rw [hl, cond_true] at h
      obtain ⟨h1, h2, h3, h4⟩ := reach_ok m f todo acc r h ha fun p hp cs hcs k hk => by
        rcases hc p hp cs hcs k hk with h | h
        · exact .inl h
        · rcases List.mem_cons.1 h with rfl | h
          · exact .inl hl
          · exact .inr h
      exact ⟨h1, h2, fun k hk => by
        rcases List.mem_cons.1 hk with rfl | hk
        · exact h2 _ hl
        · exact h3 k hk, h4⟩
    | false =>
      rw [hl, cond_false] at h
      split at h
      · rename_i cs hcs
        obtain ⟨h1, h2, h3, h4⟩ := reach_ok m f (labsL cs ++ todo) ((l, some cs) :: acc) r h
          (fun p hp => by
            rcases List.mem_cons.1 hp with rfl | hp
            · exact ⟨cs, rfl, hcs⟩
            · exact ha p hp)
          (fun p hp cs' hcs' k hk => by
            rcases List.mem_cons.1 hp with rfl | hp
            · simp at hcs'; subst hcs'
              exact .inr (List.mem_append.2 (.inl hk))
            · rcases hc p hp cs' hcs' k hk with h | h
              · left
                obtain ⟨q, hq, hq2⟩ := hasL_mem.1 h
                exact hasL_mem.2 ⟨q, List.mem_cons_of_mem _ hq, hq2⟩
              · rcases List.mem_cons.1 h with rfl | h
                · exact .inl (hasL_mem.2 ⟨(k, some cs), List.mem_cons_self, rfl⟩)
                · exact .inr (List.mem_append.2 (.inr h)))
        refine ⟨h1, fun k hk => ?_, fun k hk => ?_, h4⟩
        · obtain ⟨q, hq, hq2⟩ := hasL_mem.1 hk
          exact h2 k (hasL_mem.2 ⟨q, List.mem_cons_of_mem _ hq, hq2⟩)
        · rcases List.mem_cons.1 hk with rfl | hk
          · exact h2 _ (hasL_mem.2 ⟨(k, some cs), List.mem_cons_self, rfl⟩)
          · exact h3 k (List.mem_append.2 (.inr hk))
      · simp at h

theorem tget_tupd : ∀ (wl : Lb) (m : Tr) (l : Nat), (∀ p ∈ wl, p.1 < maxL) → (∃ p ∈ wl, p.1 = l ∧ tget (tupd m wl) l = p.2) ∨ ((∀ p ∈ wl, p.1 ≠ l) ∧ tget (tupd m wl) l = tget m l)
  | [], m, l, _ => .inr ⟨by simp, rfl⟩
  | (k, y) :: r, m, l, h => by
    have hk := h (k, y) (by simp)
    rcases tget_tupd r (tput m k y) l (fun p hp => h p (by simp [hp])) with ⟨p, hp, h1, h2⟩ | ⟨h1, h2⟩
    · exact .inl ⟨p, by simp [hp], h1, h2⟩
    · by_cases e : l = k
      · subst e
        refine .inl ⟨(l, y), by simp, rfl, ?_⟩
        show tget (tupd (tput m l y) r) l = y
        rw [h2, tget_tput hk, if_pos rfl]
      · refine .inr ⟨fun p hp => ?_, ?_⟩
        · rcases List.mem_cons.1 hp with rfl | hp
          · exact fun h => e h.symm
          · exact h1 p hp
        · show tget (tupd (tput m k y) r) l = _
          rw [h2, tget_tput hk, if_neg e]

theorem lget_lupdM : ∀ (wl L : Lb) (l : Nat), (∃ p ∈ wl, p.1 = l ∧ lget (lupd L wl) l = some p.2) ∨ ((∀ p ∈ wl, p.1 ≠ l) ∧ lget (lupd L wl) l = lget L l)
  | [], L, l => .inr ⟨by simp, rfl⟩
  | (k, y) :: r, L, l => by
    rcases lget_lupdM r (lset L k y) l with ⟨p, hp, h1, h2⟩ | ⟨h1, h2⟩
    · exact .inl ⟨p, by simp [hp], h1, h2⟩
    · by_cases e : k = l
      · subst e
        refine .inl ⟨(k, y), by simp, rfl, ?_⟩
        show lget (lupd (lset L k y) r) k = _
        rw [h2, lget_lset, if_pos rfl]
      · refine .inr ⟨fun p hp => ?_, ?_⟩
        · rcases List.mem_cons.1 hp with rfl | hp
          · exact e
          · exact h1 p hp
        · show lget (lupd (lset L k y) r) l = _
          rw [h2, lget_lset, if_neg e]

theorem tree_ok {m : Tr} {rl : Lb} (h : AllM m rl) (hb : ∀ p ∈ rl, p.1 < maxL) (l : Nat) : tget (tree rl) l = if hasL rl l = true then tget m l else none := by
  rcases tget_tupd rl .nil l hb with ⟨p, hp, h1, h2⟩ | ⟨h1, h2⟩
  · obtain ⟨cs, e1, e2⟩ := h p hp
    rw [if_pos (hasL_mem.2 ⟨p, hp, h1⟩)]
    show tget (tupd .nil rl) l = _
    rw [h2, e1, ← h1, e2]
  · rw [if_neg (fun hh => by obtain ⟨p, hp, e⟩ := hasL_mem.1 hh; exact h1 p hp e)]
    show tget (tupd .nil rl) l = _
    rw [h2]; rfl
theorem tree_MR {m : Tr} {rl : Lb} (h : AllM m rl) (hb : ∀ p ∈ rl, p.1 < maxL) : MR (tree rl) rl := by
  intro l cells hl
  rw [tree_ok h hb] at hl
  split at hl
  · rename_i hh
    simp only [hasL, Option.isSome_iff_exists] at hh
    obtain ⟨y, hy⟩ := hh
    obtain ⟨cs, rfl, h2⟩ := h.get hy
    rw [h2] at hl; simp at hl; subst hl; exact hy
  · simp at hl

/-- Which way a list of blocks that a tree tells is laid over others does not matter. -/
theorem over_eq {m : Tr} {LL : Lb} (h : AllM m LL) (L : Lb) (l : Nat) : lget (LL ++ L) l = if hasL LL l = true then some (tget m l) else lget L l := by
  rw [lget_append]
  cases hy : lget LL l with
  | some y =>
    obtain ⟨cs, rfl, h2⟩ := h.get hy
    rw [if_pos (by simp [hasL, hy]), h2]
  | none => rw [if_neg (by simp [hasL, hy])]
theorem upd_eq {m : Tr} {LL : Lb} (h : AllM m LL) (L : Lb) (l : Nat) : lget (lupd L LL) l = if hasL LL l = true then some (tget m l) else lget L l := by
  rcases lget_lupdM LL L l with ⟨p, hp, h1, h2⟩ | ⟨h1, h2⟩
  · obtain ⟨cs, e1, e2⟩ := h p hp
    rw [if_pos (hasL_mem.2 ⟨p, hp, h1⟩), h2, e1, ← h1, e2]
  · rw [if_neg (fun hh => by obtain ⟨p, hp, e⟩ := hasL_mem.1 hh; exact h1 p hp e), h2]

/-! ### what comes ahead of what -/
theorem bitB_ok (m i : Nat) : bitB m i = m.testBit i := by
  unfold bitB
  rw [beq_dec, Nat.testBit_eq_decide_div_mod_eq]
  congr 1
  show ((m >>> i) % 2 = 1) = _
  rw [Nat.shiftRight_eq_div_pow]

theorem maskOf_bit (acc : List Nat) : ∀ (es : List Nat) (i : Nat), (maskOf acc es).testBit i = true → i ∈ es ∨ ∃ k ∈ es, (acc.getD k 0).testBit i = true
  | [], i, h => by simp [maskOf] at h
  | k :: r, i, h => by
    have e : maskOf acc (k :: r) = ((1 <<< k) ||| (acc.getD k 0)) ||| maskOf acc r := rfl
    rw [e, Nat.testBit_or, Nat.testBit_or, Bool.or_eq_true, Bool.or_eq_true] at h
    rcases h with (h | h) | h
    · left
      rw [Nat.one_shiftLeft, Nat.testBit_two_pow] at h
      simp at h
      subst h; simp
    · exact .inr ⟨k, by simp, h⟩
    · rcases maskOf_bit acc r i h with h | ⟨q, hq, h⟩
      · exact .inl (by simp [h])
      · exact .inr ⟨q, by simp [hq], h⟩

theorem masks_len : ∀ (os : List Oper) (acc : List Nat), (masks os acc).length = acc.length + os.length
  | [], acc => by simp [masks]
  | o :: r, acc => by rw [masks, masks_len r]; simp; omega
theorem masks_old : ∀ (os : List Oper) (acc : List Nat) (j : Nat), j < acc.length → (masks os acc)[j]? = acc[j]?
  | [], acc, j, _ => rfl
  | o :: r, acc, j, h => by
    rw [masks, masks_old r _ j (by simp; omega), List.getElem?_append_left h]
theorem masks_at : ∀ (os : List Oper) (acc : List Nat) (j : Nat) (o : Oper), os[j]? = some o → ∃ acc', acc'.length = acc.length + j ∧ (∀ i, i < acc'.length → acc'[i]? = (masks os acc)[i]?) ∧ (masks os acc)[acc.length + j]? = some (maskOf acc' (edgesOf o))
  | [], acc, j, o, h => by simp at h
  | o' :: r, acc, 0, o, h => by
    simp at h; subst h
    refine ⟨acc, by simp, fun i hi => by rw [masks, masks_old r _ i (by simp; omega), List.getElem?_append_left hi], ?_⟩
    rw [masks, masks_old r _ _ (by simp), List.getElem?_append_right (by omega)]; simp
  | o' :: r, acc, j + 1, o, h => by
    simp at h
    obtain ⟨acc', h1, h2, h3⟩ := masks_at r (acc ++ [maskOf acc (edgesOf o')]) j o h
    refine ⟨acc', by rw [h1]; simp; omega, fun i hi => by rw [h2 i hi]; rfl, ?_⟩
    have e : acc.length + (j + 1) = (acc ++ [maskOf acc (edgesOf o')]).length + j := by simp; omega
    rw [e]; exact h3

theorem masks_befs {ops : Array Oper} : ∀ (m j i : Nat), j < m → j < ops.size → ((masks ops.toList []).getD j 0).testBit i = true → i ∈ befs ops m j
  | 0, j, i, h, _, _ => by omega
  | m + 1, j, i, h, hj, hb => by
    have ho : ops.toList[j]? = some ops[j] := by simp [hj]
    obtain ⟨acc', h1, h2, h3⟩ := masks_at ops.toList [] j _ ho
    simp only [List.length_nil, Nat.zero_add] at h1 h3
    rw [List.getD_eq_getElem?_getD, h3, Option.getD_some] at hb
    unfold befs
    have ho2 : ops[j]? = some ops[j] := by simp [hj]
    rw [ho2]
    simp only [List.mem_append, List.mem_flatMap]
    rcases maskOf_bit acc' _ i hb with h' | ⟨k, hk, hb'⟩
    · exact .inl h'
    · right
      have hkl : k < acc'.length := by
        rcases Nat.lt_or_ge k acc'.length with h | h
        · exact h
        · rw [List.getD_eq_getElem?_getD, List.getElem?_eq_none h] at hb'; simp at hb'
      refine ⟨k, hk, masks_befs m k i (by omega) (by omega) ?_⟩
      rw [List.getD_eq_getElem?_getD, ← h2 k hkl, ← List.getD_eq_getElem?_getD]; exact hb'

theorem hasN_ok {l : List Nat} {x : Nat} : hasN l x = true ↔ x ∈ l := by
  unfold hasN
  rw [List.any_eq_true]
  constructor
  · rintro ⟨y, hy, h⟩; rw [Nat.beq_eq] at h; subst h; exact hy
  · intro h; exact ⟨x, h, by rw [Nat.beq_eq]⟩
theorem meetN_no {a b : List Nat} (h : meetN a b = false) {x : Nat} (ha : x ∈ a) (hb : x ∈ b) : False := by
  have : meetN a b = true := by unfold meetN; rw [List.any_eq_true]; exact ⟨x, ha, hasN_ok.2 hb⟩
  rw [h] at this; simp at this

theorem pairsS_ok (mk : List Nat) (j : Nat) (rj wj : List Nat) : ∀ (xs : List (List Nat × List Nat)) (s i : Nat) (ri wi : List Nat), pairsS mk j rj wj xs s = true → xs[i]? = some (ri, wi) →
    bitB (mk.getD j 0) (s + i) = true ∨ (meetN wi (rj ++ wj) = false ∧ meetN wj ri = false)
  | [], s, i, ri, wi, _, h => by simp at h
  | (ri', wi') :: r, s, 0, ri, wi, hp, h => by
    simp at h; obtain ⟨rfl, rfl⟩ := h
    simp only [pairsS, Bool.and_eq_true, Bool.or_eq_true, Bool.not_eq_true', Bool.or_eq_false_iff] at hp
    exact hp.1
  | (ri', wi') :: r, s, i + 1, ri, wi, hp, h => by
    simp only [pairsS, Bool.and_eq_true] at hp
    have := pairsS_ok mk j rj wj r (s + 1) i ri wi hp.2 (by simpa using h)
    rwa [show s + 1 + i = s + (i + 1) by omega] at this
theorem allS_ok (mk : List Nat) : ∀ (xs pre : List (List Nat × List Nat)) (s i j : Nat) (ri wi rj wj : List Nat), allS mk pre xs s = true → pre.length = s → i < s + j → (pre ++ xs)[i]? = some (ri, wi) → xs[j]? = some (rj, wj) →
    bitB (mk.getD (s + j) 0) i = true ∨ (meetN wi (rj ++ wj) = false ∧ meetN wj ri = false)
  | [], pre, s, i, j, ri, wi, rj, wj, _, _, _, _, h => by simp at h
  | (rj', wj') :: r, pre, s, i, 0, ri, wi, rj, wj, ha, hl, hi, h1, h2 => by
    simp at h2; obtain ⟨rfl, rfl⟩ := h2
    simp only [allS, Bool.and_eq_true] at ha
    rw [List.getElem?_append_left (by omega)] at h1
    have := pairsS_ok mk s rj' wj' pre 0 i ri wi ha.1 h1
    simpa using this
  | (rj', wj') :: r, pre, s, i, j + 1, ri, wi, rj, wj, ha, hl, hi, h1, h2 => by
    simp only [allS, Bool.and_eq_true] at ha
    have := allS_ok mk r (pre ++ [(rj', wj')]) (s + 1) i j ri wi rj wj ha.2 (by simp; omega) (by omega) (by rw [List.append_assoc]; exact h1) (by simpa using h2)
    rwa [show s + 1 + j = s + (j + 1) by omega] at this
end Go.SH
namespace Go.SH

theorem clash_mem {a b : List Lc} (h : clash a b = true) : ∃ l, l ∈ a ∧ l ∈ b := by
  simp only [clash, List.any_eq_true] at h
  obtain ⟨x, hx, y, hy, he⟩ := h
  simp at he; subst he
  exact ⟨x, hx, hy⟩
theorem memW {o : Oper} {f : Fp} {x : Lc} (h : x ∈ (fpW o f).map (·.1)) : (∃ d, x = .inl d ∧ d ∈ wrS o) ∨ ∃ l, x = .inr l ∧ l ∈ wrL f := by
  unfold fpW at h
  rw [List.map_append, List.mem_append] at h
  rcases h with h | h
  · left
    unfold wrS
    cases hd : o.dst with
    | none => rw [hd] at h; simp at h
    | some d => rw [hd] at h; simp at h; exact ⟨d, h, by simp⟩
  · right
    unfold wrL
    cases hr : f.run with
    | false => rw [hr] at h; simp at h
    | true =>
      rw [hr] at h
      simp only [if_true, List.map_map, List.mem_map, Function.comp] at h
      obtain ⟨p, hp, rfl⟩ := h
      exact ⟨p.1, rfl, by simp only [if_true]; exact List.mem_map_of_mem hp⟩
theorem memR {ops : Array Oper} {o : Oper} {f : Fp} {x : Lc} (hra : ∀ p ∈ f.ra, p.1 ∈ slotsOf (opnds o.op)) (h : x ∈ (fpR ops o f).map (·.1)) : (∃ d, x = .inl d ∧ d ∈ rdS ops o) ∨ ∃ l, x = .inr l ∧ l ∈ rdL f := by
  unfold fpR at h
  rw [List.map_append, List.mem_append] at h
  rcases h with h | h
  · left
    unfold rdS
    cases hd : gslot ops o with
    | none => rw [hd] at h; simp at h
    | some d => rw [hd] at h; simp at h; exact ⟨d, h, by simp⟩
  · cases hr : f.run with
    | false => rw [hr] at h; simp at h
    | true =>
      rw [hr] at h
      simp only [if_true, List.map_append, List.map_map, List.mem_append, List.mem_map, Function.comp] at h
      rcases h with (⟨p, hp, rfl⟩ | ⟨p, hp, rfl⟩) | ⟨l, hl, rfl⟩
      · exact .inl ⟨p.1, rfl, by unfold rdS; exact List.mem_append.2 (.inr (hra p hp))⟩
      · exact .inr ⟨p.1, rfl, by unfold rdL; rw [if_pos hr]; exact List.mem_append.2 (.inl (List.mem_map_of_mem hp))⟩
      · exact .inr ⟨l, rfl, by unfold rdL; rw [if_pos hr]; exact List.mem_append.2 (.inr hl)⟩

theorem indep_of {ops : Array Oper} {fs : List Fp} (hlen : fs.length = ops.size) (hS : indepS ops = true) (hD : pureL fs = true ∨ indepD ops fs = true)
    (hra : ∀ (i : Nat) (o : Oper) (f : Fp), ops[i]? = some o → fs[i]? = some f → ∀ p ∈ f.ra, p.1 ∈ slotsOf (opnds o.op)) : indep ops fs = true := by
  unfold indep
  simp only [List.all_eq_true, List.mem_range]
  intro j hj i hi
  have hin : i < ops.size := by omega
  have h1 : ops[i]? = some ops[i] := by simp [hin]
  have h2 : fs[i]? = some fs[i] := by simp [hlen, hin]
  have h3 : ops[j]? = some ops[j] := by simp [hj]
  have h4 : fs[j]? = some fs[j] := by simp [hlen, hj]
  have ri := hra i _ _ h1 h2
  have rj := hra j _ _ h3 h4
  have s1 : (ops.toList.map fun o => (rdS ops o, wrS o))[i]? = some (rdS ops ops[i], wrS ops[i]) := by simp [hin]
  have s2 : (ops.toList.map fun o => (rdS ops o, wrS o))[j]? = some (rdS ops ops[j], wrS ops[j]) := by simp [hj]
  have st := allS_ok _ _ [] 0 i j _ _ _ _ hS rfl (by omega) (by rw [List.nil_append]; exact s1) s2
  rw [Nat.zero_add] at st
  have dy : bitB ((masks ops.toList []).getD j 0) i = true ∨ (meetN (wrL fs[i]) (rdL fs[j] ++ wrL fs[j]) = false ∧ meetN (wrL fs[j]) (rdL fs[i]) = false) := by
    rcases hD with hD | hD
    · right
      have nil : ∀ f ∈ fs, wrL f = [] := by
        intro f hf
        have := List.all_eq_true.1 hD f hf
        unfold wrL
        split
        · split at this
          · rename_i hw; rw [hw]; rfl
          · simp at this
        · rfl
      rw [nil _ (List.getElem_mem _), nil _ (List.getElem_mem _)]
      exact ⟨rfl, rfl⟩
    · have d1 : (fs.map fun f => (rdL f, wrL f))[i]? = some (rdL fs[i], wrL fs[i]) := by simp [hlen, hin]
      have d2 : (fs.map fun f => (rdL f, wrL f))[j]? = some (rdL fs[j], wrL fs[j]) := by simp [hlen, hj]
      have := allS_ok _ _ [] 0 i j _ _ _ _ hD rfl (by omega) (by rw [List.nil_append]; exact d1) d2
      rwa [Nat.zero_add] at this
  simp only [List.getD_eq_getElem?_getD, List.getElem?_map, List.getElem?_range hin, List.getElem?_range hj, Option.map_some, Option.getD_some, h1, h2, h3, h4]
  generalize ops[i] = oi at *
  generalize ops[j] = oj at *
  generalize fs[i] = fi at *
  generalize fs[j] = fj at *
  by_cases hb : bitB ((masks ops.toList []).getD j 0) i = true
  · have := masks_befs ops.size j i hj hj (by rw [← bitB_ok]; exact hb)
    simp [List.contains_iff_mem, this]
  · obtain ⟨s3, s4⟩ := st.resolve_left hb
    obtain ⟨d3, d4⟩ := dy.resolve_left hb
    rw [Bool.or_eq_true]
    right
    rw [Bool.not_eq_true', Bool.or_eq_false_iff]
    constructor
    · cases hc : clash ((fpW oi fi).map (·.1)) ((fpR ops oj fj).map (·.1) ++ (fpW oj fj).map (·.1)) with
      | false => rfl
      | true =>
        exfalso
        obtain ⟨x, hx, hy⟩ := clash_mem hc
        rcases memW hx with ⟨d, rfl, hd⟩ | ⟨l, rfl, hl⟩
        · rcases List.mem_append.1 hy with hy | hy
          · rcases memR rj hy with ⟨d', e, hd'⟩ | ⟨l, e, _⟩
            · simp at e; subst e; exact meetN_no s3 hd (List.mem_append.2 (.inl hd'))
            · simp at e
          · rcases memW hy with ⟨d', e, hd'⟩ | ⟨l, e, _⟩
            · simp at e; subst e; exact meetN_no s3 hd (List.mem_append.2 (.inr hd'))
            · simp at e
        · rcases List.mem_append.1 hy with hy | hy
          · rcases memR rj hy with ⟨d', e, hd'⟩ | ⟨l', e, hl'⟩
            · simp at e
            · simp at e; subst e; exact meetN_no d3 hl (List.mem_append.2 (.inl hl'))
          · rcases memW hy with ⟨d', e, hd'⟩ | ⟨l', e, hl'⟩
            · simp at e
            · simp at e; subst e; exact meetN_no d3 hl (List.mem_append.2 (.inr hl'))
    · cases hc : clash ((fpW oj fj).map (·.1)) ((fpR ops oi fi).map (·.1)) with
      | false => rfl
      | true =>
        exfalso
        obtain ⟨x, hx, hy⟩ := clash_mem hc
        rcases memW hx with ⟨d, rfl, hd⟩ | ⟨l, rfl, hl⟩
        · rcases memR ri hy with ⟨d', e, hd'⟩ | ⟨l, e, _⟩
          · simp at e; subst e; exact meetN_no s4 hd hd'
          · simp at e
        · rcases memR ri hy with ⟨d', e, hd'⟩ | ⟨l', e, hl'⟩
          · simp at e
          · simp at e; subst e; exact meetN_no d4 hl hl'

/-! the text's order, one operation further -/
theorem textAl_app : ∀ (os : List Oper) (fs : List Fp) (o : Oper) (f : Fp) (al : Al), os.length = fs.length → textAl (os ++ [o]) (fs ++ [f]) al = stepAl o f (textAl os fs al)
  | [], [], o, f, al, _ => rfl
  | [], _ :: _, o, f, al, h => by simp at h
  | _ :: _, [], o, f, al, h => by simp at h
  | o' :: os, f' :: fs, o, f, al, h => textAl_app os fs o f _ (by simpa using h)
theorem textL_app : ∀ (os : List Oper) (fs : List Fp) (o : Oper) (f : Fp) (L : Lb), os.length = fs.length → textL (os ++ [o]) (fs ++ [f]) L = stepL f (textL os fs L)
  | [], [], o, f, L, _ => rfl
  | [], _ :: _, o, f, L, h => by simp at h
  | _ :: _, [], o, f, L, h => by simp at h
  | o' :: os, f' :: fs, o, f, L, h => textL_app os fs o f _ (by simpa using h)
theorem textVals_app (ops : Array Oper) : ∀ (os : List Oper) (fs : List Fp) (o : Oper) (f : Fp) (al : Al) (L : Lb), os.length = fs.length →
    textVals ops (os ++ [o]) (fs ++ [f]) al L = textVals ops os fs al L ++ [(fpR ops o f).map fun p => memOf (textAl os fs al) (textL os fs L) p.1]
  | [], [], o, f, al, L, _ => rfl
  | [], _ :: _, o, f, al, L, h => by simp at h
  | _ :: _, [], o, f, al, L, h => by simp at h
  | o' :: os, f' :: fs, o, f, al, L, h => by
    simp only [List.cons_append, textVals, textAl, textL]
    rw [textVals_app ops os fs o f _ _ (by simpa using h)]
theorem textWant_app (ops : Array Oper) : ∀ (os : List Oper) (fs : List Fp) (o : Oper) (f : Fp), os.length = fs.length → textWant ops (os ++ [o]) (fs ++ [f]) = textWant ops os fs ++ [(fpR ops o f).map (·.2)]
  | [], [], o, f, _ => rfl
  | [], _ :: _, o, f, h => by simp at h
  | _ :: _, [], o, f, h => by simp at h
  | o' :: os, f' :: fs, o, f, h => by
    simp only [List.cons_append, textWant]
    rw [textWant_app ops os fs o f (by simpa using h)]

/-- So far as a statement of open order is run, in the text's order. -/
structure DInv (E : Env) (ops : Array Oper) (pre : List Oper) (fs : List Fp) (al0 : Al) (L0 : Lb) (al : Al) (L : Lb) : Prop where
  len : pre.length = fs.length
  hal : al = textAl pre fs al0
  hL : L = textL pre fs L0
  tv : textVals ops pre fs al0 L0 = textWant ops pre fs
  op : ∀ (i : Nat) (o : Oper) (f : Fp), pre[i]? = some o → fs[i]? = some f → f.run = true → AOp E o f.ra f.rl f.x f.wl
  gd : ∀ (i : Nat) (o : Oper) (f : Fp), pre[i]? = some o → fs[i]? = some f → (match o.guard with | some _ => (!f.gd || !f.run) | none => f.run) = true
  ra : ∀ (i : Nat) (o : Oper) (f : Fp), pre[i]? = some o → fs[i]? = some f → ∀ p ∈ f.ra, p.1 ∈ slotsOf (opnds o.op)

theorem snoc_get {α : Type} {xs : List α} {x y : α} {i : Nat} (h : (xs ++ [x])[i]? = some y) : (i < xs.length ∧ xs[i]? = some y) ∨ (i = xs.length ∧ y = x) := by
  rcases Nat.lt_or_ge i xs.length with hi | hi
  · rw [List.getElem?_append_left hi] at h; exact .inl ⟨hi, h⟩
  · rw [List.getElem?_append_right hi] at h
    cases hk : i - xs.length with
    | zero => rw [hk] at h; simp at h; exact .inr ⟨by omega, h.symm⟩
    | succ k => rw [hk] at h; simp at h

theorem DInv.snoc {E : Env} {ops : Array Oper} {pre : List Oper} {fs : List Fp} {al0 al : Al} {L0 L : Lb} (h : DInv E ops pre fs al0 L0 al L) {o : Oper} {f : Fp}
    (hr : ∀ p ∈ fpR ops o f, memOf al L p.1 = p.2) (hop : f.run = true → AOp E o f.ra f.rl f.x f.wl) (hgd : (match o.guard with | some _ => (!f.gd || !f.run) | none => f.run) = true) (hra : ∀ p ∈ f.ra, p.1 ∈ slotsOf (opnds o.op)) :
    DInv E ops (pre ++ [o]) (fs ++ [f]) al0 L0 (stepAl o f al) (stepL f L) := by
  refine ⟨by simp [h.len], by rw [textAl_app _ _ _ _ _ h.len, h.hal], by rw [textL_app _ _ _ _ _ h.len, h.hL], ?_, ?_, ?_, ?_⟩
  · rw [textVals_app _ _ _ _ _ _ _ h.len, textWant_app _ _ _ _ _ h.len, h.tv, ← h.hal, ← h.hL]
    congr 2
    exact List.map_congr_left hr
  · intro i o' f' h1 h2 h3
    rcases snoc_get h1 with ⟨a, b⟩ | ⟨a, rfl⟩ <;> rcases snoc_get h2 with ⟨c, d⟩ | ⟨c, rfl⟩
    · exact h.op i _ _ b d h3
    · have := h.len; omega
    · have := h.len; omega
    · exact hop h3
  · intro i o' f' h1 h2
    rcases snoc_get h1 with ⟨a, b⟩ | ⟨a, rfl⟩ <;> rcases snoc_get h2 with ⟨c, d⟩ | ⟨c, rfl⟩
    · exact h.gd i _ _ b d
    · have := h.len; omega
    · have := h.len; omega
    · exact hgd
  · intro i o' f' h1 h2
    rcases snoc_get h1 with ⟨a, b⟩ | ⟨a, rfl⟩ <;> rcases snoc_get h2 with ⟨c, d⟩ | ⟨c, rfl⟩
    · exact h.ra i _ _ b d
    · have := h.len; omega
    · have := h.len; omega
    · exact hra
end Go.SH
namespace Go.SH

theorem Weak.subG {E : Env} {K : Nat → Prop} {al al' : Al} {L : Lb} (hs : ∀ t x, lget al' t = some x → lget al t = some x) : Weak E K al L al' L := fun _ w σ _ r =>
  ⟨σ, ⟨fun t x hx => r.tmps t x (hs t x hx), r.blocks, r.globals, r.nodefer⟩, Grow.refl _ _ _ _⟩

theorem draw_end {E : Env} (hm : E.P.follows .mixedOrders = true) {n id : Nat} {ops : Array Oper} {fs : List Fp} {al0 al : Al} {L0 L : Lb} {K : Nat → Prop} (h : DInv E ops ops.toList fs al0 L0 al L) (he : edgesOK ops = true) (hS : indepS ops = true) (hd : drawS n ops = true)
    (hp : pureL fs = true ∨ (nodupAll fs = true ∧ indepD ops fs = true)) : AW E K n (.region id ops true) (fun e1 al1 L1 => e1 = .normal ∧ al1 = al ∧ L1 = L) al0 L0 := by
  have hlen : fs.length = ops.size := by have := h.len; simp at this; omega
  have g1 : ∀ (i : Nat) (o : Oper), ops[i]? = some o → ops.toList[i]? = some o := fun i o h => by simpa using h
  have hst : ∀ (i : Nat) (o : Oper), ops[i]? = some o → (dstOK n o.dst && (match o.guard with | some _ => (gslot ops o).isSome | none => true)) = true := fun i o ho =>
    List.all_eq_true.1 ((Bool.and_eq_true _ _).mp hd).1 o (List.mem_of_getElem? (g1 i o ho))
  refine AW_post (AW_draw (Q := fun e al1 L1 => e = .normal ∧ (∀ t, lget al1 t = lget al t) ∧ ∀ l, lget L1 l = lget L l) hm fs hlen (fun i o f ho hf hr => h.op i o f (g1 i o ho) hf hr) (fun i o f ho hf => ⟨?_, ?_, ?_⟩) he
    (indep_of hlen hS (hp.imp (fun h => h) (·.2)) fun i o f ho hf => h.ra i o f (g1 i o ho) hf) h.tv (fun al1 L1 e1 e2 => ⟨rfl, fun t => by rw [e1, ← h.hal], fun l => by rw [e2, ← h.hL]⟩) (fun i o ho => List.all_eq_true.1 ((Bool.and_eq_true _ _).mp hd).2 o (List.mem_of_getElem? (g1 i o ho))) (fun _ _ h => by simp at h)) ?_
  · have h1 := h.gd i o f (g1 i o ho) hf
    have h2 := hst i o ho
    unfold guardOK
    cases hg : o.guard with
    | none => rw [hg] at h1; exact h1
    | some q => rw [hg] at h1 h2; simp only [Bool.and_eq_true] at h2 ⊢; exact ⟨h2.2, h1⟩
  · rcases hp with hp | hp
    · have := List.all_eq_true.1 hp f (List.mem_of_getElem? hf)
      split at this
      · rename_i hw; rw [hw]; rfl
      · simp at this
    · exact List.all_eq_true.1 hp.1 f (List.mem_of_getElem? hf)
  · intro t ht
    have h2 := hst i o ho
    simp only [Bool.and_eq_true] at h2
    exact dstOK_ok h2.1 t ht
  · rintro e al1 L1 ⟨rfl, e1, e2⟩
    exact ⟨al, L, (Weak.subG fun t x hx => by rw [e1]; exact hx).trans (Weak.eqL fun l => (e2 l).symm), rfl, rfl, rfl⟩

/-! ### trees from step to step -/
def TrB (m : Tr) (nx : Nat) : Prop := ∀ l, tget m l ≠ none → l < nx
structure StOK (m : Tr) (nx lo : Nat) (m' : Tr) (nx' : Nat) : Prop where
  le : nx ≤ nx'
  mx : nx' ≤ maxL
  trb : TrB m' nx'
  low : ∀ l, l < lo → tget m' l = tget m l
  dom : ∀ l, l < nx → tget m l = none → tget m' l = none
theorem StOK.refl {m : Tr} {nx lo : Nat} (h : nx ≤ maxL) (hb : TrB m nx) : StOK m nx lo m nx := ⟨Nat.le_refl _, h, hb, fun _ _ => rfl, fun _ _ h => h⟩
theorem StOK.trans {m m' m'' : Tr} {nx nx' nx'' lo : Nat} (h : StOK m nx lo m' nx') (h' : StOK m' nx' lo m'' nx'') : StOK m nx lo m'' nx'' :=
  ⟨Nat.le_trans h.le h'.le, h'.mx, h'.trb, fun l hl => (h'.low l hl).trans (h.low l hl), fun l hl hn => h'.dom l (Nat.lt_of_lt_of_le hl h.le) (h.dom l hl hn)⟩

theorem of1_all {G : List (Nat × List PV)} {al : Al} {m : Tr} (x : Operand) : AllM m (of1 G al m x) := by
  intro p hp
  unfold of1 at hp
  split at hp
  · split at hp
    · rename_i l off _ cs hcs; simp at hp; subst hp; exact ⟨cs, rfl, hcs⟩
    · simp at hp
  · split at hp
    · rename_i l _ _ _ _ _ cs hcs; simp at hp; subst hp; exact ⟨cs, rfl, hcs⟩
    · simp at hp
  · simp at hp
theorem AllM.app {m : Tr} {a b : Lb} (ha : AllM m a) (hb : AllM m b) : AllM m (a ++ b) := fun p hp => (List.mem_append.1 hp).elim (ha p) (hb p)
theorem rlOf_all {G : List (Nat × List PV)} {al : Al} {m : Tr} (o : Op) : AllM m (rlOf G al m o) := by
  unfold rlOf
  split <;> first | exact of1_all _ | exact AllM.app (of1_all _) (of1_all _) | (intro p hp; simp at hp)

theorem AllM.lt {m : Tr} {nx : Nat} {rl : Lb} (h : AllM m rl) (hb : TrB m nx) {p : Nat × Option (List PV)} (hp : p ∈ rl) : p.1 < nx := by
  obtain ⟨cs, _, h2⟩ := h p hp
  exact hb p.1 (by rw [h2]; simp)
theorem AllM.none {m : Tr} {nx : Nat} {rl : Lb} (h : AllM m rl) (hb : TrB m nx) : ∀ l, nx ≤ l → lget rl l = none := by
  intro l hl
  cases hy : lget rl l with
  | none => rfl
  | some y => have := h.lt hb (mem_of_lget hy); simp at this; omega

/-- What is written: an old block that may be written, or the new one. -/
theorem wl_of {m : Tr} {nx lo : Nat} {rl wl : Lb} (hrl : AllM m rl) (hb : TrB m nx) (hw : wlOK rl nx lo wl = true) : ∀ p ∈ wl, nx < maxL ∧ (p.1 = nx ∨ (hasL rl p.1 = true ∧ lo ≤ p.1 ∧ p.1 < nx)) := by
  intro p hp
  have := List.all_eq_true.1 hw p hp
  simp only [Bool.and_eq_true, Bool.or_eq_true] at this
  obtain ⟨h1, h2⟩ := this
  refine ⟨by simp [Nat.blt] at h1; omega, ?_⟩
  rcases h2 with h2 | ⟨h2, h3⟩
  · exact .inl (by rwa [Nat.beq_eq] at h2)
  · refine .inr ⟨h2, by simpa using h3, ?_⟩
    obtain ⟨q, hq, e⟩ := hasL_mem.1 h2
    have := hrl.lt hb hq; omega

theorem nxt_le (nx : Nat) (wl : Lb) : nx ≤ nxt nx wl := by cases wl <;> simp [nxt]
theorem StOK.upd {m : Tr} {nx lo : Nat} {rl wl : Lb} (hle : lo ≤ nx) (hmx : nx ≤ maxL) (hrl : AllM m rl) (hb : TrB m nx) (hw : wlOK rl nx lo wl = true) : StOK m nx lo (tupd m wl) (nxt nx wl) := by
  have hall := wl_of hrl hb hw
  have hlt : ∀ p ∈ wl, p.1 < maxL := fun p hp => by rcases hall p hp with ⟨h1, h2 | h2⟩ <;> omega
  have hne : wl ≠ [] → nx + 1 ≤ maxL ∧ nxt nx wl = nx + 1 := by
    intro h
    cases wl with
    | nil => exact absurd rfl h
    | cons p r => have := (hall p (by simp)).1; exact ⟨this, rfl⟩
  refine ⟨nxt_le nx wl, ?_, ?_, ?_, ?_⟩
  · cases wl with
    | nil => exact hmx
    | cons p r => exact (hne (by simp)).1
  · intro l hl
    rcases tget_tupd wl m l hlt with ⟨p, hp, rfl, _⟩ | ⟨_, h2⟩
    · have h1 := hne (by intro h; rw [h] at hp; simp at hp)
      rcases hall p hp with ⟨_, h2 | h2⟩ <;> omega
    · rw [h2] at hl; exact Nat.lt_of_lt_of_le (hb l hl) (nxt_le nx wl)
  · intro l hl
    rcases tget_tupd wl m l hlt with ⟨p, hp, rfl, _⟩ | ⟨_, h2⟩
    · rcases hall p hp with ⟨_, h2 | h2⟩ <;> omega
    · exact h2
  · intro l hl hn
    rcases tget_tupd wl m l hlt with ⟨p, hp, rfl, _⟩ | ⟨_, h2⟩
    · rcases hall p hp with ⟨_, h2 | ⟨h2, _⟩⟩
      · omega
      · obtain ⟨q, hq, e⟩ := hasL_mem.1 h2
        obtain ⟨cs, _, h3⟩ := hrl q hq
        rw [e, hn] at h3; simp at h3
    · rw [h2]; exact hn
theorem upd_state {m : Tr} {nx lo : Nat} {rl wl L : Lb} (hrl : AllM m rl) (hb : TrB m nx) (hw : wlOK rl nx lo wl = true) (h1 : MR m L) (h2 : FrL nx L) : MR (tupd m wl) (lupd L wl) ∧ FrL (nxt nx wl) (lupd L wl) := by
  have hall := wl_of hrl hb hw
  refine ⟨h1.upd fun p hp => ?_, FrL.upd (nxt_le nx wl) h2 fun p hp => ?_⟩
  · rcases hall p hp with ⟨h1, h2 | h2⟩ <;> omega
  · cases wl with
    | nil => simp at hp
    | cons q r => rcases hall p hp with ⟨_, h2 | h2⟩ <;> (show p.1 < nx + 1) <;> omega

/-! ### slots -/
theorem raOf_mem {al : Al} : ∀ {ts : List Nat} {p : Nat × PV}, p ∈ raOf al ts → lget al p.1 = some p.2 ∧ p.1 ∈ ts
  | [], p, h => by simp [raOf] at h
  | t :: r, p, h => by
    unfold raOf at h
    split at h
    · rename_i x hx
      rcases List.mem_cons.1 h with rfl | h
      · exact ⟨hx, by simp⟩
      · obtain ⟨h1, h2⟩ := raOf_mem h; exact ⟨h1, by simp [h2]⟩
    · obtain ⟨h1, h2⟩ := raOf_mem h; exact ⟨h1, by simp [h2]⟩
theorem raOf_sub {al : Al} {ts : List Nat} {t : Nat} {x : PV} (h : lget (raOf al ts) t = some x) : lget al t = some x := (raOf_mem (mem_of_lget h)).1
theorem raOf_get {al : Al} : ∀ {ts : List Nat} {t : Nat}, t ∈ ts → lget (raOf al ts) t = lget al t
  | [], t, h => by simp at h
  | s :: r, t, h => by
    by_cases hst : s = t
    · subst hst
      unfold raOf
      cases hx : lget al s with
      | some x => simp [lget]
      | none =>
        simp only
        cases hy : lget (raOf al r) s with
        | none => rfl
        | some y => rw [raOf_sub hy] at hx; simp at hx
    · have ht : t ∈ r := by rcases List.mem_cons.1 h with h | h; exact absurd h.symm hst; exact h
      unfold raOf
      cases hx : lget al s with
      | some x => simp only [lget]; rw [if_neg hst]; exact raOf_get ht
      | none => exact raOf_get ht
theorem slots_mem : ∀ {xs : List Operand} {t : Nat}, Operand.tmp t ∈ xs → t ∈ slotsOf xs
  | [], t, h => by simp at h
  | x :: r, t, h => by
    rcases List.mem_cons.1 h with rfl | h
    · simp [slotsOf]
    · have := slots_mem h
      cases x <;> simp [slotsOf, this]
theorem xev_ra {G : List (Nat × List PV)} {al : Al} {xs : List Operand} {x : Operand} (h : x ∈ xs) : xev G (raOf al (slotsOf xs)) x = xev G al x := by
  cases x with
  | tmp t => exact raOf_get (slots_mem h)
  | _ => rfl
theorem xevs_ra {G : List (Nat × List PV)} {al : Al} {xs : List Operand} : ∀ {ys : List Operand}, (∀ y ∈ ys, y ∈ xs) → xevs G (raOf al (slotsOf xs)) ys = xevs G al ys
  | [], _ => rfl
  | y :: r, h => by
    unfold xevs
    rw [xev_ra (h y (by simp)), xevs_ra fun z hz => h z (by simp [hz])]

theorem wants_gval {ops : Array Oper} {al : Al} {o : Oper} {run : Bool} (h : wants ops al o = some run) : (∀ d, gslot ops o = some d → lget al d = some (gval o run (gdOf ops al o))) ∧ (run = true → gdOf ops al o = false) ∧ (o.guard = none → run = true) := by
  unfold wants at h
  unfold gslot gval gdOf
  cases hg : o.guard with
  | none => rw [hg] at h; simp at h; simp [h]
  | some q =>
    obtain ⟨j, want⟩ := q
    rw [hg] at h
    simp only at h ⊢
    have hh : (ops[j]?).bind (·.dst) = none ∨ ∃ d, (ops[j]?).bind (·.dst) = some d := by cases (ops[j]?).bind (·.dst) <;> simp
    rcases hh with hd | ⟨d, hd⟩
    · simp [hd] at h
    · have hx' : lget al d = none ∨ ∃ x, lget al d = some x := by cases lget al d <;> simp
      rcases hx' with hx | ⟨x, hx⟩
      · simp [hd, hx] at h
      · simp only [hd, hx] at h ⊢
        cases x <;> simp at h
        · subst h
          refine ⟨fun d' hd' => ?_, by simp, by simp⟩
          simp at hd'; subst hd'
          rw [hx]; simp
        · rename_i b
          subst h
          refine ⟨fun d' hd' => ?_, by simp, by simp⟩
          simp at hd'; subst hd'
          rw [hx]; cases b <;> cases want <;> rfl

/-- What is looked at is as it is told. -/
theorem fpR_ok {ops : Array Oper} {al : Al} {L : Lb} {o : Oper} {f : Fp} (hw : wants ops al o = some f.run) (hgd : f.gd = gdOf ops al o) (hra : ∀ p ∈ f.ra, lget al p.1 = some p.2) (hrl : ∀ p ∈ f.rl, lget L p.1 = some p.2)
    (hnew : ∀ l ∈ fnew f, lget L l = none) : ∀ p ∈ fpR ops o f, memOf al L p.1 = p.2 := by
  intro p hp
  unfold fpR at hp
  rw [List.mem_append] at hp
  rcases hp with hp | hp
  · cases hd : gslot ops o with
    | none => rw [hd] at hp; simp at hp
    | some d =>
      rw [hd] at hp
      simp at hp; subst hp
      simp only [memOf]
      rw [(wants_gval hw).1 d hd, hgd]
  · split at hp
    · rw [List.mem_append, List.mem_append] at hp
      rcases hp with (hp | hp) | hp
      · simp only [List.mem_map] at hp
        obtain ⟨q, hq, rfl⟩ := hp
        simp only [memOf]; rw [hra q hq]
      · simp only [List.mem_map] at hp
        obtain ⟨q, hq, rfl⟩ := hp
        simp only [memOf]; rw [hrl q hq]
      · simp only [List.mem_map] at hp
        obtain ⟨l, hl, rfl⟩ := hp
        simp only [memOf]; rw [hnew l hl]
    · simp at hp
end Go.SH
namespace Go.SH

mutual
/-- The names in a value. -/
def DV.names : DV → List Nat
  | .ptr l _ => [l]
  | .lp l _ _ _ => [l]
  | .rw l _ _ _ _ _ => [l]
  | .fn _ cs => DV.namesL cs
  | .iface _ v => v.names
  | .agg cs => DV.namesL cs
  | .tup cs => DV.namesL cs
  | _ => []
def DV.namesL : List DV → List Nat
  | [] => []
  | d :: r => d.names ++ DV.namesL r
end
def draOf (al : DAl) : List Nat → DAl
  | [] => []
  | t :: r => match lget al t with | some x => (t, x) :: draOf al r | none => draOf al r
def drlOf (L : DLb) : List Nat → DLb
  | [] => []
  | l :: r => match lget L l with | some c => (l, c) :: drlOf L r | none => drlOf L r
theorem draOf_mem {al : DAl} : ∀ {ts : List Nat} {p : Nat × DV}, p ∈ draOf al ts → lget al p.1 = some p.2 ∧ p.1 ∈ ts
  | [], p, h => by simp [draOf] at h
  | t :: r, p, h => by
    simp only [draOf] at h
    split at h
    · rename_i x hx
      rcases List.mem_cons.1 h with rfl | h
      · exact ⟨hx, by simp⟩
      · obtain ⟨h1, h2⟩ := draOf_mem h; exact ⟨h1, List.mem_cons_of_mem _ h2⟩
    · obtain ⟨h1, h2⟩ := draOf_mem h; exact ⟨h1, List.mem_cons_of_mem _ h2⟩
theorem drlOf_mem {L : DLb} : ∀ {ts : List Nat} {p : Nat × DC}, p ∈ drlOf L ts → lget L p.1 = some p.2
  | [], p, h => by simp [drlOf] at h
  | t :: r, p, h => by
    simp only [drlOf] at h
    split at h
    · rename_i x hx
      rcases List.mem_cons.1 h with rfl | h
      · exact hx
      · exact drlOf_mem h
    · exact drlOf_mem h
/-- Does an operation look at blocks? -/
def looks : Op → Bool
  | .move _ => false
  | .assign _ => false
  | .pick _ _ _ => false
  | .binOp _ _ _ _ _ => false
  | .unOp _ _ _ => false
  | .fieldAddr _ _ _ => false
  | .field _ _ _ => false
  | .extract _ _ => false
  | .makeFunc _ _ _ => false
  | .makeInterface _ _ => false
  | .nilCheck _ => false
  | .build _ _ => false
  | .box _ _ => false
  | .buildSlice _ _ _ => false
  | _ => true
/-- Names, and those that stand in their blocks. -/
def deep (L : DLb) (op : Op) (ns : List Nat) : List Nat := match op with
  | .call ⟨.value _, _, _⟩ => ns ++ ns.flatMap fun l => match lget L l with
    | some (.cs ds) => DV.namesL ds
    | _ => []
  | _ => ns
def rlFor (op : Op) (ra : DAl) (L : DLb) : DLb := match looks op with
  | true => drlOf L (deep L op (ra.flatMap fun p => p.2.names))
  | false => []
theorem rlFor_mem {op : Op} {ra : DAl} {L : DLb} {p : Nat × DC} (h : p ∈ rlFor op ra L) : lget L p.1 = some p.2 := by
  unfold rlFor at h
  split at h
  · exact drlOf_mem h
  · simp at h

theorem fnew_memD {f : Fp} {l : Nat} (h : l ∈ fnew f) : lget f.rl l = none ∧ ∃ p ∈ f.wl, p.1 = l := by
  unfold fnew at h
  simp only [List.mem_map, List.mem_filter] at h
  obtain ⟨p, ⟨h1, h2⟩, rfl⟩ := h
  exact ⟨by simpa using h2, p, h1, rfl⟩

section
variable {E : Env} {K : Nat → Prop} {n : Nat} {Q : Exit → Al → Lb → Prop} {ops : Array Oper} {rest : List Oper} {R : Type} {r : R}

def dDraw (E : Env) (G : GTab) (C : CT E) (n : Nat) (hs : OHs) (ops : Array Oper) {R : Type} : List Oper → Nat → List Fp → St → (St → Option R) → Option R
  | [], _, fs, s, k => if (edgesOK ops && (indepS ops && drawS n ops) && (pureL fs || (nodupAll fs && indepD ops fs.reverse))) = true then k s else none
  | o :: rest, i, fs, s, k => match dwants ops s.al o with
    | some true => let ra := draOf s.al (slotsOf (opnds o.op))
      let rl := rlFor o.op ra s.L
      dOpF E G C (ohOf hs i) o ra rl (frOf s.L) fun x wl dl =>
        if (wl.all fun p => (rl.map (·.1)).elem p.1 || Nat.ble (frOf s.L) p.1) = true then splitK (ohOf hs i).split x fun x =>
          dDraw E G C n hs ops rest (i + 1) (⟨dal ra, dlb rl, x.pv, dlb wl, true, false⟩ :: fs) ((s.wr wl dl).set o.dst x) k else none
    | some false => dDraw E G C n hs ops rest (i + 1) (⟨[], [], .dead, [], false, gdOf ops (dal s.al) o⟩ :: fs) (s.set o.dst .dead) k
    | none => none

theorem dDraw_ok {G : GTab} {C : CT E} {hs : OHs} {id : Nat} (hm : E.P.follows .mixedOrders = true) (hG : E.G = gtPV G) (hE : GOK E) {al0 : Al} {L0 : Lb} :
    ∀ {rest pre : List Oper} {i : Nat} {fs : List Fp} {s : St} {k : St → Option R}, ops.toList = pre ++ rest → DInv E ops pre fs.reverse al0 L0 (dal s.al) (dlb s.L) → dDraw E G C n hs ops rest i fs s k = some r → s.ok →
    (∀ s', Up s s' → s'.ok → k s' = some r → Q .normal (dal s'.al) (dlb s'.L)) → AW E K n (.region id ops true) Q al0 L0
  | [], pre, i, fs, s, k, hpre, hD, h, ho, hq => by
    simp only [dDraw] at h
    split at h
    · rename_i hc
      simp only [Bool.and_eq_true] at hc
      obtain ⟨⟨h1, h2, h3⟩, h4⟩ := hc
      rw [List.append_nil] at hpre
      subst hpre
      refine (draw_end hm hD h1 h2 h3 ?_).mono fun e1 al1 L1 ⟨a, b, c⟩ => by subst a; subst b; subst c; exact hq s (.refl s) ho h
      simp only [Bool.or_eq_true, Bool.and_eq_true] at h4
      rcases h4 with hp | ⟨hp, hq⟩
      · left; unfold pureL at hp ⊢; rw [List.all_reverse]; exact hp
      · right; exact ⟨by unfold nodupAll at hp ⊢; rw [List.all_reverse]; exact hp, hq⟩
    · simp at h
  | o :: rest, pre, i, fs, s, k, hpre, hD, h, ho, hq => by
    simp only [dDraw] at h
    split at h
    · rename_i hw
      have hw := dwants_ok hw
      have hra : alOk (draOf s.al (slotsOf (opnds o.op))) := fun t x hx => ho.1 t x (draOf_mem (mem_of_lget hx)).1
      have hrlm : ∀ l c, lget (rlFor o.op (draOf s.al (slotsOf (opnds o.op))) s.L) l = some c → lget s.L l = some c := fun l c hl => rlFor_mem (mem_of_lget hl)
      have hn : lget (rlFor o.op (draOf s.al (slotsOf (opnds o.op))) s.L) (frOf s.L) = none := by
        cases hc : lget (rlFor o.op (draOf s.al (slotsOf (opnds o.op))) s.L) (frOf s.L) with
        | none => rfl
        | some c => have := hrlm _ _ hc; rw [frOf_ok (Nat.le_refl _)] at this; simp at this
      obtain ⟨x, wl, dl, hA, hx, hwl, hd, h⟩ := dOpF_ok hG hE hra (fun l c hl => ho.2 l c (hrlm l c hl)) hn h
      simp only at h
      split at h
      · rename_i hwc
        have h := splitK_ok h
        have hd' : DirtyOK s.L wl dl := fun p hp => (hd p hp).imp (fun h => h) fun ⟨cs, cs', e1, e2⟩ => ⟨cs, cs', hrlm _ _ e1, e2⟩
        have u2 : Up s ((s.wr wl dl).set o.dst x) := (wr_up hd').trans (set_up _ _ _)
        have o2 : ((s.wr wl dl).set o.dst x).ok := set_ok (wr_ok ho hwl) hx
        have hgd : gdOf ops (dal s.al) o = false := (wants_gval hw).2.1 rfl
        have hD' := hD.snoc (o := o) (f := ⟨dal (draOf s.al (slotsOf (opnds o.op))), dlb (rlFor o.op (draOf s.al (slotsOf (opnds o.op))) s.L), x.pv, dlb wl, true, false⟩)
          (fpR_ok hw hgd.symm (fun p hp => by
              obtain ⟨q, hq, rfl⟩ := List.mem_map.1 hp
              rw [lget_dal, (draOf_mem hq).1]; rfl)
            (fun p hp => by
              obtain ⟨q, hq, rfl⟩ := List.mem_map.1 hp
              rw [lget_dlb, rlFor_mem hq]; rfl) fun l hl => by
            obtain ⟨e1, p, hp, rfl⟩ := fnew_memD hl
            obtain ⟨q, hq, rfl⟩ := List.mem_map.1 hp
            have := List.all_eq_true.1 hwc q hq
            simp only [Bool.or_eq_true] at this
            rcases this with this | this
            · have e2 := hasL_dlb this
              simp only [hasL] at e2
              simp only at e1
              rw [e1] at e2; simp at e2
            · have := Nat.le_of_ble_eq_true this
              simp only; rw [lget_dlb, frOf_ok this]; rfl)
          (fun _ => hA) (by cases hg : o.guard <;> rfl) fun p hp => by
            obtain ⟨q, hq, rfl⟩ := List.mem_map.1 hp
            exact (draOf_mem hq).2
        refine dDraw_ok hm hG hE (pre := pre ++ [o]) (by rw [hpre]; simp) ?_ h o2 fun s' u' o' k' => hq s' (u2.trans u') o' k'
        rw [List.reverse_cons, dal_set, dlb_set, show (s.wr wl dl).L = lupd s.L wl from rfl, ← lupd_dlb]
        exact hD'
      · simp at h
    · rename_i hw
      have hw := dwants_ok hw
      have hg : o.guard ≠ none := fun h => by have := (wants_gval hw).2.2 h; simp at this
      have hD' := hD.snoc (o := o) (f := ⟨[], [], .dead, [], false, gdOf ops (dal s.al) o⟩)
        (fpR_ok hw rfl (fun p hp => by simp at hp) (fun p hp => by simp at hp) fun l hl => by obtain ⟨_, p, hp, _⟩ := fnew_memD hl; simp at hp)
        (fun h => by simp at h) (by cases hgg : o.guard with | none => exact absurd hgg hg | some q => simp) fun p hp => by simp at hp
      refine dDraw_ok hm hG hE (pre := pre ++ [o]) (by rw [hpre]; simp) ?_ h (set_ok ho (d := o.dst) (x := .dead) trivial) fun s' u' o' k' => hq s' ((set_up _ _ _).trans u') o' k'
      rw [List.reverse_cons, dal_set, dlb_set]
      exact hD'
    · simp at h
end
end Go.SH
namespace Go.SH

section
variable {R : Type} {r : R}
def Tm.leafK (tm : Tm) (ks : List Nat) (b s : St) (k : tm.T → Option R) : Option R :=
  match getS (frOf s.L) s.al tm.slots ⟨[], [], []⟩ with
  | some g => match getL (frOf s.L) s.L tm.labs (namesC (frOf s.L) s.L tm.cups g) with
    | some g => match getC (frOf s.L) s.L tm.cups g with
      | some g =>
        let s' := tm.appL g.vs b
        if dirtyOK tm b s = true ∧ (ded (tm.slots.map (·.1) ++ tm.kill) b.al).all (fun p => p.2.labs (idOK g.m s'.L)) = true ∧
            (ded (tm.labs.map (·.1)) b.L).all (fun p => idOK g.m s'.L p.1 && dcLabs (idOK g.m s'.L) p.2) = true ∧ tm.cups.all (fun c => idOK g.m s'.L c.1 && !tm.killL.elem c.1 && !(tm.labs.map (·.1)).elem c.1) = true ∧
            (g.m.all fun p => (s'.L.map (·.1)).elem p.1) = true ∧ ks.all (fun l => idOK g.m s'.L l) = true ∧
            (s'.L.all fun p => s'.L.all fun q => goneB p.2 || goneB q.2 || decide (lk g.m p.1 = lk g.m q.1 → p.1 = q.1)) = true ∧ nodupM g.m = true then
          reqs (lenF (lenT tm.labs (g.vs.drop (nS tm.slots))) b.L) g.q (match pack tm.hs g.vs with
            | some v => k v
            | none => none) else none
      | none => none
    | none => none
  | none => none
theorem reqs_of {len : Nat → Nat} {k : Option R} : ∀ {q : List (Nat × Nat)}, (∀ p ∈ q, p.2 = len p.1) → reqs len q k = k
  | [], _ => rfl
  | (l, n) :: q, h => by
    simp only [reqs]
    rw [req_pos (h (l, n) (by simp)), reqs_of fun p hp => h p (List.mem_cons_of_mem _ hp)]
theorem leafK_ok {tm : Tm} {ks : List Nat} {b s : St} {k : tm.T → Option R} (h : tm.leafK ks b s k = some r) : ∃ v, tm.leaf ks b s = some v ∧ k v = some r := by
  unfold Tm.leafK at h
  unfold Tm.leaf
  split at h
  · rename_i g1 h1
    rw [h1]; simp only
    split at h
    · rename_i g2 h2
      rw [h2]; simp only
      split at h
      · rename_i g3 h3
        rw [h3]; simp only at h ⊢
        split at h
        · rename_i hc
          rw [if_pos hc]
          obtain ⟨hq, h⟩ := reqs_ok h
          rw [reqs_of hq]
          split at h
          · rename_i v hv; exact ⟨v, hv, h⟩
          · simp at h
        · simp at h
      · simp at h
    · simp at h
  · simp at h

def exB : Exit → Exit → Bool
  | .ret, .ret => true
  | .exit i, .exit j => Nat.beq i j
  | _, _ => false
theorem exB_ok {e e' : Exit} (h : exB e e' = true) : e = e' ∧ e ≠ .normal := by
  unfold exB at h
  split at h
  · exact ⟨rfl, by simp⟩
  · have := Nat.eq_of_beq_eq_true h; subst this; exact ⟨rfl, by simp⟩
  · simp at h
/-- The ways out of a loop. -/
@[reducible] def xty : List (Exit × Tm) → Type
  | [] => Empty
  | [x] => x.2.T
  | x :: y :: r => x.2.T ⊕ xty (y :: r)
def xleafK (ks : List Nat) (b : St) (e : Exit) (s : St) : (xs : List (Exit × Tm)) → (xty xs → Option R) → Option R
  | [], _ => none
  | [x], k => if exB e x.1 = true then x.2.leafK ks b s k else none
  | x :: y :: r, k => if exB e x.1 = true then x.2.leafK ks b s fun v => k (.inl v) else xleafK ks b e s (y :: r) fun v => k (.inr v)
def xcont (s : St) (kx : Exit → St → Option R) : (xs : List (Exit × Tm)) → xty xs → Option R
  | [], v => nomatch v
  | [x], v => kx x.1 (x.2.app v s)
  | x :: y :: r, v => match v with
    | .inl v => kx x.1 (x.2.app v s)
    | .inr v => xcont s kx (y :: r) v

inductive Hint where
  | leaf
  | seq (a b : Hint)
  | join (t : Tm) (a b : Hint)
  | joinX (t : Tm) (a b : Hint)
  | cond (a b : Hint)
  | blk (a : Hint)
  | loop (t : Tm) (xs : List (Exit × Tm)) (a : Hint)
  | reg (hs : OHs)
def Hint.one : Hint → Hint
  | .seq a _ => a
  | .cond a _ => a
  | .blk a => a
  | _ => .leaf
def Hint.two : Hint → Hint
  | .seq _ b => b
  | .cond _ b => b
  | _ => .leaf
def Hint.hs : Hint → OHs
  | .reg hs => hs
  | _ => []
end

/-- What code does to a state, as a Lean function. -/
noncomputable def D (E : Env) (G : GTab) (C : CT E) (n : Nat) : Code → Hint → (R : Type) → List Nat → St → (St → Option R) → (Exit → St → Option R) → Option R
  | .skip, _, _, _, s, kn, _ => kn s
  | .label _, _, _, _, s, kn, _ => kn s
  | .exit i, _, _, _, s, _, kx => kx (.exit i) s
  | .goto i, _, _, _, s, _, kx => kx (.goto i) s
  | .ret, _, _, _, s, _, kx => kx .ret s
  | .seq x y, h, R, ks, s, kn, kx => match h with
    | .join tm a b => (D E G C n x a tm.T ks s.clean (fun s' => tm.leafK ks s.clean s' some) (fun _ _ => none)).bind fun v => D E G C n y b R ks (tm.app v s) kn kx
    | .joinX tm a b => (D E G C n x a (tm.T ⊕ R) ks s.clean (fun s' => tm.leafK ks s.clean s' fun v => some (.inl v)) (fun e s' => Option.map Sum.inr (kx e { s' with ds := s'.ds ++ s.ds, dl := s'.dl ++ s.dl }))).bind fun o => match o with
      | .inl v => D E G C n y b R ks (tm.app v s) kn kx
      | .inr v => some v
    | h => D E G C n x h.one R ks s (fun s' => D E G C n y h.two R ks s' kn kx) kx
  | .cond c x y, h, R, ks, s, kn, kx => match c with
    | .tmp t => match lget s.al t with
      | some (.bool b) => cond b (D E G C n x h.one R ks s kn kx) (D E G C n y h.two R ks s kn kx)
      | _ => none
    | .const (.bool b) => cond b (D E G C n x h.one R ks s kn kx) (D E G C n y h.two R ks s kn kx)
    | _ => none
  | .block i c, h, R, ks, s, kn, kx => D E G C n c h.one R ks s kn fun e s' => if exB e (.exit i) = true then kn s' else kx e s'
  | .scope c, h, R, ks, s, kn, kx => D E G C n c h R ks s kn fun e s' => match e with
    | .goto _ => none
    | e => kx e s'
  | .loop c, h, R, ks, s, kn, kx => match h with
    | .loop tm xs a => if tm.kOK = true then tm.leafK ks s.clean s.clean fun v0 =>
      (loopO (fun v : tm.T => D E G C n c a (xty xs ⊕ tm.T) ks (tm.app v s.clean) (fun s' => tm.leafK ks s.clean s' fun w => some (.inr w)) (fun e s' => xleafK ks s.clean e s' xs fun w => some (.inl w))) v0).bind fun o => xcont s kx xs o else none
    | _ => none
  | .region _ ops dr, h, _, _, s, kn, _ => match dr with
    | false => dOps E G C n h.hs ops ops.toList 0 s kn
    | true => dDraw E G C n h.hs ops ops.toList 0 [] s kn
  | _, _, _, _, _, _, _ => none

theorem Ext.trans' {b s s' : St} (h : Ext b s) (h' : Ext s.clean s') : Ext b { s' with ds := s'.ds ++ s.ds, dl := s'.dl ++ s.dl } := by
  refine ⟨fun t ht => ?_, fun l hl => ?_, fun l cs0 hl h0 => ?_⟩
  · simp only [List.mem_append, not_or] at ht
    exact (h'.sl t ht.1).trans (h.sl t ht.2)
  · simp only [List.mem_append, not_or] at hl
    exact (h'.lb l fun i => (hl i).1).trans (h.lb l fun i => (hl i).2)
  · simp only [List.mem_append, not_or] at hl ⊢
    obtain ⟨cs, c1, c2, c3⟩ := h.ce l cs0 hl.2 h0
    obtain ⟨cs', d1, d2, d3⟩ := h'.ce l cs hl.1 c1
    exact ⟨cs', d1, d2.trans c2, fun i hi => (d3 i hi.1).trans (c3 i hi.2)⟩
theorem clean_ok {s : St} (h : s.ok) : s.clean.ok := h

section
variable {E : Env} {K : Nat → Prop} {n : Nat} {G : GTab} {C : CT E}

theorem xleafK_ok {ks : List Nat} {b : St} {e : Exit} {s : St} {R : Type} {r : R} (he : Ext b s) (hs : s.ok) (hb : b.ok) (hK : ∀ l, K l → l ∈ ks) (hE : GOK E) : ∀ {xs : List (Exit × Tm)} {k : xty xs → Option R}, xleafK ks b e s xs k = some r →
    ∃ v : xty xs, k v = some r ∧ ∃ x ∈ xs, ∃ w : x.2.T, e = x.1 ∧ e ≠ .normal ∧ Weak E K (dal s.al) (dlb s.L) (dal (x.2.app w b).al) (dlb (x.2.app w b).L) ∧ (x.2.app w b).ok ∧ ∀ (s0 : St) {R' : Type} (kx : Exit → St → Option R'), xcont s0 kx xs v = kx x.1 (x.2.app w s0)
  | [], k, h => by simp [xleafK] at h
  | [x], k, h => by
    simp only [xleafK] at h
    split at h
    · rename_i hx
      obtain ⟨rfl, hne⟩ := exB_ok hx
      obtain ⟨v, hv, h⟩ := leafK_ok h
      obtain ⟨hw, ho⟩ := leaf_ok hv he hs hb hK hE
      exact ⟨v, h, x, by simp, v, rfl, hne, hw, ho, fun _ _ _ => rfl⟩
    · simp at h
  | x :: y :: rr, k, h => by
    simp only [xleafK] at h
    split at h
    · rename_i hx
      obtain ⟨rfl, hne⟩ := exB_ok hx
      obtain ⟨v, hv, h⟩ := leafK_ok h
      obtain ⟨hw, ho⟩ := leaf_ok hv he hs hb hK hE
      exact ⟨.inl v, h, x, by simp, v, rfl, hne, hw, ho, fun _ _ _ => rfl⟩
    · obtain ⟨v, h, z, hz, w, e1, e2, e3, e4, e5⟩ := xleafK_ok he hs hb hK hE h
      exact ⟨.inr v, h, z, List.mem_cons_of_mem _ hz, w, e1, e2, e3, e4, fun s0 _ kx => e5 s0 kx⟩

theorem D_ok (hm : E.P.follows .mixedOrders = true) (hG : E.G = gtPV G) (hE : GOK E) {ks : List Nat} (hK : ∀ l, K l → l ∈ ks) : ∀ (c : Code) {h : Hint} {R : Type} {s : St} {kn : St → Option R} {kx : Exit → St → Option R} {r : R} {Q : Exit → Al → Lb → Prop},
    D E G C n c h R ks s kn kx = some r → s.ok → (∀ s', Up s s' → s'.ok → kn s' = some r → Q .normal (dal s'.al) (dlb s'.L)) → (∀ e s', e ≠ .normal → Up s s' → s'.ok → kx e s' = some r → Q e (dal s'.al) (dlb s'.L)) →
    AW E K n c Q (dal s.al) (dlb s.L) := by
  intro c
  induction c with
  | skip => intro h R s kn kx r Q hr ho hn hx; exact AW_skip (hn s (.refl s) ho hr)
  | label l => intro h R s kn kx r Q hr ho hn hx; exact AW_label (hn s (.refl s) ho hr)
  | exit i => intro h R s kn kx r Q hr ho hn hx; exact AW_exit (hx _ s (by simp) (.refl s) ho hr)
  | goto i => intro h R s kn kx r Q hr ho hn hx; exact AW_goto (hx _ s (by simp) (.refl s) ho hr)
  | ret => intro h R s kn kx r Q hr ho hn hx; exact AW_ret (hx _ s (by simp) (.refl s) ho hr)
  | region id ops dr =>
    intro h R s kn kx r Q hr ho hn hx
    cases dr with
    | false => exact AW_region (dOps_ok hG hE hr ho hn)
    | true => exact dDraw_ok hm hG hE (pre := []) rfl ⟨rfl, rfl, rfl, rfl, by simp, by simp, by simp⟩ hr ho hn
  | cond c x y ihx ihy =>
    intro h R s kn kx r Q hr ho hn hx
    simp only [D] at hr
    split at hr
    · rename_i t
      split at hr
      · rename_i b hb
        refine AW_cond (b := b) (by rw [lget_dal, hb]; rfl) (fun e => ?_) fun e => ?_
        · subst e; exact ihx hr ho hn hx
        · subst e; exact ihy hr ho hn hx
      · simp at hr
    · rename_i b
      refine AW_cond_const (fun e => ?_) fun e => ?_
      · subst e; exact ihx hr ho hn hx
      · subst e; exact ihy hr ho hn hx
    · simp at hr
  | block i c ih =>
    intro h R s kn kx r Q hr ho hn hx
    simp only [D] at hr
    refine AW_block (ih hr ho hn fun e s' hne hu hok hk => ?_)
    split at hk
    · rename_i he
      obtain ⟨rfl, _⟩ := exB_ok he
      simp only [ablock, if_pos]
      exact hn s' hu hok hk
    · rename_i he
      cases e with
      | exit j =>
        simp only [ablock]
        split
        · rename_i hj; subst hj; simp [exB] at he
        · exact hx _ s' hne hu hok hk
      | normal => exact absurd rfl hne
      | goto l => exact hx _ s' hne hu hok hk
      | ret => exact hx _ s' hne hu hok hk
      | panic c => exact hx _ s' hne hu hok hk
      | outgrown => exact hx _ s' hne hu hok hk
  | scope c ih =>
    intro h R s kn kx r Q hr ho hn hx
    simp only [D] at hr
    refine AW_scope (AWsc_run (ih hr ho hn fun e s' hne hu hok hk => ?_))
    cases e with
    | goto l => simp at hk
    | normal => exact absurd rfl hne
    | exit l => exact hx _ s' hne hu hok hk
    | ret => exact hx _ s' hne hu hok hk
    | panic c => exact hx _ s' hne hu hok hk
    | outgrown => exact hx _ s' hne hu hok hk
  | seq x y ihx ihy =>
    intro h R s kn kx r Q hr ho hn hx
    simp only [D] at hr
    split at hr
    · rename_i tm a b
      obtain ⟨v, hv, hr⟩ := bind_some hr
      refine AW_seq ((ihx (Q := fun e al L => e = .normal ∧ Weak E K al L (dal (tm.app v s.clean).al) (dlb (tm.app v s.clean).L) ∧ (tm.app v s.clean).ok) hv (clean_ok ho) (fun s' hu hok hk => ?_) (fun e s' hne hu hok hk => by simp at hk)).mono ?_)
      · obtain ⟨w, hw, hk⟩ := leafK_ok hk
        simp at hk; subst hk
        exact ⟨rfl, leaf_ok hw (hu _ (.refl _)) hok (clean_ok ho) hK hE⟩
      · rintro e al L ⟨rfl, hw, hok⟩
        exact AW_weak hw (ihy (s := tm.app v s) hr hok (fun s' hu => hn s' ((app_up tm v s).trans hu)) fun e s' hne hu => hx e s' hne ((app_up tm v s).trans hu))
    · rename_i tm a b
      obtain ⟨o, hv, hr⟩ := bind_some hr
      refine AW_seq ((ihx (Q := fun e al L => match o with
          | .inl v => e = .normal ∧ Weak E K al L (dal (tm.app v s.clean).al) (dlb (tm.app v s.clean).L) ∧ (tm.app v s.clean).ok
          | .inr w => e ≠ .normal ∧ Q e al L) hv (clean_ok ho) (fun s' hu hok hk => ?_) (fun e s' hne hu hok hk => ?_)).mono ?_)
      · obtain ⟨w, hw, hk⟩ := leafK_ok hk
        simp at hk; subst hk
        exact ⟨rfl, leaf_ok hw (hu _ (.refl _)) hok (clean_ok ho) hK hE⟩
      · obtain ⟨w, hk', rfl⟩ := map_some hk
        simp at hr; subst hr
        exact ⟨hne, hx e { s' with ds := s'.ds ++ s.ds, dl := s'.dl ++ s.dl } hne (fun b hb => hb.trans' (hu _ (.refl _))) hok hk'⟩
      · intro e al L hq
        cases o with
        | inl v =>
          obtain ⟨rfl, hw, hok⟩ := hq
          exact AW_weak hw (ihy (s := tm.app v s) hr hok (fun s' hu => hn s' ((app_up tm v s).trans hu)) fun e s' hne hu => hx e s' hne ((app_up tm v s).trans hu))
        | inr w =>
          obtain ⟨hne, hq⟩ := hq
          cases e with
          | normal => exact absurd rfl hne
          | _ => exact hq
    · refine AW_seq (ihx hr ho (fun s' hu hok hk => ihy hk hok (fun s'' hu' => hn s'' (hu.trans hu')) fun e s'' hne hu' => hx e s'' hne (hu.trans hu')) fun e s' hne hu hok hk => ?_)
      have := hx e s' hne hu hok hk
      cases e with
      | normal => exact absurd rfl hne
      | _ => exact this
  | loop c ih =>
    intro h R s kn kx r Q hr ho hn hx
    simp only [D] at hr
    split at hr
    · rename_i tm xs a
      split at hr
      · rename_i hkOK
        obtain ⟨v0, h0, hr⟩ := leafK_ok hr
        obtain ⟨o, hl, hr⟩ := bind_some hr
        obtain ⟨hw0, _⟩ := leaf_ok h0 (.refl _) (clean_ok ho) (clean_ok ho) hK hE
        refine AW_loopM _ (fun v => dal (tm.app v s.clean).al) (fun v => dlb (tm.app v s.clean).L)
          (fun v e al L => ∃ x ∈ xs, ∃ w : x.2.T, e = x.1 ∧ Weak E K al L (dal (x.2.app w s.clean).al) (dlb (x.2.app w s.clean).L) ∧ (x.2.app w s.clean).ok ∧ ∀ (s0 : St) {R' : Type} (kx : Exit → St → Option R'), xcont s0 kx xs v = kx x.1 (x.2.app w s0)) hl hw0 (fun v o' hst => ?_) ?_
        · have hok := app_ok hkOK v (clean_ok ho)
          have hue : Ext s.clean (tm.app v s.clean) := app_up tm v s.clean _ (.refl _)
          refine ih (s := tm.app v s.clean) hst hok (fun s' hu hok' hk => ?_) (fun e s' hne hu hok' hk => ?_)
          · obtain ⟨w, hw, hk⟩ := leafK_ok hk
            simp at hk; subst hk
            exact .on (leaf_ok hw (hu _ hue) hok' (clean_ok ho) hK hE).1
          · obtain ⟨w, hk, x, hx, u, e1, e2, e3, e4, e5⟩ := xleafK_ok (hu _ hue) hok' (clean_ok ho) hK hE hk
            simp at hk; subst hk
            exact .off e2 ⟨x, hx, u, e1, e3, e4, e5⟩
        · rintro e al L ⟨x, _, w, rfl, hw, hok, hc⟩ hne
          rw [hc] at hr
          exact ⟨_, _, hw, hx x.1 (x.2.app w s) hne (app_up x.2 w s) hok hr⟩
      · simp at hr
    · simp at hr
  | rangeFunc f ps a b => intro h R s kn kx r Q hr ho hn hx; simp [D] at hr
  | refuse => intro h R s kn kx r Q hr ho hn hx; simp [D] at hr
end
end Go.SH
namespace Go.SH

/-- The end of a function that hands out plain values. -/
def RetsO (E : Env) (fn : Func) (v : PV) : Exit → Al → Lb → Prop :=
  fun e al L => (match e with | .normal => True | .ret => True | _ => False) ∧ ∃ xs, xres E.P al L fn.results.toList = some xs ∧ OutLe L (rtup xs) v

theorem ACalls_pureO {E : Env} (hE : GOK E) {f : FuncId} {fn : Func} {c : Code} {args : List PV} {v : PV} (hf : E.P.funcs[f]? = some fn) (hb : fn.body = some c) (hn : args.length ≤ fn.ntmps)
    (h : AW (E.on none none) (fun _ => False) fn.ntmps c (RetsO (E.on none none) fn v) (entry args 0) []) : Pure E f args v := by
  intro A w σ cargs hl hv hbr hg
  refine calls_of_wp hf hb (wpIn_wide.1 (wpIn_mono (h A w σ _ ⟨?_, hbr, hg, rfl⟩ ?_) ?_))
  · intro t x hx
    obtain ⟨h1, h2⟩ := lget_entry args 0 t x hx
    simp at h2
    have ht : t < cargs.length := by rw [hl]; exact (List.getElem?_eq_some_iff.1 h2).1
    exact ⟨cargs[t], by rw [Array.getElem?_append_left (by simpa using ht)]; simp [ht], hv t x _ h2 (List.getElem?_eq_getElem ht)⟩
  · simp; omega
  · rintro e a' w' ⟨al', L', σ', ⟨he, xs, hx, z, hz, hle⟩, r', g', t'⟩
    have hdis : ∀ β, avOf σ' L' β → ¬ avo A (fun _ => none) [] β := by
      rintro β h (h' | ⟨l, c, a, s, h1, _⟩)
      · exact (r'.blocks.lo β h').2 h
      · simp [lget] at h1
    have hsub : ∀ β, ¬ avo A σ' L' β → ¬ avo A (fun _ => none) [] β := by
      rintro β h (h' | ⟨l, c, a, s, h1, _⟩)
      · exact h (.inl h')
      · simp [lget] at h1
    obtain ⟨u, h1, h2⟩ := run_results r' hx
    have h2' : VR w' (fun _ => none) (avo A (fun _ => none) []) v u := hle _ _ _ _ (hz.ok r'.blocks h2 hsub hdis)
    have hbr' : BR w' (fun _ => none) A [] := ⟨by simp [lget], by simp [lget], by simp, fun β hA => ⟨(r'.blocks.lo β hA).1, by rintro ⟨l, c, a, s, h1, _⟩; simp [lget] at h1⟩⟩
    have hgr : Grow (fun l => lget ([] : Lb) l ≠ none) w σ [] w' (fun _ => none) [] := ⟨g'.size, fun l y hk => absurd rfl hk, fun β hb hn => ⟨by rintro ⟨l, c, a, s, h1, _⟩; simp [lget] at h1, (g'.keep β hb hn).2⟩, g'.out⟩
    cases e with
    | normal => exact ⟨r'.nodefer, u, h1, _, u, [], fun _ => none, rfl, ⟨rfl, rfl⟩, h2', hbr', hgr⟩
    | ret => exact ⟨r'.nodefer, u, h1, _, u, [], fun _ => none, rfl, ⟨rfl, rfl⟩, h2', hbr', hgr⟩
    | _ => exact he.elim

def dres (P : Program) (s : St) : List ResultVar → Option (List DV)
  | [] => some []
  | .tmp t :: r => match lget s.al t with
    | some x => match dres P s r with
      | some xs => some (x :: xs)
      | none => none
    | none => none
  | .cell t T :: r => match lget s.al t with
    | some (.ptr l off) => match lget s.L l with
      | some (.cs cs) => match dpart P T cs off with
        | some x => match dres P s r with
          | some xs => some (x :: xs)
          | none => none
        | none => none
      | _ => none
    | _ => none
theorem dres_ok {P : Program} {s : St} (hs : s.ok) : ∀ {rs : List ResultVar} {xs : List DV}, dres P s rs = some xs → xres P (dal s.al) (dlb s.L) rs = some (DV.pvs xs) ∧ DV.oks xs
  | [], xs, h => by simp [dres] at h; subst h; exact ⟨rfl, trivial⟩
  | .tmp t :: r, xs, h => by
    simp only [dres] at h
    split at h
    · rename_i x hx
      split at h
      · rename_i ys hy
        simp at h; subst h
        obtain ⟨h1, h2⟩ := dres_ok hs hy
        exact ⟨by simp [xres, lget_dal, hx, h1, DV.pvs], hs.1 _ _ hx, h2⟩
      · simp at h
    · simp at h
  | .cell t T :: r, xs, h => by
    simp only [dres] at h
    split at h
    · rename_i l off ht
      split at h
      · rename_i cs hl
        split at h
        · rename_i x hx
          split at h
          · rename_i ys hy
            simp at h; subst h
            obtain ⟨h1, h2⟩ := dres_ok hs hy
            obtain ⟨_, e2, e3⟩ := dpart_ok (hs.2 _ _ hl) hx
            refine ⟨?_, e3, h2⟩
            simp only [xres, lget_dal, ht, Option.map_some, h1, DV.pvs, DV.pv]
            rw [xload_ro (cells := DV.pvs cs) (off := off) (by simp [lcells, lget_dlb, hl, DC.pv]), e2]
          · simp at h
        · simp at h
      · simp at h
    · simp at h
def dtup : List DV → DV
  | [x] => x
  | xs => .tup xs
theorem dtup_pv (xs : List DV) : (dtup xs).pv = rtup (DV.pvs xs) := by
  cases xs with
  | nil => rfl
  | cons x xs => cases xs <;> rfl

def dentry : List DV → Nat → DAl
  | [], _ => []
  | x :: r, i => (i, x) :: dentry r (i + 1)
theorem dentry_pv : ∀ (xs : List DV) (i : Nat), dal (dentry xs i) = entry (DV.pvs xs) i
  | [], _ => rfl
  | x :: r, i => by show (i, x.pv) :: dal (dentry r (i + 1)) = _; rw [dentry_pv r]; rfl
theorem dentry_ok : ∀ {xs : List DV} {i : Nat}, DV.oks xs → alOk (dentry xs i)
  | [], _, _ => fun t x h => by simp [dentry, lget] at h
  | y :: r, i, h => fun t x hx => by
    simp only [dentry, lget] at hx
    split at hx
    · simp at hx; subst hx; exact h.1
    · exact dentry_ok h.2 t x hx

/-- A function's run over typed values. -/
noncomputable def DF (E : Env) (G : GTab) (C : CT E) (n : Nat) (rs : List ResultVar) (c : Code) (h : Hint) (ar : List Sh) (out : Sh) (a : HT (Sh.hss ar)) : Option (HT out.hs) :=
  let fin (s : St) : Option (HT out.hs) := match dres E.P s rs with
    | some ds => out.getB s.L (dtup ds) ⟨[], [], []⟩ fun g => pack out.hs g.vs
    | none => none
  D E G C n c h (HT out.hs) [] ⟨dentry (Sh.mks dz0 ar (unpack _ a)).1 0, [], [], []⟩ fin fun e s => match e with
    | .ret => fin s
    | _ => none

theorem DF_ok {E : Env} {G : GTab} {C : CT E} (h0 : E.on none none = E) (hm : E.P.follows .mixedOrders = true) (hG : E.G = gtPV G) (hE : GOK E) {f : FuncId} {fn : Func} {c : Code} (hf : E.P.funcs[f]? = some fn) (hb : fn.body = some c)
    {h : Hint} {ar : List Sh} {out : Sh} (hk : Sh.kOKs ar = true) (hn : ar.length ≤ fn.ntmps) {a : HT (Sh.hss ar)} {v : HT out.hs} (hv : DF E G C fn.ntmps fn.results.toList c h ar out a = some v) :
    Pure E f (DV.pvs (Sh.mks dz0 ar (unpack _ a)).1) (out.mk dz0 (unpack _ v)).1.pv := by
  have hlen : ∀ (ss : List Sh) (vs : List TV), (Sh.mks dz0 ss vs).1.length = ss.length := by
    intro ss
    induction ss with
    | nil => intro vs; rfl
    | cons s ss ih => intro vs; simp only [Sh.mks, List.length_cons]; rw [ih]
  refine ACalls_pureO hE hf hb (by rw [pvs_length, hlen]; exact hn) ?_
  rw [h0, ← dentry_pv]
  have hfin : ∀ s : St, s.ok → (match dres E.P s fn.results.toList with
      | some ds => out.getB s.L (dtup ds) ⟨[], [], []⟩ fun g => pack out.hs g.vs
      | none => none) = some v → ∃ xs, xres E.P (dal s.al) (dlb s.L) fn.results.toList = some xs ∧ OutLe (dlb s.L) (rtup xs) (out.mk dz0 (unpack _ v)).1.pv := by
    intro s hs hr
    split at hr
    · rename_i ds hds
      obtain ⟨h1, h2⟩ := dres_ok hs hds
      obtain ⟨g, hg, xs, e1, e2, e3⟩ := getB_ok out hr
      obtain ⟨_, e4, _⟩ := e3 dz0 []
      refine ⟨_, h1, ?_⟩
      rw [← dtup_pv]
      have e5 : g.vs = xs := by rw [e1]; rfl
      rw [List.append_nil, ← e5, ← pack_ok hg] at e4
      exact e4
    · simp at hr
  exact D_ok (s := ⟨dentry (Sh.mks dz0 ar (unpack _ a)).1 0, [], [], []⟩) (K := fun _ => False) hm hG hE (fun _ h => h.elim) c hv ⟨dentry_ok (mks_ok _ _ _ hk), fun l c hl => by simp [lget] at hl⟩
    (fun s' _ hok hr => ⟨trivial, hfin s' hok hr⟩) fun e s' hne _ hok hr => by
      cases e with
      | ret => exact ⟨trivial, hfin s' hok hr⟩
      | _ => simp at hr
end Go.SH
namespace Go.SH

theorem ACalls_of_AWW {E : Env} {f : FuncId} {fn : Func} {c : Code} {args : List PV} {L L1 : Lb} {al1 : Al} {V : PV} (hf : E.P.funcs[f]? = some fn) (hb : fn.body = some c) (hn : args.length ≤ fn.ntmps) (hV : lget al1 0 = some V)
    (h : AW (E.on none none) (fun l => lget L l ≠ none) fn.ntmps c (fun e al L' => (match e with | .normal => True | .ret => True | _ => False) ∧ ∃ xs, xres E.P al L' fn.results.toList = some xs ∧ Weak (E.on none none) (fun l => lget L l ≠ none) [(0, rtup xs)] L' al1 L1) (entry args 0) L) :
    ACalls E f args L fun x L' => x = V ∧ L' = L1 := by
  intro A w σ cargs hl hv hbr hg
  refine calls_of_wp hf hb (wpIn_wide.1 (wpIn_mono (h A w σ _ ⟨?_, hbr, hg, rfl⟩ ?_) ?_))
  · intro t x hx
    obtain ⟨h1, h2⟩ := lget_entry args 0 t x hx
    simp at h2
    have ht : t < cargs.length := by rw [hl]; exact (List.getElem?_eq_some_iff.1 h2).1
    exact ⟨cargs[t], by rw [Array.getElem?_append_left (by simpa using ht)]; simp [ht], hv t x _ h2 (List.getElem?_eq_getElem ht)⟩
  · simp; omega
  · rintro e a' w' ⟨al', L', σ', ⟨he, xs, hx, hW⟩, r', g', t'⟩
    obtain ⟨v, h1, h2⟩ := run_results r' hx
    have r1 : Rel (E.on none none) A w' σ' [(0, rtup xs)] L' { tmps := #[v], defers := a'.defers } := ⟨fun t x hx => by
      simp only [lget] at hx
      split at hx
      · rename_i e; subst e; simp at hx; subst hx; exact ⟨v, rfl, h2⟩
      · simp at hx, r'.blocks, r'.globals, r'.nodefer⟩
    obtain ⟨σ2, r2, g2⟩ := hW A w' σ' _ r1
    obtain ⟨u, h3, h4⟩ := r2.tmps 0 V hV
    simp at h3; subst h3
    cases e with
    | normal => exact ⟨r'.nodefer, v, h1, _, v, L1, σ2, rfl, ⟨rfl, rfl⟩, h4, r2.blocks, g'.trans g2⟩
    | ret => exact ⟨r'.nodefer, v, h1, _, v, L1, σ2, rfl, ⟨rfl, rfl⟩, h4, r2.blocks, g'.trans g2⟩
    | _ => exact he.elim

theorem clone_law {α : Type} {a : List α} {c : Nat} {v : List α} (h : req (a.length * c ≤ maxBy) (some a) = some v) :
    (bif a.isEmpty then agree (some []) (req ((([] : List α) ++ a).length * c ≤ maxBy) <| req ((([] : List α) ++ a).length = (([] : List α) ++ a).length) (some (([] : List α) ++ a)))
      else req ((([] : List α) ++ a).length * c ≤ maxBy) <| req ((([] : List α) ++ a).length = (([] : List α) ++ a).length) (some (([] : List α) ++ a))) = some v := by
  obtain ⟨hc, h⟩ := req_some h
  show (bif a.isEmpty then agree (some []) (req (a.length * c ≤ maxBy) <| req (a.length = a.length) (some a)) else req (a.length * c ≤ maxBy) <| req (a.length = a.length) (some a)) = some v
  rw [req_pos hc, req_pos rfl, h]
  cases a with
  | nil => simp at h; subst h; exact agree_self _
  | cons x xs => rfl
/-- A function's run over typed values, with the blocks it is handed. -/
noncomputable def DI (E : Env) (G : GTab) (C : CT E) (n : Nat) (rs : List ResultVar) (c : Code) (h : Hint) (ar : List Sh) (ls : List (Nat × LSh)) (ot : Tm) (a : HT (Sh.hss ar ++ hsL ls)) : Option ot.T :=
  let b := inS ar ls (unpack _ a)
  let fin (s : St) : Option ot.T := match dres E.P s rs with
    | some ds => ot.leafK (keys ls) b ⟨[(0, dtup ds)], s.L, [0], s.dl⟩ some
    | none => none
  D E G C n c h ot.T (keys ls) ⟨dentry (inA ar ls (unpack _ a)) 0, b.L, [], []⟩ fin fun e s => match e with
    | .ret => fin s
    | _ => none

def slot0 (ot : Tm) : Bool := match ot.slots with
  | [(0, _)] => true
  | _ => false
theorem dtup_ok {ds : List DV} (h : DV.oks ds) : (dtup ds).ok := by
  cases ds with
  | nil => trivial
  | cons x xs => cases xs with
    | nil => exact h.1
    | cons y ys => exact h
theorem resV_lget {ot : Tm} (h : slot0 ot = true) (v : ot.T) {b : St} : ∃ V, lget (ot.app v b).al 0 = some V := by
  unfold slot0 at h
  split at h
  · rename_i s hs
    have : ∃ x r, (ot.app v b).al = (0, x) :: r := by
      simp only [Tm.app, Tm.appL, hs, mkS, List.cons_append, List.nil_append]
      exact ⟨_, _, rfl⟩
    obtain ⟨x, r, e⟩ := this
    exact ⟨x, by rw [e]; simp [lget]⟩
  · simp at h

theorem DI_ok {E : Env} {G : GTab} {C : CT E} (h0 : E.on none none = E) (hm : E.P.follows .mixedOrders = true) (hG : E.G = gtPV G) (hE : GOK E) {f : FuncId} {fn : Func} {c : Code} (hf : E.P.funcs[f]? = some fn) (hb : fn.body = some c)
    {h : Hint} {ar : List Sh} {ls : List (Nat × LSh)} {ot : Tm} (hk : Sh.kOKs ar = true ∧ (ls.all fun p => p.2.kOK) = true ∧ slot0 ot = true ∧ decide (ar.length ≤ fn.ntmps) = true) {a : HT (Sh.hss ar ++ hsL ls)} {v : ot.T} (hv : DI E G C fn.ntmps fn.results.toList c h ar ls ot a = some v) :
    ACalls E f (DV.pvs (inA ar ls (unpack _ a))) (dlb (inL ar ls (unpack _ a))) fun x L => x = (resV (ot.app v (inS ar ls (unpack _ a)))).pv ∧ L = dlb (ot.app v (inS ar ls (unpack _ a))).L := by
  obtain ⟨hk1, hk2, hk3, hk4⟩ := hk
  simp only [decide_eq_true_eq] at hk4
  obtain ⟨V, hV⟩ := resV_lget hk3 v (b := inS ar ls (unpack _ a))
  have hres : resV (ot.app v (inS ar ls (unpack _ a))) = V := by unfold resV; rw [hV]
  rw [hres]
  have hbok : (inS ar ls (unpack _ a)).ok := ⟨fun t x hx => by simp [inS, lget] at hx, fun l c hl => mkL_okk hk2 (l, c) (mem_of_lget hl)⟩
  refine ACalls_of_AWW hf hb (by rw [pvs_length]; unfold inA; rw [mks_len]; exact hk4) (by rw [lget_dal, hV]; rfl) ?_
  rw [h0, ← dentry_pv]
  have hfin : ∀ s : St, Up ⟨dentry (inA ar ls (unpack _ a)) 0, (inS ar ls (unpack _ a)).L, [], []⟩ s → s.ok → (match dres E.P s fn.results.toList with
      | some ds => ot.leafK (keys ls) (inS ar ls (unpack _ a)) ⟨[(0, dtup ds)], s.L, [0], s.dl⟩ some
      | none => none) = some v → ∃ xs, xres E.P (dal s.al) (dlb s.L) fn.results.toList = some xs ∧ Weak E (fun l => lget (dlb (inL ar ls (unpack _ a))) l ≠ none) [(0, rtup xs)] (dlb s.L) (dal (ot.app v (inS ar ls (unpack _ a))).al) (dlb (ot.app v (inS ar ls (unpack _ a))).L) := by
    intro s hu hs hr
    split at hr
    · rename_i ds hds
      obtain ⟨h1, h2⟩ := dres_ok hs hds
      refine ⟨_, h1, ?_⟩
      obtain ⟨w, hw, hr⟩ := leafK_ok hr
      simp at hr; subst hr
      have he := hu _ (.refl _)
      have := (leaf_ok (E := E) (K := fun l => lget (dlb (inL ar ls (unpack _ a))) l ≠ none) hw ⟨fun t ht => ?_, he.lb, he.ce⟩ ⟨fun t x hx => ?_, hs.2⟩ hbok (fun l hl => ?_) hE).1
      · rw [← dtup_pv]; exact this
      · simp only [List.mem_singleton] at ht
        simp [lget, inS, Ne.symm ht]
      · simp only [lget] at hx
        split at hx
        · simp at hx; subst hx
          exact dtup_ok h2
        · simp at hx
      · have : hasL (dlb (inL ar ls (unpack _ a))) l = true := by simpa [hasL, Option.isSome_iff_ne_none] using hl
        rw [hasL_keys] at this
        unfold inL at this
        rw [show keys (mkL (inLen ar ls (unpack _ a)) ls (Sh.mks (inLen ar ls (unpack _ a)) ar (unpack _ a)).2).1 = keys ls from mkL_keys _ _ _] at this
        simpa using this
    · simp at hr
  exact D_ok (s := ⟨dentry (inA ar ls (unpack _ a)) 0, (inS ar ls (unpack _ a)).L, [], []⟩) hm hG hE (fun l hl => by
      have : hasL (dlb (inL ar ls (unpack _ a))) l = true := by simpa [hasL, Option.isSome_iff_ne_none] using hl
      rw [hasL_keys] at this
      unfold inL at this
      rw [show keys (mkL (inLen ar ls (unpack _ a)) ls (Sh.mks (inLen ar ls (unpack _ a)) ar (unpack _ a)).2).1 = keys ls from mkL_keys _ _ _] at this
      simpa using this) c hv ⟨dentry_ok (mks_ok _ _ _ hk1), hbok.2⟩
    (fun s' hu hok hr => ⟨trivial, hfin s' hu hok hr⟩) fun e s' hne hu hok hr => by
      cases e with
      | ret => exact ⟨trivial, hfin s' hu hok hr⟩
      | _ => simp at hr
end Go.SH
set_option maxRecDepth 100000
namespace Go.SH
def tab_bounds : List (Int × Int × Int) := [(768, 879, 0), (1155, 1161, 0), (1425, 1469, 0), (1552, 1562, 0), (1611, 1631, 0), (4352, 4447, 2), (6832, 6911, 0), (7616, 7679, 0), (8203, 8207, 0), (8400, 8447, 0), (11904, 12350, 2), (12353, 42191, 2), (44032, 55203, 2), (63744, 64255, 2), (65024, 65039, 0), (65056, 65071, 0), (65072, 65135, 2), (65280, 65376, 2), (65504, 65510, 2), (127744, 128591, 2), (129280, 129535, 2), (131072, 262141, 2)]
def tab_dB64 : List UInt8 := [0, 1, 56, 2, 57, 49, 28, 3, 61, 58, 42, 50, 38, 29, 17, 4, 62, 47, 59, 36, 45, 43, 51, 22, 53, 39, 33, 30, 24, 18, 12, 5, 63, 55, 48, 27, 60, 41, 37, 16, 46, 35, 44, 21, 52, 32, 23, 11, 54, 26, 40, 15, 34, 20, 31, 10, 25, 14, 19, 9, 13, 8, 7, 6]
def GT : GTab := [(0, ⟨.tp (.ti .i32) (.tp (.ti .i32) (.ti .i32)), tab_bounds⟩), (1, ⟨.tu, tab_dB64⟩)]
abbrev K38b9 : ET := .tp (.ti .i32) (.tp (.tl (.ti .i64)) (.tl (.ti .i32)))
abbrev K86d9 : ET := .tp (.ti .i64) (.tp (.ti .i64) (.tp (.ti .i64) K38b9))
abbrev K92a5 : ET := .tp (.ti .i64) (.tp (.ti .i64) (.ti .i64))
abbrev K72c5 : ET := .tp (.tp (.ti .i32) (.ti .i32)) (.tp (.ti .i64) K92a5)
abbrev Kf613 : ET := .tp (.ti .u64) (.tp (.ti .u64) (.ti .u64))
abbrev K36e7 : ET := .tp (.ti .i64) (.tp (.ti .i64) (.tp K92a5 (.tp .tb .tb)))
abbrev K1506 : ET := .tp (.tp (.ti .u64) Kf613) (.tl (.ti .i32))
abbrev K7549 : ET := .tp (.ti .i64) (.tp (.tp K36e7 K36e7) K1506)
abbrev K91ae : ET := .tp K92a5 (.tp (.ti .i64) (.tp (.ti .i64) K7549))
abbrev K6235 : ET := .tp (.ti .i64) (.tp (.ti .i64) (.tp .tb K91ae))
abbrev K81c4 : ET := .tp (.tl (.tl (.tp (.ti .i32) K72c5))) K6235
abbrev K05d1 : ET := .tp (.tl (.tl (.tp (.ti .i32) K72c5))) K81c4
abbrev K740a : ET := .tp (.ti .i32) (.tp (.ti .i32) (.ti .i32))
def bodyOf (f : Func) : Code := f.body.getD .skip
end Go.SH
