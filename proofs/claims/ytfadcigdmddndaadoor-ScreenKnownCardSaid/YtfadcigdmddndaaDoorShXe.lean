/- That a run of the code on symbolic values tells what the code does: the whole. -/
import Derived.Test.YtfadcigdmddndaaDoorShXd
set_option linter.unusedVariables false
set_option linter.unusedSimpArgs false
namespace Go.SH

/-- How a run ends. -/
def EndS (e : Exit) (al : Al) (m : Tr) (nx : Nat) : Exit → Al → Lb → Prop := fun e1 al1 L1 => e1 = e ∧ al1 = al ∧ MR m L1 ∧ FrL nx L1

def Good (E : Env) : Task → Outc → Prop
  | .code n c al m nx lo, o => lo ≤ nx → nx ≤ maxL → TrB m nx → ∃ e al' m' nx', o = .st e al' m' nx' ∧ StOK m nx lo m' nx' ∧ ∀ K L, MR m L → FrL nx L → AW E K n c (EndS e al' m' nx') al L ∧ ∀ b, c = .loop b → AWin E K n b (EndS e al' m' nx') al L
  | .ops n ops rest al m nx lo, o => lo ≤ nx → nx ≤ maxL → TrB m nx → ∃ al' m' nx', o = .st .normal al' m' nx' ∧ StOK m nx lo m' nx' ∧ ∀ K L, MR m L → FrL nx L → AWl E K n ops rest (EndS .normal al' m' nx') al L
  | .draw n ops rest fs al m nx lo, o => lo ≤ nx → nx ≤ maxL → TrB m nx → ∃ al' m' nx', o = .st .normal al' m' nx' ∧ StOK m nx lo m' nx' ∧
      ∀ id K al0 L0 pre L, ops.toList = pre ++ rest → DInv E ops pre fs.reverse al0 L0 al L → MR m L → FrL nx L → AW E K n (.region id ops true) (EndS .normal al' m' nx') al0 L0
  | .fn f args m nx lo, o => lo ≤ nx → nx ≤ maxL → TrB m nx → ∃ v m' nx', o = .ret v m' nx' ∧ StOK m nx lo m' nx' ∧ (∀ args w, (callFunc f args).run E.P w = .ok (.enter f args) w) ∧ ∀ L, MR m L → FrL nx L → ACalls E f args L fun r L' => r = v ∧ MR m' L' ∧ FrL nx' L'

/-- What the program is asked for. -/
structure POK (E : Env) : Prop where
  g : GOK E
  mixed : E.P.follows .mixedOrders = true
  names : ∀ (f : FuncId) (fn : Func), E.P.funcs[f]? = some fn → (fn.name == "runtime.NumGoroutine") = false

theorem run_enter {E : Env} (hP : POK E) {f : FuncId} {fn : Func} (hf : E.P.funcs[f]? = some fn) (hb : fn.body.isSome = true) (args : Array Value) (w : World) : (callFunc f args).run E.P w = .ok (.enter f args) w := by
  have hn : ¬ fn.name = "runtime.NumGoroutine" := by simpa using hP.names f fn hf
  have hb' : ¬ fn.body = none := by intro h; rw [h] at hb; simp at hb
  simp [callFunc, go_sem, hf, hn, hb']

theorem xresT_ok {E : Env} {al : Al} {m : Tr} {L : Lb} (hm : MR m L) : ∀ (rs : List ResultVar) (xs : List PV), xresT E.P al m rs = some xs → xres E.P al L rs = some xs
  | [], xs, h => by simpa [xresT, xres] using h
  | .tmp t :: r, xs, h => by
    unfold xresT at h
    split at h
    · rename_i x ys h1 h2
      simp at h; subst h
      unfold xres
      rw [h1, xresT_ok hm r ys h2]
    · simp at h
  | .cell s T :: r, xs, h => by
    unfold xresT at h
    split at h
    · rename_i l off ys h1 h2
      split at h
      · rename_i cs hcs
        split at h
        · rename_i x hx
          simp at h; subst h
          unfold xres
          rw [h1, xresT_ok hm r ys h2]
          have hl := hm l cs hcs
          have : xload E.P T L (.ptr l off) = some x := by
            rw [← hx]; simp [xload, lcells, hl, lget]
          simp only [this]
        · simp at h
      · simp at h
    · simp at h

theorem EndS.weak {E : Env} {K : Nat → Prop} {n : Nat} {c : Code} {e : Exit} {al al' : Al} {m : Tr} {nx : Nat} {L : Lb} (h : AW E K n c (EndS e al' m nx) al L) : AW E K n c (EndS e al' m nx) al L := h

theorem AW_end {E : Env} {K : Nat → Prop} {n : Nat} {c : Code} {Q : Exit → Al → Lb → Prop} {e : Exit} {al al' : Al} {m : Tr} {nx : Nat} {L : Lb} (h : AW E K n c (EndS e al' m nx) al L) (hq : ∀ L', MR m L' → FrL nx L' → Q e al' L') : AW E K n c Q al L :=
  h.mono fun e1 al1 L1 ⟨h1, h2, h3, h4⟩ => by subst h1; subst h2; exact hq L1 h3 h4

section
variable {E : Env}

theorem ok_ops (ih : Task → Option Outc) (hP : POK E) (hI : ∀ t o, ih t = some o → Good E t o) {n : Nat} {ops : Array Oper} {rest : List Oper} {al : Al} {m : Tr} {nx lo : Nat} {o : Outc} (h : Xstep E.P E.G ih (.ops n ops rest al m nx lo) = some o) :
    Good E (.ops n ops rest al m nx lo) o := by
  intro hlo hmx htb
  cases rest with
  | nil =>
    simp only [Xstep, Option.some.injEq] at h; subst h
    exact ⟨al, m, nx, rfl, .refl hmx htb, fun K L h1 h2 => AWl_nil ⟨rfl, rfl, h1, h2⟩⟩
  | cons op rest =>
    obtain ⟨d, op, ty, pos, after, g⟩ := op
    simp only [Xstep] at h
    split at h
    · rename_i hw
      split at h
      · rename_i fo args ts
        split at h
        · rename_i f caps xs hf hx
          split at h
          · rename_i v m' nx' hfn
            cases hd : dstOK n d with
            | false => rw [hd] at h; simp at h
            | true =>
              rw [hd, cond_true] at h
              obtain ⟨v2, m2, nx2, e, s1, hrun, hc⟩ := hI _ _ hfn hlo hmx htb
              simp only [Outc.ret.injEq] at e
              obtain ⟨rfl, rfl, rfl⟩ := e
              obtain ⟨al3, m3, nx3, rfl, s2, hk⟩ := hI _ _ h (Nat.le_trans hlo s1.le) s1.mx s1.trb
              refine ⟨al3, m3, nx3, rfl, s1.trans s2, fun K L h1 h2 => ?_⟩
              exact AWl_callF hf hx hrun (hc L h1 h2) (dstOK_ok hd) hw fun x L' ⟨hx', h3, h4⟩ => by subst hx'; exact hk K L' h3 h4
          · simp at h
        · simp at h
      · split at h
        · rename_i x wl hx
          cases hd : dstOK n d with
          | false => rw [hd] at h; simp at h
          | true =>
            cases hwl : wlOK (rlOf E.G al m op) nx lo wl with
            | false => rw [hd, hwl] at h; simp at h
            | true =>
              rw [hd, hwl] at h
              simp only [Bool.and_self, cond_true] at h
              have hrl : AllM m (rlOf E.G al m op) := rlOf_all op
              have s1 := StOK.upd hlo hmx hrl htb hwl
              obtain ⟨al3, m3, nx3, rfl, s2, hk⟩ := hI _ _ h (Nat.le_trans hlo s1.le) s1.mx s1.trb
              refine ⟨al3, m3, nx3, rfl, s1.trans s2, fun K L h1 h2 => ?_⟩
              obtain ⟨u1, u2⟩ := upd_state hrl htb hwl h1 h2
              refine AWl_op (xop2_ok (hrl.none htb nx (Nat.le_refl _)) hx) (dstOK_ok hd) (fun _ _ h => h) (fun l y hl => hrl.sub h1 hl) (fun p hp => ?_) hw (hk K _ u1 u2)
              rcases wl_of hrl htb hwl p hp with ⟨_, e | ⟨e, _⟩⟩
              · right; rw [e]; exact h2 nx (Nat.le_refl _)
              · left; simpa [hasL, Option.isSome_iff_ne_none] using e
        · simp at h
    · rename_i hw
      cases hd : dstOK n d with
      | false => rw [hd] at h; simp at h
      | true =>
        rw [hd, cond_true] at h
        obtain ⟨al3, m3, nx3, rfl, s2, hk⟩ := hI _ _ h hlo hmx htb
        exact ⟨al3, m3, nx3, rfl, s2, fun K L h1 h2 => AWl_skip hw (dstOK_ok hd) (hk K L h1 h2)⟩
    · simp at h

theorem ok_fn (ih : Task → Option Outc) (hP : POK E) (hI : ∀ t o, ih t = some o → Good E t o) {f : FuncId} {args : List PV} {m : Tr} {nx lo : Nat} {o : Outc} (h : Xstep E.P E.G ih (.fn f args m nx lo) = some o) : Good E (.fn f args m nx lo) o := by
  intro hlo hmx htb
  simp only [Xstep] at h
  split at h
  · rename_i fn hf
    split at h
    · rename_i c hb
      cases hn : Nat.ble args.length fn.ntmps with
      | false => rw [hn] at h; simp at h
      | true =>
        rw [hn, cond_true] at h
        split at h
        · rename_i e al' m' nx' hc
          cases he : isEnd e with
          | false => rw [he] at h; simp at h
          | true =>
            rw [he, cond_true] at h
            split at h
            · rename_i xs hx
              simp at h; subst h
              obtain ⟨e2, al2, m2, nx2, ee, s1, hk⟩ := hI _ _ hc hlo hmx htb
              simp only [Outc.st.injEq] at ee
              obtain ⟨rfl, rfl, rfl, rfl⟩ := ee
              refine ⟨_, _, _, rfl, s1, run_enter hP hf (by rw [hb]; rfl), fun L h1 h2 => ?_⟩
              refine ACalls_of_AW hf hb (by simpa using hn) (AW_end (hk _ L h1 h2).1 fun L' h3 h4 => ?_)
              refine ⟨by cases e <;> first | trivial | simp [isEnd] at he, xs, xresT_ok h3 _ _ hx, rfl, h3, h4⟩
            · simp at h
        · simp at h
    · simp at h
  · simp at h

theorem ok_code (ih : Task → Option Outc) (hP : POK E) (hI : ∀ t o, ih t = some o → Good E t o) {n : Nat} {c : Code} {al : Al} {m : Tr} {nx lo : Nat} {o : Outc} (h : Xstep E.P E.G ih (.code n c al m nx lo) = some o) : Good E (.code n c al m nx lo) o := by
  intro hlo hmx htb
  simp only [Xstep] at h
  split at h
  · simp only [Option.some.injEq] at h; subst h
    exact ⟨_, _, _, _, rfl, .refl hmx htb, fun K L h1 h2 => ⟨AW_skip ⟨rfl, rfl, h1, h2⟩, fun b hb => by simp at hb⟩⟩
  · rename_i x y
    split at h
    · rename_i e al' m' nx' hx
      obtain ⟨e2, al2, m2, nx2, ee, s1, hk⟩ := hI _ _ hx hlo hmx htb
      simp only [Outc.st.injEq] at ee
      obtain ⟨rfl, rfl, rfl, rfl⟩ := ee
      split at h
      · obtain ⟨e3, al3, m3, nx3, rfl, s2, hk2⟩ := hI _ _ h (Nat.le_trans hlo s1.le) s1.mx s1.trb
        refine ⟨_, _, _, _, rfl, s1.trans s2, fun K L h1 h2 => ⟨AW_seq (AW_end (hk K L h1 h2).1 fun L' h3 h4 => ?_), fun b hb => by simp at hb⟩⟩
        exact (hk2 K L' h3 h4).1
      · rename_i hne
        simp only [Option.some.injEq] at h; subst h
        refine ⟨_, _, _, _, rfl, s1, fun K L h1 h2 => ⟨AW_seq (AW_end (hk K L h1 h2).1 fun L' h3 h4 => ?_), fun b hb => by simp at hb⟩⟩
        cases e <;> first | exact absurd rfl hne | exact ⟨rfl, rfl, h3, h4⟩
    · simp at h
  · rename_i t x y
    split at h
    · rename_i b hb
      cases b with
      | true =>
        rw [cond_true] at h
        obtain ⟨e3, al3, m3, nx3, rfl, s2, hk2⟩ := hI _ _ h hlo hmx htb
        exact ⟨_, _, _, _, rfl, s2, fun K L h1 h2 => ⟨AW_condT hb (hk2 K L h1 h2).1, fun b hb => by simp at hb⟩⟩
      | false =>
        rw [cond_false] at h
        obtain ⟨e3, al3, m3, nx3, rfl, s2, hk2⟩ := hI _ _ h hlo hmx htb
        exact ⟨_, _, _, _, rfl, s2, fun K L h1 h2 => ⟨AW_condF hb (hk2 K L h1 h2).1, fun b hb => by simp at hb⟩⟩
    · simp at h
  · rename_i b x y
    cases b with
    | true =>
      rw [cond_true] at h
      obtain ⟨e3, al3, m3, nx3, rfl, s2, hk2⟩ := hI _ _ h hlo hmx htb
      exact ⟨_, _, _, _, rfl, s2, fun K L h1 h2 => ⟨AW_cond_const (fun _ => (hk2 K L h1 h2).1) (by simp), fun b hb => by simp at hb⟩⟩
    | false =>
      rw [cond_false] at h
      obtain ⟨e3, al3, m3, nx3, rfl, s2, hk2⟩ := hI _ _ h hlo hmx htb
      exact ⟨_, _, _, _, rfl, s2, fun K L h1 h2 => ⟨AW_cond_const (by simp) (fun _ => (hk2 K L h1 h2).1), fun b hb => by simp at hb⟩⟩
  · rename_i i c
    split at h
    · rename_i e al' m' nx' hx
      obtain ⟨e2, al2, m2, nx2, ee, s1, hk⟩ := hI _ _ hx hlo hmx htb
      simp only [Outc.st.injEq] at ee
      obtain ⟨rfl, rfl, rfl, rfl⟩ := ee
      split at h
      · rename_i j
        by_cases hj : j = i
        · subst hj
          rw [show Nat.beq j j = true by rw [beq_dec]; simp, cond_true] at h
          simp only [Option.some.injEq] at h; subst h
          refine ⟨_, _, _, _, rfl, s1, fun K L h1 h2 => ⟨AW_block (AW_end (hk K L h1 h2).1 fun L' h3 h4 => ?_), fun b hb => by simp at hb⟩⟩
          simp only [ablock, if_true]
          exact ⟨rfl, rfl, h3, h4⟩
        · rw [show Nat.beq j i = false by rw [beq_dec]; simp [hj], cond_false] at h
          simp only [Option.some.injEq] at h; subst h
          refine ⟨_, _, _, _, rfl, s1, fun K L h1 h2 => ⟨AW_block (AW_end (hk K L h1 h2).1 fun L' h3 h4 => ?_), fun b hb => by simp at hb⟩⟩
          simp only [ablock]
          rw [if_neg hj]
          exact ⟨rfl, rfl, h3, h4⟩
      · rename_i hne
        simp only [Option.some.injEq] at h; subst h
        refine ⟨_, _, _, _, rfl, s1, fun K L h1 h2 => ⟨AW_block (AW_end (hk K L h1 h2).1 fun L' h3 h4 => ?_), fun b hb => by simp at hb⟩⟩
        cases e <;> first | exact absurd rfl (hne _) | exact ⟨rfl, rfl, h3, h4⟩
    · simp at h
  · rename_i c
    split at h
    · rename_i e al' m' nx' hx
      obtain ⟨e2, al2, m2, nx2, ee, s1, hk⟩ := hI _ _ hx hlo hmx htb
      simp only [Outc.st.injEq] at ee
      obtain ⟨rfl, rfl, rfl, rfl⟩ := ee
      split at h
      · obtain ⟨e3, al3, m3, nx3, rfl, s2, hk2⟩ := hI _ _ h (Nat.le_trans hlo s1.le) s1.mx s1.trb
        have main : ∀ K L, MR m L → FrL nx L → AWin E K n c (EndS e3 al3 m3 nx3) al L := fun K L h1 h2 =>
          AWin_round (AW_end (hk K L h1 h2).1 fun L' h3 h4 => AWin_weak (Weak.subG fun t x hx => raOf_sub hx) ((hk2 K L' h3 h4).2 c rfl))
        exact ⟨_, _, _, _, rfl, s1.trans s2, fun K L h1 h2 => ⟨AW_loopI (main K L h1 h2), fun b hb => by simp at hb; subst hb; exact main K L h1 h2⟩⟩
      · rename_i hne
        simp only [Option.some.injEq] at h; subst h
        have main : ∀ K L, MR m L → FrL nx L → AWin E K n c (EndS e al' m' nx') al L := fun K L h1 h2 =>
          AWin_round (AW_end (hk K L h1 h2).1 fun L' h3 h4 => by cases e <;> first | exact absurd rfl hne | exact ⟨rfl, rfl, h3, h4⟩)
        exact ⟨_, _, _, _, rfl, s1, fun K L h1 h2 => ⟨AW_loopI (main K L h1 h2), fun b hb => by simp at hb; subst hb; exact main K L h1 h2⟩⟩
    · simp at h
  · simp only [Option.some.injEq] at h; subst h
    exact ⟨_, _, _, _, rfl, .refl hmx htb, fun K L h1 h2 => ⟨AW_exit ⟨rfl, rfl, h1, h2⟩, fun b hb => by simp at hb⟩⟩
  · simp only [Option.some.injEq] at h; subst h
    exact ⟨_, _, _, _, rfl, .refl hmx htb, fun K L h1 h2 => ⟨AW_ret ⟨rfl, rfl, h1, h2⟩, fun b hb => by simp at hb⟩⟩
  · simp only [Option.some.injEq] at h; subst h
    exact ⟨_, _, _, _, rfl, .refl hmx htb, fun K L h1 h2 => ⟨AW_label ⟨rfl, rfl, h1, h2⟩, fun b hb => by simp at hb⟩⟩
  · obtain ⟨al3, m3, nx3, rfl, s2, hk2⟩ := hI _ _ h hlo hmx htb
    exact ⟨_, _, _, _, rfl, s2, fun K L h1 h2 => ⟨AW_region (hk2 K L h1 h2), fun b hb => by simp at hb⟩⟩
  · rename_i id ops
    obtain ⟨al3, m3, nx3, rfl, s2, hk2⟩ := hI _ _ h hlo hmx htb
    refine ⟨_, _, _, _, rfl, s2, fun K L h1 h2 => ⟨hk2 id K al L [] L rfl ⟨rfl, rfl, rfl, rfl, by simp, by simp, by simp⟩ h1 h2, fun b hb => by simp at hb⟩⟩
  · simp at h
end
end Go.SH
