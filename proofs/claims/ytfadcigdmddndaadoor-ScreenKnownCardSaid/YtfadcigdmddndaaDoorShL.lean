/- copy, make, joined texts, texts as bytes and bytes as texts. -/
import Derived.Test.YtfadcigdmddndaaDoorShK
set_option linter.unusedVariables false
set_option linter.unusedSimpArgs false
namespace Go.SH

section
variable {E : Env} {d : Option Tmp} {ty : TypeId} {pos : String} {after : Array Edge} {g : Option (Nat × Bool)} {ra : Al} {rl : Lb}

theorem slc_mono {rl L : Lb} (e2 : ∀ l y, lget rl l = some y → lget L l = some y) {sz n : Nat} {q : PV} {cs : List PV} (h : SlC rl sz q cs n) : SlC L sz q cs n := by
  obtain ⟨h2, h3⟩ := h
  refine ⟨h2, ?_⟩
  cases q <;> first | exact h3 | skip
  obtain ⟨a1, a2, cs, a3, a4⟩ := h3
  exact ⟨a1, a2, cs, e2 _ _ a3, a4⟩

theorem firstCells_of {P : Program} {w : World} {σ : Sig} {A : Nat → Prop} {L : Lb} (hb : BR w σ A L) {p : PV} {v : Value} (hv : VR w σ (avo A σ L) p v) {sz n m : Nat} {cells : List PV} (h : SlC L sz p cells n) (hm : m ≤ n) :
    ∃ us : List Value, us.length = m * sz ∧ (∀ (i : Nat) (x : PV), (cells.take (m * sz))[i]? = some x → ∃ u, us[i]? = some u ∧ VR w σ (avo A σ L) x u) ∧ (Builtin.firstCells sz m v).run P w = .ok us.toArray w := by
  obtain ⟨a, cap, rfl, hn, hc⟩ := slc_ok hb hv h
  have hl := h.1
  have hmn : m * sz ≤ n * sz := Nat.mul_le_mul_right _ hm
  rcases hc with rfl | ⟨β, o, rfl, hc⟩
  · have : m * sz = 0 := by simp at hl; omega
    refine ⟨[], by simp [this], by simp, ?_⟩
    cases a with
    | none => simp [Builtin.firstCells]
    | some a => simp [Builtin.firstCells, this, loadCells, loadCellsFrom]
  · let f : Nat → Value := fun j => ((w.cell? ⟨β, o + j, none⟩).getD undef)
    refine ⟨(List.range (m * sz)).map f, by simp, fun i x hx => ?_, ?_⟩
    · rw [List.getElem?_take] at hx
      split at hx
      · rename_i hi
        obtain ⟨u, h1, h2⟩ := hc i x hx
        exact ⟨u, by simp [List.getElem?_range hi, f, h1], h2⟩
      · simp at hx
    · refine run_firstCells_some w sz m ⟨β, o, none⟩ n cap _ (by simp) fun j u hu => ?_
      have hj : j < m * sz := by have := (List.getElem?_eq_some_iff.1 hu).1; simpa using this
      simp [List.getElem?_range hj] at hu
      obtain ⟨u', h1, h2⟩ := hc j _ (List.getElem?_eq_getElem (by omega))
      rw [addr_add, h1]
      simp [f, h1] at hu
      rw [hu]

theorem AOp_copy {T tx e : TypeId} {ie : TypeInfo} {x y : Operand} {l off n : Nat} {co : Option Nat} {q : PV} {cells cont : List PV} {k m : Nat} (hx : xev E.G ra x = some (.rw l off n ie.size co)) (hy : xev E.G ra y = some q)
    (hT : E.P.underlying T = some (.slice e)) (he : E.P.info? e = some ie) (hcl : lget rl l = some (some cells)) (hin : off + n * ie.size ≤ cells.length) (hs : SlC rl ie.size q cont k) (h1 : cont.all PV.one = true)
    (hm : m = Nat.min k n) : AOp E ⟨d, .call ⟨.builtin .copy, #[x, y], #[T, tx]⟩, ty, pos, after, g⟩ ra rl (.int .i64 m) [(l, some (splice cells off (cont.take (m * ie.size))))] := by
  intro A w σ al L a r e1 e2 e3
  have hv := xev_ok r e1 hx
  have hw := xev_ok r e1 hy
  have hL := e2 _ _ hcl
  have hs' := slc_mono e2 hs
  have hmk : m ≤ k := by rw [hm]; exact Nat.min_le_left _ _
  have hmn : m ≤ n := by rw [hm]; exact Nat.min_le_right _ _
  obtain ⟨us, u1, u2, u3⟩ := firstCells_of (P := E.P) r.blocks hw hs' hmk
  have hone : ∀ v ∈ us, v.oneCell' = true := by
    intro u hu
    obtain ⟨i, hi, rfl⟩ := List.mem_iff_getElem.1 hu
    have hkm : m * ie.size ≤ k * ie.size := Nat.mul_le_mul_right _ hmk
    have hi' : i < (cont.take (m * ie.size)).length := by rw [List.length_take, hs.1]; omega
    obtain ⟨v, h5, h6⟩ := u2 i _ (List.getElem?_eq_getElem hi')
    rw [List.getElem?_eq_getElem hi] at h5
    simp at h5; rw [h5]
    exact one_ok h6 (List.all_eq_true.1 h1 _ (List.mem_of_mem_take (List.getElem_mem hi')))
  obtain ⟨ay, capy, hey, _⟩ := slc_ok r.blocks hw hs'
  have hlen : (Builtin.lenOf (a.eval y)).run E.P w = .ok k w := by rw [hey]; rfl
  have hkm : m * ie.size ≤ k * ie.size := Nat.mul_le_mul_right _ hmk
  have hnm : m * ie.size ≤ n * ie.size := Nat.mul_le_mul_right _ hmn
  have htl : (cont.take (m * ie.size)).length = m * ie.size := by rw [List.length_take, hs.1]; omega
  unfold Oper.wp
  generalize hex : a.eval x = vx at hv
  have hmin : k.min n = m := hm.symm
  cases hv with
  | rwE a' hc =>
    have hm0 : m = 0 := by omega
    subst hm0
    have hu0 : us = [] := List.eq_nil_of_length_eq_zero (by simpa using u1)
    subst hu0
    have hrun : (execOp a.eval ⟨d, .call ⟨.builtin .copy, #[x, y], #[T, tx]⟩, ty, pos, after, g⟩).run E.P w = .ok (.value (.int .i64 (0 : Nat))) w := by
      simp only [execOp, resolve, invoke, builtin]
      cases a' <;> simp [Builtin.copy_, run_underlying hT, hex, run_sizeOf' he, hlen, hmin, u3, storeCells, goInt]
    rw [hrun]
    have hsp : splice cells off (cont.take (0 * ie.size)) = cells := by simp [splice]
    have hw0 : lset L l (some cells) = lset L l (some cells) := rfl
    have hgoal : BR w σ A (lset L l (some cells)) ∧ Grow top w σ L w σ (lset L l (some cells)) := by
      rcases r.blocks.all l cells hL with ⟨h3, h4⟩ | ⟨β, add, size, c, TT, fr, hB⟩
      · subst h4
        have heq : ∀ k, lget (lset L l (some [])) k = lget L k := by
          intro k; rw [lget_lset]; split
          · rename_i hk; rw [← hk, hL]
          · rfl
        have hav : ∀ γ, avOf σ (lset L l (some [])) γ ↔ avOf σ L γ := by
          intro γ; simp only [avOf, heq]
        have havo : ∀ γ, avo A σ (lset L l (some [])) γ ↔ avo A σ L γ := by intro γ; simp only [avo, hav]
        have hg : Grow top w σ L w σ (lset L l (some [])) := ⟨Nat.le_refl _, fun _ _ _ h => h, fun γ _ hn => ⟨fun h => hn ((hav γ).1 h), rfl⟩, rfl, rfl, rfl⟩
        refine ⟨⟨fun k c hk => ?_, fun k k' c c' γ a s a' s' hk hk' => ?_, fun k y hy => ?_, fun γ hA => ?_⟩, hg⟩
        · rw [heq] at hk
          rcases r.blocks.all k c hk with h | ⟨γ, a2, s2, c2, T2, f2, hB⟩
          · exact .inl h
          · exact .inr ⟨γ, a2, s2, c2, T2, f2, ⟨hB.sig, hB.heap, hB.hsz, hB.fits, fun i x hx => let ⟨v, h1, h2⟩ := hB.vals i x hx; ⟨v, h1, h2.grow hg⟩, hB.frs⟩⟩
        · rw [heq] at hk hk'; exact r.blocks.inj k k' c c' γ a s a' s' hk hk'
        · rw [heq]; exact r.blocks.dom k y hy
        · obtain ⟨h1, h2⟩ := r.blocks.lo γ hA; exact ⟨h1, fun h => h2 ((hav γ).1 h)⟩
      · exact r.blocks.write hL hB rfl (fun _ _ => rfl) hB.heap hB.hsz hB.fits hB.vals
    refine ⟨σ, _, rfl, .int _ _, ?_, ?_⟩
    · show BR w σ A (lset L l (some (splice cells off (cont.take (0 * ie.size))))); rw [hsp]; exact hgoal.1
    · show Grow top w σ L w σ (lset L l (some (splice cells off (cont.take (0 * ie.size))))); rw [hsp]; exact hgoal.2
  | @rw _ _ _ _ _ β add size cap hsg hle hc hsz =>
    rcases r.blocks.all l cells hL with ⟨h3, h4⟩ | ⟨β', add', size', c, TT, fr, hB⟩
    · rw [hsg] at h3; simp at h3
    · have hsig := hB.sig; rw [hsg] at hsig; simp at hsig
      obtain ⟨rfl, rfl, rfl⟩ := hsig
      have hcs := hB.hsz
      have hfits := hB.fits
      obtain ⟨w', c', t1, t2, t3, t4, t5, t6, t7⟩ := storeCells_ok (P := E.P) (o := add + off) us 0 w c hB.heap (by omega) (by intro j hj hj'; exact hB.free j (by omega) (by omega)) hone
      have hrun : (execOp a.eval ⟨d, .call ⟨.builtin .copy, #[x, y], #[T, tx]⟩, ty, pos, after, g⟩).run E.P w = .ok (.value (.int .i64 m)) w' := by
        simp only [execOp, resolve, invoke, builtin]
        simp [Builtin.copy_, run_underlying hT, hex, run_sizeOf' he, hlen, hmin, u3, t1, goInt]
      rw [hrun]
      obtain ⟨b1, b2⟩ := r.blocks.write hL (cells' := splice cells off (cont.take (m * ie.size))) hB t2 t3 t4 (by omega) (by rw [length_splice (by omega)]; exact hfits) (by
        intro j y hy
        rw [getElem?_splice (by omega)] at hy
        rw [t6]
        by_cases hj : off ≤ j ∧ j < off + (cont.take (m * ie.size)).length
        · rw [if_pos hj] at hy
          rw [if_pos (by omega)]
          obtain ⟨u, hu, huv⟩ := u2 _ y hy
          exact ⟨u, by rw [← hu]; congr 1; omega, huv⟩
        · rw [if_neg hj] at hy
          rw [if_neg (by omega)]
          exact hB.vals j y hy)
      exact ⟨σ, _, rfl, .int _ _, b1, b2⟩

/-- 'make' of a slice. -/
theorem AOp_makeSlice {T e : TypeId} {ie : TypeInfo} {x y : Operand} {n c : Nat} {k k' : IntKind} {z : List PV} (lab : Nat) (hx : xev E.G ra x = some (.int k n)) (hy : xev E.G ra y = some (.int k' c)) (hT : E.P.underlying T = some (.slice e))
    (he : E.P.info? e = some ie) (hz : zcells E.P e = some z) (hzl : z.length = ie.size) (hpos : 0 < ie.size) (hnc : n ≤ c) (hb : c * ie.bytes ≤ 140737488355328) (hc2 : c ≤ 9223372036854775807) (hrl : lget rl lab = none) :
    AOp E ⟨d, .makeSlice T x y, ty, pos, after, g⟩ ra rl (.rw lab 0 n ie.size (some c)) [(lab, some (zrow z (c * ie.size)))] := by
  refine AOp_new (fun A w σ al L a r h1 h2 => ?_) hrl
  have hv := xev_ok r h1 hx
  have hw := xev_ok r h1 hy
  generalize hex : a.eval x = vx at hv
  cases hv
  generalize hey : a.eval y = vy at hw
  cases hw
  obtain ⟨it, zv, z1, z2, z3⟩ := zc hz
  rw [he] at z1; simp at z1; subst z1
  have wr : ∀ m : Nat, m ≤ 9223372036854775807 → IntKind.i64.wrap (m : Int) = m := by
    intro m hm
    exact IntWalk.i64_in _ ⟨by omega, by omega⟩
  obtain ⟨l1, l2⟩ := zrow_vals (w := w) (σ := σ) (av := avo A σ L) z3 (c * ie.size) (.inr (by omega))
  refine ⟨(Array.range (c * ie.size)).map (zv.cells[· % zv.cells.size]!), e, .slice (some ⟨w.heap.size, 0, none⟩) n c, ?_, by simp [zrow], l2, fun w' σ' av' hs => .rw (off := 0) hs hnc (by simp) (by simp)⟩
  have b1 : ¬ ((ie.bytes : Int) * (c : Int) > 2 ^ 48) := by
    have : (ie.bytes : Int) * (c : Int) = ((c * ie.bytes : Nat) : Int) := by rw [Nat.mul_comm]; simp
    rw [this]; omega
  have b2 : ¬ ((c : Int) < n) := by omega
  have b3 : ¬ ((n : Int) > c) := by omega
  have b4 : (281474976710656 < (ie.bytes : Int) * (c : Int)) = False := eq_false (by simpa using b1)
  have b5 : ((c : Int) < 0) = False := eq_false (by omega)
  have b6 : ((n : Int) < 0) = False := eq_false (by omega)
  have b7 : (c < n) = False := eq_false (by omega)
  by_cases h0 : c * ie.size = 0
  · have hc0 : c = 0 := by
      rcases Nat.mul_eq_zero.1 h0 with h | h
      · exact h
      · omega
    subst hc0
    have hn0 : n = 0 := by omega
    subst hn0
    have w0 : IntKind.i64.wrap 0 = 0 := IntWalk.i64_in _ ⟨by omega, by omega⟩
    have hr0 : Array.range 0 = #[] := rfl
    simp [execOp, Instr.makeSlice, run_underlying hT, hex, hey, asInt, asIntOf, typeInfo, he, w0, sizeOf, newRow, hr0]
  · simp [execOp, Instr.makeSlice, run_underlying hT, hex, hey, asInt, asIntOf, typeInfo, he, wr n (by omega), wr c hc2, b2, sizeOf, zeroValue, z2, h0, newRow, b4, b5, b6, b7]

theorem AOp_strAdd {T yt : TypeId} {x y : Operand} {s t : List UInt8} (hx : xev E.G ra x = some (.str s)) (hy : xev E.G ra y = some (.str t)) (hb : s.length + t.length ≤ 9223372036854775807) :
    AOp E ⟨d, .binOp .add T x y yt, ty, pos, after, g⟩ ra rl (.str (s ++ t)) [] := by
  refine AOp_val fun A w σ al L a r h1 h2 => ⟨.string ⟨⟨s ++ t⟩⟩, ?_, .str _⟩
  have hv := xev_ok r h1 hx
  have hw := xev_ok r h1 hy
  generalize hex : a.eval x = vx at hv
  cases hv
  generalize hey : a.eval y = vy at hw
  cases hw
  have h3 := run_string_add_sum (P := E.P) w ⟨⟨s⟩⟩ ⟨⟨t⟩⟩ hb
  have h4 : (⟨⟨s⟩⟩ : ByteArray) ++ ⟨⟨t⟩⟩ = ⟨⟨s ++ t⟩⟩ := by
    apply ByteArray.ext; simp [ByteArray.data_append]
  rw [h4] at h3
  have h5 : (eqGuard .add T x y (.string ⟨⟨s⟩⟩) (.string ⟨⟨t⟩⟩)).run E.P w = .ok () w := run_eqGuard_str
  simp only [execOp, hex, hey, Sem.run_bind, h5, Result.andThen_ok, binOp, h3]
  simp

def bytesPV (s : List UInt8) : List PV := s.map fun b => .int .u8 b.toNat

theorem foldl_push (s : List UInt8) : ∀ (acc : ByteArray), (s.map fun b : UInt8 => (b.toNat : Int)).foldl (fun r n => r.push (UInt8.ofNat n.toNat)) acc = ⟨⟨acc.data.toList ++ s⟩⟩ := by
  induction s with
  | nil => intro acc; simp
  | cons b s ih =>
    intro acc
    simp only [List.map_cons, List.foldl_cons]
    rw [ih]
    simp

/-- Bytes as a text. -/
theorem AOp_bytesStr {s t e : TypeId} {x : Operand} {p : PV} {bs : List UInt8} (hx : xev E.G ra x = some p) (hs : E.P.underlying s = some (.slice e)) (he : E.P.underlying e = some (.int .u8)) (ht : E.P.underlying t = some .string)
    (hc : SlC rl 1 p (bytesPV bs) bs.length) : AOp E ⟨d, .convert s t x, ty, pos, after, g⟩ ra rl (.str bs) [] := by
  refine AOp_val fun A w σ al L a r h1 h2 => ⟨.string ⟨⟨bs⟩⟩, ?_, .str _⟩
  have hv := xev_ok r h1 hx
  have hc' := slc_mono h2 hc
  obtain ⟨us, u1, u2, u3⟩ := first_ok (P := E.P) r.blocks hv hc'
  obtain ⟨ad, cap, hex, _, _⟩ := slc_ok r.blocks hv hc'
  have hus : us = (bs.map fun b : UInt8 => (b.toNat : Int)).map (Value.int .u8) := by
    apply List.ext_getElem?
    intro i
    by_cases hi : i < bs.length
    · obtain ⟨u, h5, h6⟩ := u2 i (.int .u8 bs[i].toNat) (by simp [bytesPV, hi])
      rw [h5]
      cases h6
      simp [hi]
    · rw [List.getElem?_eq_none (by omega), List.getElem?_eq_none (by simp; omega)]
  have h3 := u3 w rfl
  rw [hex] at h3
  have hconv : (convert s t (a.eval x)).run E.P w = .ok (.string ⟨⟨bs⟩⟩) w := by
    rw [hex, run_convert_bytes_string w s t e ad _ cap hs he ht]
    cases ad with
    | none =>
      simp [Builtin.firstCells] at h3
      subst h3
      have : bs = [] := List.eq_nil_of_length_eq_zero (by simpa using u1.symm)
      subst this
      simp [Conv.bytesToString]
      rfl
    | some ad =>
      simp only [Builtin.firstCells, Nat.mul_one] at h3
      rw [hus] at h3
      rw [run_bytesToString w ad bs.length cap _ h3, foldl_push]
      rfl
  simp [execOp, hconv]

end
end Go.SH
