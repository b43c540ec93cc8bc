/- Part 5 of: ScreenPages: the first page is as it was, cursor and pen too, when the other one was shown and is no longer, whatever was done there but for resizing and beginning anew; of at most 20 rows and columns, at most 60 changes on either page. -/
import Derived.Test.YtfadcigdmddndaaDoorD
set_option linter.unusedVariables false
set_option linter.unusedSimpArgs false
namespace Go.SH
theorem loop_upd {α:Type} {step:Int × List α → Option (List α ⊕ (Int × List α))} {n off N:Nat} {u:Nat → Option α} {g0:List α}
    (hin:∀ (k:Nat) (g:List α),k < n → g.length = N → (∀ i,off + k ≤ i → g[i]? = g0[i]?) → step ((k:Int),g) = some (.inr (((k + 1:Nat):Int),match u k with | some v=>g.set (k + off) v | none=>g)))
    (hend:∀ g:List α,step ((n:Int),g) = some (.inl g)):∀ (m k:Nat) (g:List α),k + m = n → g.length = N → (∀ i,off + k ≤ i → g[i]? = g0[i]?) →
    ∃ g',loopO step ((k:Int),g) = some g' ∧ g'.length = N ∧ ∀ i,i < N → g'[i]? = if off + k ≤ i ∧ i < off + n then (match u (i - off) with | some v=>some v | none=>g[i]?) else g[i]?
  | 0,k,g,hk,hg,_=>by
    have:k = n:=by omega
    subst this
    refine ⟨g,by rw [loopO_eq,hend],hg,fun i _=>?_⟩
    rw [if_neg (by omega)]
  | m + 1,k,g,hk,hg,hold=>by
    rw [loopO_eq,hin k g (by omega) hg hold]
    have hlen:(match u k with | some v=>g.set (k + off) v | none=>g).length = N:=by
      cases u k <;> simp [hg]
    have hget:∀ i,i ≠ k + off → (match u k with | some v=>g.set (k + off) v | none=>g)[i]? = g[i]?:=fun i hi=>by
      cases u k with
      | none=>rfl
      | some v=>simp only;rw [List.getElem?_set_ne (by omega)]
    obtain ⟨g',h1,h2,h3⟩:=loop_upd hin hend m (k + 1) (match u k with | some v=>g.set (k + off) v | none=>g) (by omega) hlen fun i hi=>by rw [hget i (by omega)];exact hold i (by omega)
    refine ⟨g',h1,h2,fun i hi=>?_⟩
    rw [h3 i hi]
    by_cases e:i = k + off
    · subst e
      rw [if_neg (by omega),if_pos (by omega),show k + off - off = k from by omega]
      cases u k with
      | none=>rfl
      | some v=>simp only;rw [List.getElem?_set_self (by omega)]
    · by_cases e2:off + k ≤ i ∧ i < off + n
      · rw [if_pos (by omega),if_pos e2,hget i e]
      · rw [if_neg (by omega),if_neg e2,hget i e]
theorem req_refl {R α:Type} {a:α} {i:Decidable (a = a)} {k:Option R}:@req R (a = a) i k = k:=req_pos rfl
theorem req_tt {R:Type} {i:Decidable True} {k:Option R}:@req R True i k = k:=req_pos trivial
def gok (g:GridT) (R C:Nat):Prop:=g.length = R ∧ ∀ l ∈ g,l.length = C ∧ mayLine l = true
def szR (R C:Nat):Prop:=1 ≤ R ∧ R ≤ 200 ∧ 1 ≤ C ∧ C ≤ 200
theorem gok_width {g:GridT} {R C:Nat} (h:gok g R C) (hs:szR R C):widthG g = C:=by
  cases g with
  | nil=>have:=h.1;simp at this;unfold szR at hs;omega
  | cons l r=>exact (h.2 l (by simp)).1
theorem gok_may {g:GridT} {R C:Nat} (h:gok g R C) (hs:szR R C):mayGrid g = true:=by
  have hw:=gok_width h hs
  unfold szR at hs
  unfold mayGrid
  rw [hw,h.1,dec_t (by omega:1 ≤ R ∧ R ≤ 200),dec_t (by omega:1 ≤ C ∧ C ≤ 200)]
  simp only [Bool.true_and,List.all_eq_true,Bool.and_eq_true,beq_iff_eq]
  exact h.2
theorem may_gok {g:GridT} (h:mayGrid g = true):∃ R C,szR R C ∧ gok g R C:=by
  simp only [mayGrid,Bool.and_eq_true,decide_eq_true_eq,List.all_eq_true,beq_iff_eq] at h
  exact ⟨g.length,widthG g,⟨h.1.1,h.1.2,h.2.1.1,h.2.1.2⟩,rfl,h.2.2⟩
theorem sizedM_iff {g:GridT} {rows cols:Int}:sizedM g rows cols = true ↔ ∃ R C:Nat,rows = R ∧ cols = C ∧ szR R C ∧ gok g R C:=by
  unfold sizedM
  simp only [Bool.and_eq_true,beq_iff_eq]
  constructor
  · rintro ⟨h1,h2,h3⟩
    obtain ⟨R,C,hs,hg⟩:=may_gok h1
    exact ⟨R,C,by rw [← h2,hg.1],by rw [← h3,gok_width hg hs],hs,hg⟩
  · rintro ⟨R,C,rfl,rfl,hs,hg⟩
    exact ⟨gok_may hg hs,by rw [hg.1],by rw [gok_width hg hs]⟩
theorem blankG_gok {R C:Nat} {p:PenT} (hp:mayPen p = true) (hs:szR R C):gok (blankG R C p) R C:=by
  unfold blankG szR at *
  refine ⟨by simp,fun l hl=>?_⟩
  rw [(List.mem_replicate.1 hl).2]
  exact ⟨blankL_len _ _,mayLine_iff.2 ⟨by rw [blankL_len];omega,blankL_seg hp _⟩⟩
theorem gok_get {g:GridT} {R C:Nat} (h:gok g R C) {i:Nat} (hi:i < R):∃ l,g[i]? = some l ∧ l.length = C ∧ mayLine l = true:=by
  have hi':i < g.length:=by rw [h.1];exact hi
  exact ⟨g[i],List.getElem?_eq_getElem hi',(h.2 _ (List.getElem_mem hi')).1,(h.2 _ (List.getElem_mem hi')).2⟩
theorem gok_set {g:GridT} {R C:Nat} (h:gok g R C) {i:Nat} {l:List CellT} (hl:l.length = C ∧ mayLine l = true):gok (g.set i l) R C:=
  ⟨by simp [h.1],fun x hx=>by
    rcases List.mem_or_eq_of_mem_set hx with h1 | rfl
    · exact h.2 x h1
    · exact hl⟩
theorem gok_of {g:GridT} {R C:Nat} (h1:g.length = R) (h2:∀ (i:Nat) l,g[i]? = some l → l.length = C ∧ mayLine l = true):gok g R C:=
  ⟨h1,fun l hl=>let ⟨i,hi⟩:=List.getElem?_of_mem hl;h2 i l hi⟩
theorem copied_grid {g:GridT} (hg:g.length ≤ 200) (hl:∀ l ∈ g,l.length ≤ 1000):grid_copied_3fa g = some g:=by
  unfold grid_copied_3fa
  simp only [Int.toNat_natCast]
  rw [req_pos (by unfold maxBy;omega)]
  obtain ⟨g',h1,h2,h3⟩:=loop_upd (step:=grid_copied_3fa_loop1 g) (n:=g.length) (off:=0) (N:=g.length) (u:=fun k=>g[k]?) (g0:=List.replicate g.length [])
    (fun k x hk hx hold=>by
      unfold grid_copied_3fa_loop1
      rw [dec_t (by omega:(k:Int) < ((g.length:Nat):Int))]
      simp only [Option.bind_some,cond_true,Int.toNat_natCast,List.getElem?_eq_getElem hk]
      rw [req_pos (by omega),Clone_4da_r,Clone_eq (hl _ (List.getElem_mem hk))]
      simp only [Option.bind_some]
      rw [req_pos (by omega),List.getElem?_eq_getElem (by omega:k < x.length)]
      simp only [Option.bind_some]
      rw [w64id (by omega)];rfl)
    (fun x=>by unfold grid_copied_3fa_loop1;simp) g.length 0 (List.replicate g.length []) (by omega) (by simp) (fun _ _=>rfl)
  have e:loopO (grid_copied_3fa_loop1 g) (0,List.replicate g.length []) = some g':=h1
  rw [e]
  simp only [Option.bind_some]
  have:g' = g:=by
    refine List.ext_getElem? fun i=>?_
    by_cases hi:i < g.length
    · rw [h3 i hi,if_pos (by omega)]
      simp [List.getElem?_eq_getElem hi]
    · rw [List.getElem?_eq_none (by omega),List.getElem?_eq_none (by omega)]
  rw [this,req_pos rfl]
theorem drop_app {α:Type} {X D:List α} {n:Nat} (h:X.length ≤ n):(X ++ D).drop n = D.drop (n - X.length):=by
  rw [List.drop_append,List.drop_eq_nil_of_le h,List.nil_append]
def clampK (h:Nat) (n:Int):Int:=if (if (h:Int) < n then (h:Int) else n) > -(h:Int) then (if (h:Int) < n then (h:Int) else n) else -(h:Int)
theorem clampK_r (h:Nat) (n:Int):-(h:Int) ≤ clampK h n ∧ clampK h n ≤ h:=by
  unfold clampK
  split
  · split <;> omega
  · omega
/-- Some rows went up, or down. -/
def scrollN (g:GridT) (T B:Nat) (k:Int) (b:List CellT):GridT:=
  let h:=B + 1 - T
  if 0 ≤ k then g.take T ++ (((g.drop T).take h).drop k.toNat ++ (List.replicate k.toNat b ++ g.drop (B + 1)))
  else g.take T ++ (List.replicate (-k).toNat b ++ (((g.drop T).take (h - (-k).toNat)) ++ g.drop (B + 1)))
def scrollM (g:GridT) (T B:Nat) (n:Int) (p:PenT):GridT:=scrollN g T B (clampK (B + 1 - T) n) (blankL (widthG g) p)
theorem line_Blank_92f_r:line_Blank_92f = line_Blank:=rfl
theorem scroll_len {g:GridT} {T B:Nat} {k:Int} {b:List CellT} (h1:T ≤ B) (h2:B < g.length) (h3:-((B + 1 - T:Nat):Int) ≤ k ∧ k ≤ ((B + 1 - T:Nat):Int)):(scrollN g T B k b).length = g.length:=by
  unfold scrollN
  simp only
  split
  · simp only [List.length_append,List.length_take,List.length_drop,List.length_replicate];omega
  · simp only [List.length_append,List.length_take,List.length_drop,List.length_replicate];omega
theorem scrollN_mem {g:GridT} {T B:Nat} {k:Int} {b l:List CellT} (h:l ∈ scrollN g T B k b):l ∈ g ∨ l = b:=by
  unfold scrollN at h
  simp only at h
  split at h
  · simp only [List.mem_append] at h
    rcases h with h | h | h | h
    · exact .inl (List.mem_of_mem_take h)
    · exact .inl (List.mem_of_mem_drop (List.mem_of_mem_take (List.mem_of_mem_drop h)))
    · exact .inr (List.mem_replicate.1 h).2
    · exact .inl (List.mem_of_mem_drop h)
  · simp only [List.mem_append] at h
    rcases h with h | h | h | h
    · exact .inl (List.mem_of_mem_take h)
    · exact .inr (List.mem_replicate.1 h).2
    · exact .inl (List.mem_of_mem_drop (List.mem_of_mem_take h))
    · exact .inl (List.mem_of_mem_drop h)
theorem scrollM_gok {g:GridT} {R C T B:Nat} {n:Int} {p:PenT} (hg:gok g R C) (hs:szR R C) (hp:mayPen p = true) (h1:T ≤ B) (h2:B < R):gok (scrollM g T B n p) R C:=by
  unfold scrollM
  rw [gok_width hg hs]
  refine ⟨by rw [scroll_len h1 (by rw [hg.1];exact h2) (clampK_r _ _),hg.1],fun l hl=>?_⟩
  rcases scrollN_mem hl with h | rfl
  · exact hg.2 l h
  · unfold szR at hs
    exact ⟨blankL_len _ _,mayLine_iff.2 ⟨by rw [blankL_len];omega,blankL_seg hp _⟩⟩
theorem Scroll_fill {g x:GridT} {off n C:Nat} {p:PenT} (hn:n ≤ 200) (hp:mayPen p = true) (hx:off + n ≤ x.length) {b:List CellT} (hg:g[0]? = some b) (hb:b.length = C) (hC:C ≤ 200) (hgl:0 < g.length) {y:Nat × Nat × GridT} (hy1:y.1 = off) (hy2:y.2.1 = n) :
    loopO (grid_Scroll_274_loop1 y g p) (0,x) = some (x.take off ++ (List.replicate n (blankL C p) ++ x.drop (off + n))):=by
  obtain ⟨g',h1,h2,h3⟩:=loop_upd (step:=grid_Scroll_274_loop1 y g p) (n:=n) (off:=off) (N:=x.length) (u:=fun _=>some (blankL C p)) (g0:=x)
    (fun k z hk hz hold=>by
      unfold grid_Scroll_274_loop1
      rw [hy2,hy1]
      rw [dec_t (by omega:(k:Int) < ((n:Nat):Int))]
      simp only [Option.bind_some,cond_true,Int.toNat_natCast]
      rw [req_pos (by omega)]
      rw [show (0:Int).toNat = 0 from rfl,hg]
      simp only [Option.bind_some,line_Blank_92f_r,hb]
      rw [line_Blank_eq (by omega) hp]
      simp only [Option.bind_some]
      rw [req_pos (by omega),List.getElem?_eq_getElem (by omega:k + off < z.length)]
      simp only [Option.bind_some]
      rw [w64id (by omega)];rfl)
    (fun z=>by unfold grid_Scroll_274_loop1;rw [hy2];simp) n 0 x (by omega) rfl (fun _ _=>rfl)
  have e:loopO (grid_Scroll_274_loop1 y g p) (0,x) = some g':=h1
  rw [e]
  congr 1
  refine List.ext_getElem? fun i=>?_
  by_cases hi:i < x.length
  · rw [h3 i hi]
    by_cases h5:i < off
    · rw [if_neg (by omega),List.getElem?_append_left (by simp;omega),List.getElem?_take_of_lt h5]
    · rw [List.getElem?_append_right (by simp;omega)]
      have e1:i - (x.take off).length = i - off:=by simp;omega
      rw [e1]
      by_cases h6:i < off + n
      · rw [if_pos (by omega),List.getElem?_append_left (by simp;omega),List.getElem?_replicate,if_pos (by omega)]
      · rw [if_neg (by omega),List.getElem?_append_right (by simp;omega),List.getElem?_drop]
        congr 1;simp;omega
  · rw [List.getElem?_eq_none (by omega),List.getElem?_eq_none (by simp;omega)]
theorem Scroll_eq {g:GridT} {R C T B:Nat} {n:Int} {p:PenT} (hg:gok g R C) (hs:szR R C) (hp:mayPen p = true) (h1:T ≤ B) (h2:B < R) (hn:-1000000 ≤ n ∧ n ≤ 1000000):grid_Scroll_274 (T:Int) (B:Int) n p g = some (scrollM g T B n p):=by
  have hm:=gok_may hg hs
  have hlen:g.length = R:=hg.1
  have hsz:=hs
  unfold szR at hsz
  obtain ⟨b,hb1,hb2,hb3⟩:=gok_get hg (i:=0) (by omega)
  unfold grid_Scroll_274 scrollM
  rw [gok_width hg hs]
  rw [req_refl,grid_May_eq (by omega),hm]
  simp only [pen_May_eq,hp,Option.bind_some,Bool.not_true,cond_false,req_refl,req_tt]
  rw [copied_grid (by omega) (fun l hl=>by have:=(hg.2 l hl).1;omega)]
  simp only [Option.bind_some]
  rw [dec_f (by omega:¬ (T:Int) < 0),dec_f (by omega:¬ (T:Int) > (B:Int)),dec_f (by omega:¬ (B:Int) ≥ ((g.length:Nat):Int))]
  simp only [cond_false,Option.bind_some]
  have e1:IntKind.i64.wrap ((B:Int) + 1) = ((B + 1:Nat):Int):=by rw [w64id (by omega)];omega
  simp only [e1,Int.toNat_natCast]
  rw [req_pos (by omega)]
  obtain ⟨h,hh⟩:∃ h,B + 1 - T = h:=⟨_,rfl⟩
  have e2:IntKind.i64.wrap ((0:Int) - ((h:Nat):Int)) = -(h:Int):=by rw [w64id (by omega)];omega
  simp only [hh,e2]
  have e3:(if (if ((h:Nat):Int) < n then ((h:Nat):Int) else n) > -(h:Int) then (if ((h:Nat):Int) < n then ((h:Nat):Int) else n) else -(h:Int)) = clampK h n:=rfl
  simp only [e3]
  have hK:=clampK_r h n
  generalize clampK h n = K at *
  by_cases hK0:0 ≤ K
  · obtain ⟨k,rfl⟩:∃ k:Nat,K = k:=⟨K.toNat,by omega⟩
    rw [dec_t (by omega:((k:Nat):Int) ≥ 0)]
    have e4:IntKind.i64.wrap (((h:Nat):Int) - (k:Int)) = ((h - k:Nat):Int):=by rw [w64id (by omega)];omega
    simp only [cond_true,Option.bind_some,Int.toNat_natCast,e4]
    rw [req_pos (by omega),req_pos (by omega),req_pos (by omega),req_pos (by omega)]
    simp only [Option.bind_some]
    have hx:(List.take (h - k) (List.drop (k + T) g)).length = h - k:=by simp;omega
    have ec:cpy g T (List.take (h - k) (List.drop (k + T) g)) (min (List.take (h - k) (List.drop (k + T) g)).length h) = g.take T ++ ((g.drop (k + T)).take (h - k) ++ g.drop (T + (h - k))):=by
      unfold cpy
      rw [hx,Nat.min_eq_left (by omega),List.take_take,Nat.min_self]
    simp only [ec]
    rw [Scroll_fill (C:=C) (off:=h - k + T) (n:=k) (by omega) hp (by simp;omega) hb1 hb2 (by omega) (by omega) rfl (by simp only;omega)]
    simp only [Option.bind_some]
    have fin:List.take (h - k + T) (g.take T ++ ((g.drop (k + T)).take (h - k) ++ g.drop (T + (h - k)))) ++ (List.replicate k (blankL C p) ++ List.drop (h - k + T + k) (g.take T ++ ((g.drop (k + T)).take (h - k) ++ g.drop (T + (h - k))))) = scrollN g T B (k:Int) (blankL C p):=by
      unfold scrollN
      simp only [hh,Int.toNat_natCast]
      rw [if_pos (by omega)]
      have l1:(g.take T ++ (g.drop (k + T)).take (h - k)).length = h - k + T:=by simp;omega
      have eA:g.take T ++ ((g.drop (k + T)).take (h - k) ++ g.drop (T + (h - k))) = (g.take T ++ (g.drop (k + T)).take (h - k)) ++ g.drop (T + (h - k)):=(List.append_assoc _ _ _).symm
      rw [eA,List.take_left' l1,drop_app (by rw [l1];omega),l1,List.drop_drop,List.append_assoc]
      congr 2
      · rw [List.drop_take,List.drop_drop];congr 2;omega
      · congr 2;omega
    rw [fin,req_pos (scroll_len h1 (by omega) (by rw [hh];omega)).symm]
  · obtain ⟨k,rfl⟩:∃ k:Nat,K = -(k:Int):=⟨(-K).toNat,by omega⟩
    rw [dec_f (by omega:¬ (-(k:Int)) ≥ 0)]
    have e4:IntKind.i64.wrap ((0:Int) - -(k:Int)) = ((k:Nat):Int):=by rw [w64id (by omega)];omega
    simp only [cond_false,Option.bind_some,e4,Int.toNat_natCast]
    rw [req_pos (by omega),req_pos (by omega),req_pos (by omega),req_pos (by omega)]
    simp only [Option.bind_some]
    have hx:(List.take h (List.drop T g)).length = h:=by simp;omega
    have ec:cpy g (k + T) (List.take h (List.drop T g)) (min (List.take h (List.drop T g)).length (h - k)) = g.take (k + T) ++ ((g.drop T).take (h - k) ++ g.drop (T + h)):=by
      unfold cpy
      rw [hx,Nat.min_eq_right (by omega),List.take_take]
      congr 2
      · congr 1;omega
      · congr 1;omega
    simp only [ec]
    rw [Scroll_fill (C:=C) (off:=0 + T) (n:=k) (by omega) hp (by simp;omega) hb1 hb2 (by omega) (by omega) rfl rfl]
    simp only [Option.bind_some]
    have fin:List.take (0 + T) (g.take (k + T) ++ ((g.drop T).take (h - k) ++ g.drop (T + h))) ++ (List.replicate k (blankL C p) ++ List.drop (0 + T + k) (g.take (k + T) ++ ((g.drop T).take (h - k) ++ g.drop (T + h)))) = scrollN g T B (-(k:Int)) (blankL C p):=by
      unfold scrollN
      simp only [hh,Int.neg_neg,Int.toNat_natCast]
      rw [if_neg (by omega)]
      have l1:(g.take (k + T)).length = 0 + T + k:=by simp;omega
      rw [List.drop_left' l1,List.take_append_of_le_length (by rw [l1];omega),List.take_take,show min (0 + T) (k + T) = T from by omega,show T + h = B + 1 from by omega]
    rw [fin,req_pos (scroll_len h1 (by omega) (by rw [hh];omega)).symm]
end Go.SH
namespace Go.SH
def placeB (g:GridT) (x:Int × Int):Bool:=decide (0 ≤ x.1) && (decide (x.1 < g.length) && (decide (0 ≤ x.2) && decide (x.2 < widthG g)))
theorem place_eq {g:GridT} {b:List CellT} (hg:g[0]? = some b) (x:Int × Int):grid_Erase_1_df0 x g = some (placeB g x):=by
  have hl:0 < g.length:=(List.getElem?_eq_some_iff.1 hg).1
  unfold grid_Erase_1_df0 placeB
  rw [widthG_get hg]
  rw [show decide (x.1 ≥ 0) = decide (0 ≤ x.1) from rfl,show decide (x.2 ≥ 0) = decide (0 ≤ x.2) from rfl]
  have e:(req (0 ≤ (0:Int) ∧ (0:Int) < ((g.length:Nat):Int)) ((g[(0:Int).toNat]?).bind fun x1=>some (decide (x.2 < (x1.length:Int)))):Option Bool) = some (decide (x.2 < (b.length:Int))):=by
    rw [req_pos (by omega),show (0:Int).toNat = 0 from rfl,hg];rfl
  rw [e]
  cases decide (0 ≤ x.1) <;> cases decide (x.1 < ((g.length:Nat):Int)) <;> cases decide (0 ≤ x.2) <;> cases decide (x.2 < (b.length:Int)) <;> rfl
/-- A row of an erased grid. -/
def eraseRow (w:Nat) (f t:Int × Int) (p:PenT) (r:Nat) (l:List CellT):List CellT:=
  if f.1 ≤ (r:Int) ∧ (r:Int) ≤ t.1 then eraseM l (if (r:Int) = f.1 then f.2 else 0) (if (r:Int) = t.1 then t.2 + 1 else (w:Int)) p else l
def eraseG (g:GridT) (f t:Int × Int) (p:PenT):GridT:=bif placeB g f && placeB g t then g.mapIdx (eraseRow (widthG g) f t p) else g
theorem eraseG_gok {g:GridT} {R C:Nat} {f t:Int × Int} {p:PenT} (hg:gok g R C) (hp:mayPen p = true):gok (eraseG g f t p) R C:=by
  unfold eraseG
  cases (placeB g f && placeB g t) with
  | false=>exact hg
  | true=>
    refine gok_of (by simp [hg.1]) fun i l hi=>?_
    simp only [cond_true,List.getElem?_mapIdx,Option.map_eq_some_iff] at hi
    obtain ⟨x,hx,rfl⟩:=hi
    have h:=hg.2 x (List.mem_of_getElem? hx)
    unfold eraseRow
    split
    · obtain ⟨k1,k2⟩:=eraseM_may (f:=if (i:Int) = f.1 then f.2 else 0) (t:=if (i:Int) = t.1 then t.2 + 1 else ((widthG g:Nat):Int)) h.2 hp
      exact ⟨k2.trans h.1,k1⟩
    · exact h
theorem EraseG_eq {g:GridT} {R C:Nat} {f t:Int × Int} {p:PenT} (hg:gok g R C) (hs:szR R C) (hp:mayPen p = true):grid_Erase_5db f t p g = some (eraseG g f t p):=by
  have hm:=gok_may hg hs
  have hlen:g.length = R:=hg.1
  have hsz:=hs
  unfold szR at hsz
  obtain ⟨b,hb1,hb2,hb3⟩:=gok_get hg (i:=0) (by omega)
  unfold grid_Erase_5db eraseG
  rw [req_refl,grid_May_eq (by omega),hm]
  simp only [pen_May_eq,hp,Option.bind_some,Bool.not_true,cond_false,req_refl,req_tt]
  rw [copied_grid (by omega) (fun l hl=>by have:=(hg.2 l hl).1;omega)]
  simp only [Option.bind_some,place_eq hb1]
  have eC:((bif !placeB g f then some true else bif !placeB g t then some true else some false:Option Bool)) = some (!(placeB g f && placeB g t)):=by
    cases placeB g f <;> cases placeB g t <;> rfl
  rw [eC]
  simp only [Option.bind_some]
  cases hpl:(placeB g f && placeB g t) with
  | false=>simp only [Bool.not_false,cond_true,cond_false]
  | true=>
    simp only [Bool.not_true,cond_true,cond_false]
    simp only [placeB,Bool.and_eq_true,decide_eq_true_eq] at hpl
    obtain ⟨⟨f1,f2,f3,f4⟩,t1,t2,t3,t4⟩:=hpl
    have hw:=gok_width hg hs
    rw [hw] at f4 t4 ⊢
    obtain ⟨fr,fc⟩:=f
    obtain ⟨tr,tc⟩:=t
    simp only at f1 f2 f3 f4 t1 t2 t3 t4 ⊢
    obtain ⟨F,rfl⟩:∃ k:Nat,fr = k:=⟨fr.toNat,by omega⟩
    obtain ⟨T,rfl⟩:∃ k:Nat,tr = k:=⟨tr.toNat,by omega⟩
    have hin:∀ (k:Nat) (x:GridT),k < T + 1 → x.length = R → (∀ i:Nat,0 + k ≤ i → x[i]? = g[i]?) → grid_Erase_5db_loop1 ((T:Int),tc) g ((F:Int),fc) g p ((k:Int),x) = some (.inr (((k + 1:Nat):Int),match (g[k]?).map (fun l=>eraseM l (if (k:Int) = (F:Int) then fc else 0) (if (k:Int) = (T:Int) then tc + 1 else (C:Int)) p) with | some v=>x.set (k + 0) v | none=>x)):=fun k x hk hx hold=>by
      obtain ⟨l,hl1,hl2,hl3⟩:=gok_get hg (i:=k) (by omega)
      have hxk:x[k]? = some l:=by rw [hold k (by omega)];exact hl1
      unfold grid_Erase_5db_loop1
      simp only
      rw [dec_t (by omega:(k:Int) ≤ (T:Int))]
      simp only [Option.bind_some,cond_true,Int.toNat_natCast]
      rw [req_pos (by omega),show (0:Int).toNat = 0 from rfl,hb1]
      simp only [Option.bind_some,hb2]
      have ea:((bif (k:Int) == (F:Int) then some true else some false:Option Bool).bind fun x27=>bif x27 then some fc else some 0) = some (if (k:Int) = (F:Int) then fc else 0):=by
        by_cases e:(k:Int) = (F:Int)
        · simp [e]
        · have:((k:Int) == (F:Int)) = false:=by simpa using e
          rw [this,if_neg e];rfl
      have eb:((bif (k:Int) == (T:Int) then some true else some false:Option Bool).bind fun x30=>bif x30 then some (IntKind.i64.wrap (tc + 1)) else some ((C:Nat):Int)) = some (if (k:Int) = (T:Int) then tc + 1 else (C:Int)):=by
        by_cases e:(k:Int) = (T:Int)
        · rw [if_pos e,e]
          simp only [beq_self_eq_true,cond_true,Option.bind_some]
          rw [w64id (by omega)]
        · have:((k:Int) == (T:Int)) = false:=by simpa using e
          rw [this,if_neg e];rfl
      rw [ea,eb]
      simp only [Option.bind_some]
      rw [req_pos (by omega),hxk]
      simp only [Option.bind_some]
      rw [Erase_eq hl3 hp]
      simp only [Option.bind_some]
      rw [req_pos (by omega)]
      rw [hl1,w64id (by omega)]
      simp only [Option.map_some]
      rfl
    have hend:∀ x:GridT,grid_Erase_5db_loop1 ((T:Int),tc) g ((F:Int),fc) g p (((T + 1:Nat):Int),x) = some (.inl x):=fun x=>by
      unfold grid_Erase_5db_loop1
      simp only
      rw [dec_f (by omega:¬ ((T + 1:Nat):Int) ≤ (T:Int))];rfl
    by_cases hFT:F ≤ T + 1
    · obtain ⟨g',h1,h2,h3⟩:=loop_upd (step:=grid_Erase_5db_loop1 ((T:Int),tc) g ((F:Int),fc) g p) (n:=T + 1) (off:=0) (N:=R) (u:=fun k=>(g[k]?).map (fun l=>eraseM l (if (k:Int) = (F:Int) then fc else 0) (if (k:Int) = (T:Int) then tc + 1 else (C:Int)) p)) (g0:=g) (fun k x hk hx hold=>(hin k x hk hx hold).trans (by cases g[k]? <;> rfl)) hend (T + 1 - F) F g (by omega) hlen (fun _ _=>rfl)
      rw [h1]
      simp only [Option.bind_some]
      have:g' = g.mapIdx (eraseRow C ((F:Int),fc) ((T:Int),tc) p):=by
        refine List.ext_getElem? fun i=>?_
        rw [List.getElem?_mapIdx]
        by_cases hi:i < R
        · rw [h3 i hi]
          obtain ⟨l,hl1,_,_⟩:=gok_get hg hi
          by_cases hc:0 + F ≤ i ∧ i < 0 + (T + 1)
          · rw [if_pos hc,show i - 0 = i from rfl,hl1]
            have:eraseRow C ((F:Int),fc) ((T:Int),tc) p i l = eraseM l (if (i:Int) = (F:Int) then fc else 0) (if (i:Int) = (T:Int) then tc + 1 else (C:Int)) p:=by
              unfold eraseRow
              rw [if_pos (by simp only;omega)]
            simp only [Option.map_some,this]
          · rw [if_neg hc,hl1]
            have:eraseRow C ((F:Int),fc) ((T:Int),tc) p i l = l:=by
              unfold eraseRow
              rw [if_neg (by simp only;omega)]
            simp [this]
        · rw [List.getElem?_eq_none (by omega),List.getElem?_eq_none (by omega)];rfl
      rw [this,req_pos (by simp)]
    · rw [loopO_eq]
      have:grid_Erase_5db_loop1 ((T:Int),tc) g ((F:Int),fc) g p ((F:Int),g) = some (.inl g):=by
        unfold grid_Erase_5db_loop1
        simp only
        rw [dec_f (by omega:¬ (F:Int) ≤ (T:Int))];rfl
      rw [this]
      simp only [Option.bind_some]
      have:g.mapIdx (eraseRow C ((F:Int),fc) ((T:Int),tc) p) = g:=by
        refine List.ext_getElem? fun i=>?_
        rw [List.getElem?_mapIdx]
        cases g[i]? with
        | none=>rfl
        | some l=>
          simp only [Option.map_some]
          unfold eraseRow
          rw [if_neg (by simp only;omega)]
      rw [this];exact req_tt
def fitG (g:GridT) (R C gone:Nat):GridT:=(List.range R).map fun i=>match g[gone + i]? with
  | some l=>fitM l C
  | none=>blankL C (0,0,0)
theorem Blank_d8f_r:grid_Blank_d8f = grid_Blank_d0d:=rfl
theorem fitG_gok {g:GridT} {R C R' C' gone:Nat} (hg:gok g R C) (hs:szR R' C'):gok (fitG g R' C' gone) R' C':=by
  unfold szR at hs
  refine gok_of (by simp [fitG]) fun i l hi=>?_
  unfold fitG at hi
  rw [List.getElem?_map] at hi
  obtain ⟨k,hk,rfl⟩:=Option.map_eq_some_iff.1 hi
  cases hx:g[gone + k]? with
  | none=>exact ⟨blankL_len _ _,mayLine_iff.2 ⟨by rw [blankL_len];omega,blankL_seg (by decide) _⟩⟩
  | some x=>
    have h:=hg.2 x (List.mem_of_getElem? hx)
    obtain ⟨k1,k2⟩:=fitM_may (n:=C') h.2 (by omega)
    exact ⟨k2,k1⟩
theorem FitG_eq {g:GridT} {R C R' C' gone:Nat} (hg:gok g R C) (hs:szR R C) (hs':szR R' C') (hgo:gone ≤ R):grid_Fit_3da (R':Int) (C':Int) (gone:Int) g = some (fitG g R' C' gone):=by
  have hm:=gok_may hg hs
  have hlen:g.length = R:=hg.1
  have hsz:=hs
  have hsz':=hs'
  unfold szR at hsz hsz'
  unfold grid_Fit_3da
  rw [req_refl,grid_May_eq (by omega),hm]
  simp only [grid_side_eq,Option.bind_some,Bool.not_true,cond_false]
  rw [dec_t (by omega:1 ≤ (R':Int) ∧ (R':Int) ≤ 200),dec_t (by omega:1 ≤ (C':Int) ∧ (C':Int) ≤ 200),dec_f (by omega:¬ (gone:Int) < 0),dec_f (by omega:¬ (gone:Int) > ((g.length:Nat):Int))]
  simp only [Bool.not_true,cond_false,Option.bind_some]
  rw [Blank_d8f_r,grid_Blank_d0d_eq ⟨hsz'.1,hsz'.2.1⟩ ⟨hsz'.2.2.1,hsz'.2.2.2⟩ (by decide)]
  simp only [Option.bind_some]
  rw [req_pos (by omega)]
  have hbl:(blankG R' C' (0,0,0)).length = R':=by simp [blankG]
  obtain ⟨g',h1,h2,h3⟩:=loop_upd (step:=grid_Fit_3da_loop1 g (gone:Int) (R':Int) (C':Int) (blankG R' C' (0,0,0))) (n:=R - gone) (off:=0) (N:=R') (u:=fun k=>if k < R' then (g[gone + k]?).map (fun l=>fitM l C') else none) (g0:=blankG R' C' (0,0,0))
    (fun k x hk hx hold=>by
      obtain ⟨l,hl1,hl2,hl3⟩:=gok_get hg (i:=gone + k) (by omega)
      unfold grid_Fit_3da_loop1
      simp only [Int.toNat_natCast]
      rw [dec_t (by omega:(k:Int) < ((g.length - gone:Nat):Int))]
      simp only [Option.bind_some,cond_true]
      rw [req_pos (by omega),show k + gone = gone + k from by omega,hl1]
      simp only [Option.bind_some]
      by_cases h:k < R'
      · rw [dec_t (by omega:(k:Int) < (R':Int)),if_pos h]
        simp only [cond_true,Option.bind_some,Option.map_some]
        rw [Fit_eq hl3 (by omega)]
        simp only [Option.bind_some]
        rw [req_pos (by omega),List.getElem?_eq_getElem (by omega:k < x.length)]
        simp only [Option.bind_some]
        rw [w64id (by omega)];rfl
      · rw [dec_f (by omega:¬ (k:Int) < (R':Int)),if_neg h]
        simp only [cond_false,Option.bind_some]
        rw [w64id (by omega)];rfl)
    (fun x=>by
      unfold grid_Fit_3da_loop1
      simp only [Int.toNat_natCast]
      rw [dec_f (by omega:¬ ((R - gone:Nat):Int) < ((g.length - gone:Nat):Int))];rfl) (R - gone) 0 (blankG R' C' (0,0,0)) (by omega) hbl (fun _ _=>rfl)
  have e:loopO (grid_Fit_3da_loop1 g (gone:Int) (R':Int) (C':Int) (blankG R' C' (0,0,0))) (0,blankG R' C' (0,0,0)) = some g':=h1
  rw [e]
  simp only [Option.bind_some]
  have:g' = fitG g R' C' gone:=by
    refine List.ext_getElem? fun i=>?_
    unfold fitG
    rw [List.getElem?_map]
    by_cases hi:i < R'
    · rw [h3 i hi,List.getElem?_range hi]
      simp only [Option.map_some]
      by_cases hc:0 + 0 ≤ i ∧ i < 0 + (R - gone)
      · rw [if_pos hc,show i - 0 = i from rfl,if_pos hi]
        obtain ⟨l,hl1,hl2,hl3⟩:=gok_get hg (i:=gone + i) (by omega)
        rw [hl1];rfl
      · rw [if_neg hc,List.getElem?_eq_none (by omega:g.length ≤ gone + i)]
        simp only [blankG]
        rw [List.getElem?_replicate,if_pos hi]
    · rw [List.getElem?_eq_none (by omega),List.getElem?_eq_none (by simp;omega)];rfl
  rw [this,req_pos (by rw [hbl];simp [fitG])]
end Go.SH
namespace Go.SH
theorem bt (c:Bool):(bif c then some true else some false:Option Bool) = some c:=by cases c <;> rfl
theorem bt2 (a b:Bool):(bif a then some b else some false:Option Bool) = some (a && b):=by cases a <;> cases b <;> rfl
/-- The group of a number: is it one, is it the background's. -/
def grp (n:Int):Bool × Int:=
  if 30 ≤ n ∧ n < 40 then (true,30) else if 40 ≤ n ∧ n < 50 then (true,40) else if 90 ≤ n ∧ n < 98 then (true,30) else if 100 ≤ n ∧ n < 108 then (true,40) else (false,0)
theorem pen_plane_eq (n:Int):pen_plane n = some ((grp n).2,(grp n).1):=by
  have key:pen_plane n = bif decide (30 ≤ n) && decide (n < 50) then some (IntKind.i64.wrap ((IntKind.i64.wrap (Int.tdiv n 10)) * 10),true) else
      bif (decide (90 ≤ n) && decide (n < 98)) || (decide (100 ≤ n) && decide (n < 108)) then some (IntKind.i64.wrap ((IntKind.i64.wrap ((IntKind.i64.wrap (Int.tdiv n 10)) * 10)) - 60),true) else some (0,false):=by
    unfold pen_plane
    simp only [ge_iff_le]
    cases decide (30 ≤ n) <;> cases decide (n < 50) <;> cases decide (90 ≤ n) <;> cases decide (n < 98) <;> cases decide (100 ≤ n) <;> cases decide (n < 108) <;> rfl
  rw [key]
  unfold grp
  by_cases h1:30 ≤ n ∧ n < 50
  · rw [dec_t h1.1,dec_t h1.2,Int.tdiv_eq_ediv_of_nonneg (by omega)]
    simp only [Bool.and_self,cond_true,w64]
    by_cases h2:n < 40
    · rw [if_pos ⟨h1.1,h2⟩];congr 2;omega
    · rw [if_neg (by omega),if_pos (by omega)];congr 2;omega
  · have e:(decide (30 ≤ n) && decide (n < 50)) = false:=by simp;omega
    rw [e,if_neg (by omega),if_neg (by omega)]
    simp only [cond_false]
    by_cases h2:90 ≤ n ∧ n < 98
    · rw [dec_t h2.1,dec_t h2.2,if_pos h2,Int.tdiv_eq_ediv_of_nonneg (by omega)]
      simp only [Bool.and_self,Bool.true_or,cond_true,w64]
      congr 2;omega
    · rw [if_neg h2]
      have e:(decide (90 ≤ n) && decide (n < 98)) = false:=by simp;omega
      rw [e]
      by_cases h3:100 ≤ n ∧ n < 108
      · rw [dec_t h3.1,dec_t h3.2,if_pos h3,Int.tdiv_eq_ediv_of_nonneg (by omega)]
        simp only [Bool.and_self,Bool.or_true,cond_true,w64]
        congr 2;omega
      · rw [if_neg h3]
        have e:(decide (100 ≤ n) && decide (n < 108)) = false:=by simp;omega
        rw [e];rfl
/-- The bit of a place. -/
def bitv:Nat → Int
  | 0=>1 | 1=>2 | 2=>4 | 3=>8 | 4=>16 | 6=>32 | 7=>64 | 8=>128 | _=>0
theorem pen_bitOf_all:∀ i:_root_.Fin 9,pen_bitOf (i.val:Int) = some (bitv i.val):=by decide +kernel
theorem pen_bitOf_eq (i:Nat) (h:i ≤ 8):pen_bitOf (i:Int) = some (bitv i):=pen_bitOf_all ⟨i,by omega⟩
def isB (x:Int):Bool:=decide (0 ≤ x) && decide (x ≤ 255)
theorem colour1_step {l:List Int} {i:Nat} {x:Int} (h:l[i]? = some x) (hb:l.length < 9223372036854775807):pen_colour_1_loop1 l (i:Int) = some (bif isB x then .inr ((i + 1:Nat):Int) else .inl (.inl ())):=by
  have hlt:i < l.length:=(List.getElem?_eq_some_iff.1 h).1
  have e1:decide ((i:Int) < (l.length:Int)) = true:=by simp;omega
  have e2:IntKind.i64.wrap ((i:Int) + 1) = ((i + 1:Nat):Int):=by rw [w64];omega
  simp only [pen_colour_1_loop1,e1,cond_true,getI_nat,h,Option.bind_some,e2,isB]
  by_cases h1:x < 0
  · have:¬ 0 ≤ x:=by omega
    simp [h1,this]
  · by_cases h2:x > 255
    · have:¬ x ≤ 255:=by omega
      simp [h1,h2,this]
    · have h3:x ≤ 255:=by omega
      have h4:0 ≤ x:=by omega
      simp [h1,h2,h3,h4]
theorem colour1_end (l:List Int):pen_colour_1_loop1 l (l.length:Int) = some (.inl (.inr ())):=by simp [pen_colour_1_loop1]
theorem colour1_loop (l:List Int):∀ (m i:Nat),l.length - i = m → i ≤ l.length → l.length < 9223372036854775807 → loopO (pen_colour_1_loop1 l) (i:Int) = some (bif (l.drop i).all isB then .inr () else .inl ()):=by
  intro m
  induction m with
  | zero=>
    intro i hm hi hb
    have:i = l.length:=by omega
    subst this
    rw [loopO_eq,colour1_end]
    simp
  | succ m ih=>
    intro i hm hi hb
    have hlt:i < l.length:=by omega
    have ih':=ih (i + 1) (by omega) (by omega) hb
    rw [loopO_eq,colour1_step (List.getElem?_eq_getElem hlt) hb,List.drop_eq_getElem_cons hlt,List.all_cons]
    cases isB l[i] with
    | false=>rfl
    | true=>exact ih'
theorem pen_colour_1_eq (l:List Int) (hb:l.length < 9223372036854775807):pen_colour_1 l = some (l.all isB):=by
  unfold pen_colour_1
  have:=colour1_loop l _ 0 rfl (Nat.zero_le _) hb
  simp only [Int.natCast_zero] at this
  rw [this]
  simp only [Option.bind_some,List.drop_zero]
  cases l.all isB <;> rfl
/-- What follows a 38 or 48: how many numbers it takes, and one more than the colour. -/
def colS:List Int → Int × Int
  | x :: y :: r=>bif decide (x = 5) && isB y then (2,1 + y) else match r with
    | z :: w :: _=>bif decide (x = 2) && (isB y && isB z && isB w) then (4,17 + 36 * (6 * y / 256) + 6 * (6 * z / 256) + 6 * w / 256) else (0,0)
    | _=>(0,0)
  | _=>(0,0)
theorem isB_r {x:Int} (h:isB x = true):0 ≤ x ∧ x ≤ 255:=by simpa [isB] using h
theorem col_val {y z w:Int} (hy:isB y = true) (hz:isB z = true) (hw:isB w = true) :
    IntKind.i64.wrap ((IntKind.i64.wrap ((IntKind.i64.wrap (17 + (IntKind.i64.wrap (36 * (IntKind.i64.wrap (Int.tdiv (IntKind.i64.wrap (6 * y)) 256)))))) + (IntKind.i64.wrap (6 * (IntKind.i64.wrap (Int.tdiv (IntKind.i64.wrap (6 * z)) 256)))))) + (IntKind.i64.wrap (Int.tdiv (IntKind.i64.wrap (6 * w)) 256))) =
      17 + 36 * (6 * y / 256) + 6 * (6 * z / 256) + 6 * w / 256:=by
  have h1:=isB_r hy;have h2:=isB_r hz;have h3:=isB_r hw
  have e1:∀ x:Int,0 ≤ x → x ≤ 255 → IntKind.i64.wrap (Int.tdiv (IntKind.i64.wrap (6 * x)) 256) = 6 * x / 256:=by
    intro x a b
    have:IntKind.i64.wrap (6 * x) = 6 * x:=by rw [w64];omega
    rw [this,Int.tdiv_eq_ediv_of_nonneg (by omega),w64];omega
  rw [e1 y h1.1 h1.2,e1 z h2.1 h2.2,e1 w h3.1 h3.2]
  have a1:0 ≤ 6 * y / 256 ∧ 6 * y / 256 ≤ 5:=by omega
  have a2:0 ≤ 6 * z / 256 ∧ 6 * z / 256 ≤ 5:=by omega
  have a3:0 ≤ 6 * w / 256 ∧ 6 * w / 256 ≤ 5:=by omega
  simp only [w64]
  omega
theorem pen_colour_eq (l:List Int) (hb:l.length < 9223372036854775807):pen_colour l = some ((colS l).2,(colS l).1):=by
  have g0:∀ (k:Int) (n:Nat),k = n → getI l k = l[n]?:=fun k n h=>by subst h;exact getI_nat l n
  unfold pen_colour
  rw [g0 0 0 rfl,g0 1 1 rfl,g0 2 2 rfl,g0 3 3 rfl]
  match l,hb with
  | [],_=>rfl
  | [x],_=>rfl
  | [x,y],hb=>
    have p1:pen_colour_1 [y] = some (isB y):=by rw [pen_colour_1_eq [y] (by simp)];simp
    simp only [colS,List.length_cons,List.length_nil]
    by_cases hx:x = 5
    · subst hx
      cases hy:isB y with
      | false=>simp [hy,p1]
      | true=>
        have:=isB_r hy
        have e:IntKind.i64.wrap (1 + y) = 1 + y:=by rw [w64];omega
        simp [hy,e,p1]
    · have hx':(x == 5) = false:=by simpa using hx
      simp [hx,hx']
  | [x,y,z],hb=>
    have p1:pen_colour_1 [y] = some (isB y):=by rw [pen_colour_1_eq [y] (by simp)];simp
    simp only [colS,List.length_cons,List.length_nil]
    by_cases hx:x = 5
    · subst hx
      cases hy:isB y with
      | false=>simp [hy,p1]
      | true=>
        have:=isB_r hy
        have e:IntKind.i64.wrap (1 + y) = 1 + y:=by rw [w64];omega
        simp [hy,e,p1]
    · have hx':(x == 5) = false:=by simpa using hx
      simp [hx,hx']
  | x :: y :: z :: w :: r,hb=>
    have hl:decide (((x :: y :: z :: w :: r).length:Int) ≥ 2) = true:=by simp;omega
    have hl4:decide (((x :: y :: z :: w :: r).length:Int) ≥ 4) = true:=by simp;omega
    have hs:sub (x :: y :: z :: w :: r) 1 4 = [y,z,w]:=rfl
    have hq:(0 ≤ (1:Int) ∧ (1:Int) ≤ (4:Int) ∧ (4:Int) ≤ (((x :: y :: z :: w :: r).length:Nat):Int)):=by simp;omega
    have p1:pen_colour_1 [y] = some (isB y):=by rw [pen_colour_1_eq [y] (by simp)];simp
    have p3:pen_colour_1 [y,z,w] = some (isB y && isB z && isB w):=by rw [pen_colour_1_eq [y,z,w] (by simp)];simp [Bool.and_assoc]
    rw [hl,hl4,req_pos hq,hs,p3]
    simp only [colS,cond_true,p1,List.getElem?_cons_zero,List.getElem?_cons_succ,Option.bind_some,List.all_cons,List.all_nil,Bool.and_true]
    by_cases hx:x = 5
    · subst hx
      cases hy:isB y with
      | false=>simp
      | true=>
        have:=isB_r hy
        have e:IntKind.i64.wrap (1 + y) = 1 + y:=by rw [w64];omega
        simp [e]
    · by_cases hx2:x = 2
      · subst hx2
        cases hy:isB y <;> cases hz:isB z <;> cases hw:isB w <;> first | (simp;done) | skip
        simp [col_val hy hz hw]
      · have hx':(x == 5) = false:=by simpa using hx
        have hx2':(x == 2) = false:=by simpa using hx2
        simp [hx,hx2,hx',hx2']
abbrev T3:=Int × Int × Int
def paint (base c:Int) (p:T3):T3:=bif base == 30 then (p.1,c,p.2.2) else (p.1,p.2.1,c)
/-- What one number asks, ahead of others: nothing more, or a pen and how many of the others it takes. -/
def act (p:T3) (n:Int) (rest:List Int):Option (T3 × Int):=
  bif n == 0 then some ((0,0,0),0)
  else bif decide (1 ≤ n) && decide (n ≤ 9) then some ((ibits .or .i64 p.1 (bitv (n - 1).toNat),p.2.1,p.2.2),0)
  else bif n == 22 then some ((ibits .andNot .i64 p.1 3,p.2.1,p.2.2),0)
  else bif decide (23 ≤ n) && decide (n ≤ 29) then some ((ibits .andNot .i64 p.1 (bitv (n - 21).toNat),p.2.1,p.2.2),0)
  else bif (grp n).1 && (n == (grp n).2 + 8) then (bif (colS rest).1 == 0 then none else some (paint (grp n).2 (colS rest).2 p,(colS rest).1))
  else bif (grp n).1 && (n == (grp n).2 + 9) then some (paint (grp n).2 0 p,0)
  else bif (grp n).1 && decide (n < 90) then some (paint (grp n).2 (n - (grp n).2 + 1) p,0)
  else bif (grp n).1 then some (paint (grp n).2 (n - (grp n).2 - 60 + 9) p,0)
  else some (p,0)
theorem paint_eq (base c:Int) (p:T3):pen_Apply_1_345 base c p.2.1 p.2.2 = some ((paint base c p).2.1,(paint base c p).2.2):=by
  unfold pen_Apply_1_345 paint
  cases base == 30 <;> rfl
theorem paint_eta (base c b f k:Int):(b,(paint base c (b,f,k)).2.1,(paint base c (b,f,k)).2.2) = paint base c (b,f,k):=by unfold paint;cases base == 30 <;> rfl
theorem grp_r (n:Int):((grp n).2 = 0 ∨ (grp n).2 = 30 ∨ (grp n).2 = 40) ∧ ((grp n).1 = true → 30 ≤ n ∧ n < 108):=by
  unfold grp;split
  · simp;omega
  · split
    · simp;omega
    · split
      · simp;omega
      · split
        · simp;omega
        · simp
theorem sub_end {α:Type} (l:List α) (a:Nat):sub l a l.length = l.drop a:=by
  unfold sub;rw [List.take_of_length_le (by simp)]
theorem apply_step {l:List Int} {i:Nat} {n:Int} (p:T3) (h:l[i]? = some n) (hb:l.length < 4611686018427387904):pen_Apply_loop1 l ((i:Int),p.1,p.2.1,p.2.2) =
    some (match act p n (l.drop (i + 1)) with | none=>.inl (.inl (p.1,p.2.1,p.2.2,p)) | some (q,t)=>.inr (IntKind.i64.wrap (IntKind.i64.wrap (i + t) + 1),q)):=by
  obtain ⟨b,f,k⟩:=p
  have hlt:i < l.length:=(List.getElem?_eq_some_iff.1 h).1
  have e1:decide ((i:Int) < (l.length:Int)) = true:=by simp;omega
  have e2:IntKind.i64.wrap ((i:Int) + 1) = ((i + 1:Nat):Int):=by rw [w64];omega
  have e0:IntKind.i64.wrap ((i:Int) + 0) = (i:Int):=by rw [w64];omega
  obtain ⟨g1,g2⟩:=grp_r n
  have e8:IntKind.i64.wrap ((grp n).2 + 8) = (grp n).2 + 8:=by rw [w64];omega
  have e9:IntKind.i64.wrap ((grp n).2 + 9) = (grp n).2 + 9:=by rw [w64];omega
  have hc:=pen_colour_eq (l.drop (i + 1)) (by simp;omega)
  have hq:0 ≤ ((i + 1:Nat):Int) ∧ ((i + 1:Nat):Int) ≤ ((l.length:Nat):Int) ∧ ((l.length:Nat):Int) ≤ ((l.length:Nat):Int):=by omega
  have ht:((i + 1:Nat):Int).toNat = i + 1:=rfl
  have pe:∀ (base c f' k':Int),pen_Apply_1_345 base c f' k' = some ((paint base c (b,f',k')).2.1,(paint base c (b,f',k')).2.2):=fun base c f' k'=>paint_eq base c (b,f',k')
  unfold pen_Apply_loop1
  simp only [e1,cond_true,getI_nat,h,Option.bind_some,pen_plane_eq,e2,e8,e9,ht,sub_end,hc,bt,bt2,Bool.and_true,pe,ge_iff_le]
  rw [req_pos hq]
  have e2':IntKind.i64.wrap ((i:Int) + 1) = (i:Int) + 1:=by rw [w64];omega
  have e0':IntKind.i64.wrap (i:Int) = (i:Int):=by rw [w64];omega
  clear e2 e0 e1 hq ht hc pe
  unfold act
  by_cases h0:n = 0
  · subst h0;simp [e0',e2']
  have h0':(n == 0) = false:=by simpa using h0
  simp only [h0',cond_false]
  by_cases h1:1 ≤ n ∧ n ≤ 9
  · have eb:pen_bitOf (IntKind.i64.wrap (n - 1)) = some (bitv (n - 1).toNat):=by
      have:IntKind.i64.wrap (n - 1) = ((n - 1).toNat:Int):=by rw [w64];omega
      rw [this,pen_bitOf_eq _ (by omega)]
    simp [h1.1,h1.2,eb,e0',e2']
  have h1':∀ (i1:Decidable (1 ≤ n)) (i2:Decidable (n ≤ 9)),(@decide (1 ≤ n) i1 && @decide (n ≤ 9) i2) = false:=by intro i1 i2;simp;omega
  simp only [h1',cond_false]
  by_cases h2:n = 22
  · subst h2;simp [e0',e2']
  have h2':(n == 22) = false:=by simpa using h2
  simp only [h2',cond_false]
  by_cases h3:23 ≤ n ∧ n ≤ 29
  · have eb:pen_bitOf (IntKind.i64.wrap (n - 21)) = some (bitv (n - 21).toNat):=by
      have:IntKind.i64.wrap (n - 21) = ((n - 21).toNat:Int):=by rw [w64];omega
      rw [this,pen_bitOf_eq _ (by omega)]
    simp [h3.1,h3.2,eb,e0',e2']
  have h3':∀ (i1:Decidable (23 ≤ n)) (i2:Decidable (n ≤ 29)),(@decide (23 ≤ n) i1 && @decide (n ≤ 29) i2) = false:=by intro i1 i2;simp;omega
  simp only [h3',cond_false]
  cases hg:(grp n).1 with
  | false=>simp [e0',e2']
  | true=>
    obtain ⟨g3,g4⟩:=g2 hg
    have ea:IntKind.i64.wrap ((IntKind.i64.wrap (n - (grp n).2)) + 1) = n - (grp n).2 + 1:=by simp only [w64];omega
    have ec:IntKind.i64.wrap ((IntKind.i64.wrap ((IntKind.i64.wrap (n - (grp n).2)) - 60)) + 9) = n - (grp n).2 - 60 + 9:=by simp only [w64];omega
    simp only [cond_true,Option.bind_some,Bool.true_and,ea,ec]
    cases h8:n == (grp n).2 + 8 with
    | true=>
      simp only [cond_true]
      cases h9:(colS (l.drop (i + 1))).1 == 0 <;> simp [h9,paint_eta]
    | false=>
      simp only [cond_false]
      cases h9:n == (grp n).2 + 9 with
      | true=>simp [e0',e2',paint_eta]
      | false=>
        simp only [cond_false]
        cases h10:decide (n < 90) <;> simp [e0',e2',paint_eta]
theorem colS_t (l:List Int):(colS l).1 = 0 ∨ (colS l).1 = 2 ∨ (colS l).1 = 4:=by
  match l with
  | []=>simp [colS]
  | [x]=>simp [colS]
  | [x,y]=>simp only [colS];cases decide (x = 5) && isB y <;> simp
  | [x,y,z]=>simp only [colS];cases decide (x = 5) && isB y <;> simp
  | x :: y :: z :: w :: r=>simp only [colS];cases decide (x = 5) && isB y <;> cases decide (x = 2) && (isB y && isB z && isB w) <;> simp
theorem act_t {p:T3} {n:Int} {rest:List Int} {q:T3} {t:Int} (h:act p n rest = some (q,t)):t = 0 ∨ t = 2 ∨ t = 4:=by
  have hc:=colS_t rest
  unfold act at h
  simp only [Bool.cond_eq_ite] at h
  repeat' split at h
  all_goals first | (simp at h;done) | (simp only [Option.some.injEq,Prod.mk.injEq] at h;obtain ⟨_,rfl⟩:=h;first | exact .inl rfl | exact hc)
def applyL (p:T3):List Int → T3
  | []=>p
  | n :: rest=>match act p n rest with
    | none=>p
    | some (q,t)=>applyL q (rest.drop t.toNat)
  termination_by l=>l.length
  decreasing_by simp;omega
theorem apply_end (l:List Int) (i:Nat) (hi:l.length ≤ i) (p:T3):pen_Apply_loop1 l ((i:Int),p.1,p.2.1,p.2.2) = some (.inl (.inr p)):=by
  have e:decide ((i:Int) < (l.length:Int)) = false:=by simp;omega
  unfold pen_Apply_loop1
  simp only [e];rfl
def mrgA:(Int × Int × Int × Int × Int × Int) ⊕ T3 → T3
  | .inl a=>a.2.2.2
  | .inr a=>a
theorem apply_loop (l:List Int) (hb:l.length < 4611686018427387904):∀ (m i:Nat) (p:T3),l.length - i ≤ m → i ≤ l.length + 4 →
    ∃ z,loopO (pen_Apply_loop1 l) ((i:Int),p.1,p.2.1,p.2.2) = some z ∧ mrgA z = applyL p (l.drop i):=by
  intro m
  induction m with
  | zero=>
    intro i p hm hi
    refine ⟨.inr p,?_,?_⟩
    · rw [loopO_eq,apply_end l i (by omega) p]
    · rw [List.drop_eq_nil_of_le (by omega)];simp [mrgA,applyL]
  | succ m ih=>
    intro i p hm hi
    by_cases hlt:i < l.length
    · have hs:=apply_step p (List.getElem?_eq_getElem hlt) hb
      have hd:=List.drop_eq_getElem_cons hlt
      rw [loopO_eq,hs,hd,applyL]
      cases ha:act p l[i] (l.drop (i + 1)) with
      | none=>exact ⟨_,rfl,rfl⟩
      | some qt=>
        obtain ⟨q,t⟩:=qt
        have ht:=act_t ha
        have e:IntKind.i64.wrap (IntKind.i64.wrap ((i:Int) + t) + 1) = ((i + 1 + t.toNat:Nat):Int):=by simp only [w64];omega
        obtain ⟨z,h1,h2⟩:=ih (i + 1 + t.toNat) q (by omega) (by omega)
        refine ⟨z,?_,?_⟩
        · simp only [e];exact h1
        · rw [h2];simp only [List.drop_drop]
    · refine ⟨.inr p,?_,?_⟩
      · rw [loopO_eq,apply_end l i (by omega) p]
      · rw [List.drop_eq_nil_of_le (by omega)];simp [mrgA,applyL]
def applyM (p:PenT) (l:List Int):PenT:=bif l.isEmpty then (0,0,0) else applyL p l
theorem Apply_eq {p:PenT} (hp:mayPen p = true) {l:List Int} (hb:l.length < 4611686018427387904):pen_Apply p l = some (applyM p l):=by
  unfold pen_Apply pen_fine applyM
  obtain ⟨z,h1,h2⟩:=apply_loop l hb l.length 0 p (by omega) (by omega)
  simp only [pen_May_eq,hp,Option.bind_some,Bool.not_true,cond_false,bt]
  cases l with
  | nil=>rfl
  | cons n r=>
    have e:(((n :: r).length:Int) == 0) = false:=by simp;omega
    simp only [e,cond_false,List.isEmpty_cons]
    simp only [Int.natCast_zero,List.drop_zero] at h1 h2
    rw [h1,← h2]
    cases z <;> rfl
theorem or_all:∀ b:_root_.Fin 256,∀ i:_root_.Fin 9,(decide (0 ≤ ibits .or .i64 b.val (bitv i.val)) && decide (ibits .or .i64 b.val (bitv i.val) ≤ 255)) = true:=by decide +kernel
theorem clr_all:∀ b:_root_.Fin 256,∀ i:_root_.Fin 9,(decide (0 ≤ ibits .andNot .i64 b.val (bitv i.val)) && decide (ibits .andNot .i64 b.val (bitv i.val) ≤ 255)) = true:=by decide +kernel
theorem clr3_all:∀ b:_root_.Fin 256,(decide (0 ≤ ibits .andNot .i64 b.val 3) && decide (ibits .andNot .i64 b.val 3 ≤ 255)) = true:=by decide +kernel
theorem or_r {b:Int} (hb:0 ≤ b ∧ b ≤ 255) {i:Nat} (hi:i < 9):0 ≤ ibits .or .i64 b (bitv i) ∧ ibits .or .i64 b (bitv i) ≤ 255:=by
  obtain ⟨m,rfl⟩:∃ m:Nat,b = (m:Int):=⟨b.toNat,by omega⟩
  have:=or_all ⟨m,by omega⟩ ⟨i,hi⟩
  simpa using this
theorem clr_r {b:Int} (hb:0 ≤ b ∧ b ≤ 255) {i:Nat} (hi:i < 9):0 ≤ ibits .andNot .i64 b (bitv i) ∧ ibits .andNot .i64 b (bitv i) ≤ 255:=by
  obtain ⟨m,rfl⟩:∃ m:Nat,b = (m:Int):=⟨b.toNat,by omega⟩
  have:=clr_all ⟨m,by omega⟩ ⟨i,hi⟩
  simpa using this
theorem clr3_r {b:Int} (hb:0 ≤ b ∧ b ≤ 255):0 ≤ ibits .andNot .i64 b 3 ∧ ibits .andNot .i64 b 3 ≤ 255:=by
  obtain ⟨m,rfl⟩:∃ m:Nat,b = (m:Int):=⟨b.toNat,by omega⟩
  have:=clr3_all ⟨m,by omega⟩
  simpa using this
theorem mayPen_iff {p:PenT}:mayPen p = true ↔ (0 ≤ p.1 ∧ p.1 ≤ 255) ∧ (0 ≤ p.2.1 ∧ p.2.1 ≤ 256) ∧ (0 ≤ p.2.2 ∧ p.2.2 ≤ 256):=by
  simp only [mayPen,Bool.and_eq_true,decide_eq_true_eq]
theorem paint_may {b c:Int} {p:PenT} (h:mayPen p = true) (hc:0 ≤ c ∧ c ≤ 256):mayPen (paint b c p) = true:=by
  rw [mayPen_iff] at h ⊢
  unfold paint;cases b == 30
  · exact ⟨h.1,h.2.1,hc⟩
  · exact ⟨h.1,hc,h.2.2⟩
theorem colS_r (l:List Int):0 ≤ (colS l).2 ∧ (colS l).2 ≤ 256:=by
  have f5:∀ y:Int,isB y = true → 0 ≤ 6 * y / 256 ∧ 6 * y / 256 ≤ 5:=fun y h=>by have:=isB_r h;omega
  match l with
  | []=>simp [colS]
  | [x]=>simp [colS]
  | [x,y]=>
    simp only [colS]
    cases hh:decide (x = 5) && isB y with
    | false=>simp
    | true=>simp only [Bool.and_eq_true] at hh;have:=isB_r hh.2;simp only [cond_true];omega
  | [x,y,z]=>
    simp only [colS]
    cases hh:decide (x = 5) && isB y with
    | false=>simp
    | true=>simp only [Bool.and_eq_true] at hh;have:=isB_r hh.2;simp only [cond_true];omega
  | x :: y :: z :: w :: r=>
    simp only [colS]
    cases hh:decide (x = 5) && isB y with
    | true=>simp only [Bool.and_eq_true] at hh;have:=isB_r hh.2;simp only [cond_true];omega
    | false=>
      simp only [cond_false]
      cases h2:decide (x = 2) && (isB y && isB z && isB w) with
      | false=>simp
      | true=>
        simp only [Bool.and_eq_true] at h2
        have a1:=f5 y h2.2.1.1;have a2:=f5 z h2.2.1.2;have a3:=f5 w h2.2.2
        simp only [cond_true];omega
theorem act_may {p q:PenT} {n t:Int} {rest:List Int} (hp:mayPen p = true) (h:act p n rest = some (q,t)):mayPen q = true:=by
  have hr:=mayPen_iff.1 hp
  have hc:=colS_r rest
  obtain ⟨g1,g2⟩:=grp_r n
  have gd:(grp n).1 = true → (n - (grp n).2 + 1 ≤ 256 ∧ 0 ≤ n - (grp n).2 + 1 ∨ True):=fun _=>.inr trivial
  unfold act at h
  cases h0:n == 0 with
  | true=>rw [h0] at h;simp at h;rw [← h.1];decide
  | false=>
  rw [h0] at h;simp only [cond_false] at h
  cases h1:decide (1 ≤ n) && decide (n ≤ 9) with
  | true=>
    rw [h1] at h;simp only [cond_true,Option.some.injEq,Prod.mk.injEq] at h
    simp only [Bool.and_eq_true,decide_eq_true_eq] at h1
    rw [← h.1];exact mayPen_iff.2 ⟨or_r hr.1 (by omega),hr.2⟩
  | false=>
  rw [h1] at h;simp only [cond_false] at h
  cases h2:n == 22 with
  | true=>rw [h2] at h;simp only [cond_true,Option.some.injEq,Prod.mk.injEq] at h;rw [← h.1];exact mayPen_iff.2 ⟨clr3_r hr.1,hr.2⟩
  | false=>
  rw [h2] at h;simp only [cond_false] at h
  cases h3:decide (23 ≤ n) && decide (n ≤ 29) with
  | true=>
    rw [h3] at h;simp only [cond_true,Option.some.injEq,Prod.mk.injEq] at h
    simp only [Bool.and_eq_true,decide_eq_true_eq] at h3
    rw [← h.1];exact mayPen_iff.2 ⟨clr_r hr.1 (by omega),hr.2⟩
  | false=>
  rw [h3] at h;simp only [cond_false] at h
  cases hg:(grp n).1 with
  | false=>
    rw [hg] at h;simp only [Bool.false_and,cond_false,Option.some.injEq,Prod.mk.injEq] at h
    rw [← h.1];exact hp
  | true=>
  rw [hg] at h;simp only [Bool.true_and] at h
  have hgr:((grp n).2 = 30 ∧ (30 ≤ n ∧ n < 40 ∨ 90 ≤ n ∧ n < 98)) ∨ ((grp n).2 = 40 ∧ (40 ≤ n ∧ n < 50 ∨ 100 ≤ n ∧ n < 108)):=by
    unfold grp at hg ⊢
    split
    · rename_i h;exact .inl ⟨rfl,.inl h⟩
    · split
      · rename_i h;exact .inr ⟨rfl,.inl h⟩
      · split
        · rename_i h;exact .inl ⟨rfl,.inr h⟩
        · split
          · rename_i h;exact .inr ⟨rfl,.inr h⟩
          · rename_i a b c d
            rw [if_neg a,if_neg b,if_neg c,if_neg d] at hg;simp at hg
  cases h8:n == (grp n).2 + 8 with
  | true=>
    rw [h8] at h;simp only [cond_true] at h
    cases h9:(colS rest).1 == 0 with
    | true=>rw [h9] at h;simp at h
    | false=>
      rw [h9] at h;simp only [cond_false,Option.some.injEq,Prod.mk.injEq] at h
      rw [← h.1];exact paint_may hp hc
  | false=>
  rw [h8] at h;simp only [cond_false] at h
  cases h9:n == (grp n).2 + 9 with
  | true=>
    rw [h9] at h;simp only [cond_true,Option.some.injEq,Prod.mk.injEq] at h
    rw [← h.1];exact paint_may hp (by omega)
  | false=>
  rw [h9] at h;simp only [cond_false] at h
  cases h10:decide (n < 90) with
  | true=>
    rw [h10] at h;simp only [cond_true,Option.some.injEq,Prod.mk.injEq,decide_eq_true_eq] at h h10
    rw [← h.1];exact paint_may hp (by omega)
  | false=>
    rw [h10] at h;simp only [cond_true,cond_false,Option.some.injEq,Prod.mk.injEq,decide_eq_false_iff_not] at h h10
    rw [← h.1];exact paint_may hp (by omega)
theorem applyL_may:∀ (m:Nat) (l:List Int) (p:PenT),l.length ≤ m → mayPen p = true → mayPen (applyL p l) = true
  | _,[],p,_,hp=>by rw [applyL];exact hp
  | 0,_ :: _,p,h,_=>by simp at h
  | m + 1,n :: rest,p,h,hp=>by
    rw [applyL]
    cases ha:act p n rest with
    | none=>exact hp
    | some qt=>
      obtain ⟨q,t⟩:=qt
      exact applyL_may m _ q (by simp at h ⊢;omega) (act_may hp ha)
theorem applyM_may {p:PenT} (hp:mayPen p = true) (l:List Int):mayPen (applyM p l) = true:=by
  unfold applyM
  cases l.isEmpty with
  | true=>show mayPen (0,0,0) = true;decide
  | false=>exact applyL_may l.length l p (Nat.le_refl _) hp
end Go.SH
namespace Go.SH
abbrev TabT:=Int × Int × Int × Int
def u64R (w:Int):Prop:=0 ≤ w ∧ w < 18446744073709551616
def tabsOK (t:TabT):Prop:=u64R t.1 ∧ u64R t.2.1 ∧ u64R t.2.2.1 ∧ u64R t.2.2.2
theorem wrapU (x:Int):IntKind.u64.wrap x = x % 18446744073709551616:=by simp [IntKind.wrap,IntKind.signed,IntKind.bits]
theorem wrapU_r (x:Int):u64R (IntKind.u64.wrap x):=by rw [wrapU];unfold u64R;omega
theorem ibitsU_r (op:BinOp) (x y:Int):u64R (ibits op .u64 x y):=wrapU_r _
theorem side_eq (a:Int):tabs_side a = some (decide (0 ≤ a) && decide (a < 200)):=by
  unfold tabs_side
  rw [show decide (a ≥ 0) = decide (0 ≤ a) from rfl]
  cases decide (0 ≤ a) <;> rfl
theorem div64 {a:Int} (h:0 ≤ a ∧ a < 200):(IntKind.i64.wrap (Int.tdiv a 64) = 0 ∨ IntKind.i64.wrap (Int.tdiv a 64) = 1 ∨ IntKind.i64.wrap (Int.tdiv a 64) = 2 ∨ IntKind.i64.wrap (Int.tdiv a 64) = 3) ∧ 0 ≤ Int.tmod a 64:=by
  rw [Int.tdiv_eq_ediv_of_nonneg h.1,w64,Int.tmod_eq_emod_of_nonneg h.1]
  omega
theorem tabs_mk {a b c d:Int} (h1:u64R a) (h2:u64R b) (h3:u64R c) (h4:u64R d):tabsOK (a,b,c,d):=⟨h1,h2,h3,h4⟩
theorem Set_ok {t:TabT} (ht:tabsOK t) (a:Int):∃ t',tabs_Set t a = some t' ∧ tabsOK t':=by
  obtain ⟨h1,h2,h3,h4⟩:=ht
  unfold tabs_Set
  simp only [side_eq,Option.bind_some,bt]
  cases hs:(decide (0 ≤ a) && decide (a < 200)) with
  | false=>exact ⟨_,rfl,tabs_mk h1 h2 h3 h4⟩
  | true=>
    simp only [Bool.and_eq_true,decide_eq_true_eq] at hs
    obtain ⟨hd,hm⟩:=div64 hs
    rcases hd with hd | hd | hd | hd <;> rw [hd] <;> simp only [beq_self_eq_true,cond_true,cond_false,Int.reduceBEq] <;> rw [req_pos hm]
    · exact ⟨_,rfl,tabs_mk (ibitsU_r _ _ _) h2 h3 h4⟩
    · exact ⟨_,rfl,tabs_mk h1 (ibitsU_r _ _ _) h3 h4⟩
    · exact ⟨_,rfl,tabs_mk h1 h2 (ibitsU_r _ _ _) h4⟩
    · exact ⟨_,rfl,tabs_mk h1 h2 h3 (ibitsU_r _ _ _)⟩
theorem Clear_ok {t:TabT} (ht:tabsOK t) (a:Int):∃ t',tabs_Clear t a = some t' ∧ tabsOK t':=by
  obtain ⟨h1,h2,h3,h4⟩:=ht
  unfold tabs_Clear
  simp only [side_eq,Option.bind_some,bt]
  cases hs:(decide (0 ≤ a) && decide (a < 200)) with
  | false=>exact ⟨_,rfl,tabs_mk h1 h2 h3 h4⟩
  | true=>
    simp only [Bool.and_eq_true,decide_eq_true_eq] at hs
    obtain ⟨hd,hm⟩:=div64 hs
    rcases hd with hd | hd | hd | hd <;> rw [hd] <;> simp only [beq_self_eq_true,cond_true,cond_false,Int.reduceBEq] <;> rw [req_pos hm]
    · exact ⟨_,rfl,tabs_mk (ibitsU_r _ _ _) h2 h3 h4⟩
    · exact ⟨_,rfl,tabs_mk h1 (ibitsU_r _ _ _) h3 h4⟩
    · exact ⟨_,rfl,tabs_mk h1 h2 (ibitsU_r _ _ _) h4⟩
    · exact ⟨_,rfl,tabs_mk h1 h2 h3 (ibitsU_r _ _ _)⟩
theorem Wider_loop (to from':Int):∀ (m:Nat) (a:Int) (t:TabT),200 - a ≤ m → 0 ≤ a → tabsOK t → ∃ t',loopO (tabs_Wider_loop1 to from') (a,t.1,t.2.1,t.2.2.1,t.2.2.2) = some t' ∧ tabsOK t'
  | m,a,t,hm,ha,ht=>by
    by_cases h:a < (if (200:Int) < to then (200:Int) else to)
    · have h2:a < 200:=by
        have:(if (200:Int) < to then (200:Int) else to) ≤ 200:=by split <;> omega
        omega
      cases m with
      | zero=>omega
      | succ m=>
        have hw:IntKind.i64.wrap (a + 8) = a + 8:=w64id (by omega)
        by_cases hf:a ≥ from'
        · obtain ⟨t',e1,e2⟩:=Set_ok ht a
          have hs:tabs_Wider_loop1 to from' (a,t.1,t.2.1,t.2.2.1,t.2.2.2) = some (.inr (a + 8,t'.1,t'.2.1,t'.2.2.1,t'.2.2.2)):=by
            have e1':tabs_Set (t.1,t.2.1,t.2.2.1,t.2.2.2) a = some t':=e1
            unfold tabs_Wider_loop1
            simp only [bt,Option.bind_some]
            rw [dec_t h,dec_t hf]
            simp only [cond_true,e1',Option.bind_some,hw]
          rw [loopO_eq,hs]
          exact Wider_loop to from' m (a + 8) t' (by omega) (by omega) e2
        · have hs:tabs_Wider_loop1 to from' (a,t.1,t.2.1,t.2.2.1,t.2.2.2) = some (.inr (a + 8,t.1,t.2.1,t.2.2.1,t.2.2.2)):=by
            unfold tabs_Wider_loop1
            simp only [bt,Option.bind_some]
            rw [dec_t h,dec_f hf]
            simp only [cond_true,cond_false,Option.bind_some,hw]
          rw [loopO_eq,hs]
          exact Wider_loop to from' m (a + 8) t (by omega) (by omega) ht
    · have hs:tabs_Wider_loop1 to from' (a,t.1,t.2.1,t.2.2.1,t.2.2.2) = some (.inl (t.1,t.2.1,t.2.2.1,t.2.2.2)):=by
        unfold tabs_Wider_loop1
        simp only [bt,Option.bind_some]
        rw [dec_f h]
        simp only [cond_false]
      rw [loopO_eq,hs]
      exact ⟨t,rfl,ht⟩
theorem Wider_ok {t:TabT} (ht:tabsOK t) (from' to:Int):∃ t',tabs_Wider t from' to = some t' ∧ tabsOK t':=by
  obtain ⟨t',h1,h2⟩:=Wider_loop to from' 200 8 t (by omega) (by omega) ht
  unfold tabs_Wider
  rw [h1]
  exact ⟨t',rfl,h2⟩
theorem zero_tabs:tabsOK (0,0,0,0):=by unfold tabsOK u64R;simp
theorem usual_ok {n:Nat} (h:n ≤ 200):tabsOK (usual n):=by
  have:=tabs_Usual_eq h
  unfold tabs_Usual at this
  obtain ⟨t',h1,h2⟩:=Wider_ok zero_tabs 0 (n:Int)
  rw [h1] at this
  simp at this
  rw [← this];exact h2
theorem pow58:(2:Int) ^ 58 = 288230376151711744:=by decide +kernel
theorem fdiv58 {x:Int} (r1:0 ≤ x) (r2:x < 18446744073709551616):0 ≤ Int.fdiv x (2 ^ 58) ∧ Int.fdiv x (2 ^ 58) < 64:=by
  rw [pow58,Int.fdiv_eq_ediv_of_nonneg _ (by omega)];omega
theorem dB64_len:tab_dB64.length = 64:=by decide +kernel
def tzV (x:Int):Option Int:=(getI tab_dB64 (Int.fdiv x (2 ^ 58))).bind fun x4=>some (IntKind.i64.wrap (x4.toNat:Int))
theorem tzV_ok {x:Int} (h:u64R x):∃ z,tzV x = some z ∧ 0 ≤ z ∧ z ≤ 300:=by
  obtain ⟨r1,r2⟩:=h
  have hd:=fdiv58 r1 r2
  unfold tzV
  generalize Int.fdiv x (2 ^ 58) = y at *
  obtain ⟨k,hk⟩:∃ k:Nat,y = k:=⟨y.toNat,by omega⟩
  subst hk
  rw [getI_nat]
  have hl:k < tab_dB64.length:=by rw [dB64_len];omega
  rw [List.getElem?_eq_getElem hl]
  generalize tab_dB64[k] = u
  have hb:u.toNat < 256:=u.toNat_lt
  refine ⟨_,rfl,?_⟩
  rw [w64id (by omega)];omega
def tzA (w:Int):Int:=ibits .and .u64 w (IntKind.u64.wrap ((0:Int) - w))
def tzX (w:Int):Int:=IntKind.u64.wrap (tzA w * 285870213051353865)
theorem tzX_r (w:Int):u64R (tzX w):=wrapU_r _
theorem tz_eq (w:Int):bits_TrailingZeros64 w = (bif w == 0 then some true else some false:Option Bool).bind fun x1=>bif x1 then some 64 else tzV (tzX w):=rfl
theorem tz_ok {w:Int} (h:u64R w):∃ z,bits_TrailingZeros64 w = some z ∧ 0 ≤ z ∧ z ≤ 300:=by
  obtain ⟨z,h1,h2⟩:=tzV_ok (tzX_r w)
  rw [tz_eq,bt,h1]
  cases (w == 0) with
  | true=>exact ⟨64,rfl,by omega,by omega⟩
  | false=>exact ⟨z,rfl,h2⟩
theorem nx_nat {n:Nat} (h0:0 < n) (h:n < 18446744073709551616):tabNx (n:Int) = ((n &&& (n - 1):Nat):Int):=by
  unfold tabNx ibits
  have e1:IntKind.u64.wrap ((n:Int) - 1) = ((n - 1:Nat):Int):=by rw [wrapU];omega
  rw [e1]
  have hb:IntKind.u64.bits = 64:=rfl
  have f:∀ m:Nat,m < 18446744073709551616 → (BitVec.ofInt IntKind.u64.bits (m:Int)).toNat = m:=fun m hm=>by
    rw [hb,BitVec.toNat_ofInt];omega
  simp only [BitVec.toNat_and]
  rw [f n h,f (n - 1) (by omega),wrapU]
  have:n &&& (n - 1) ≤ n:=Nat.and_le_left
  omega
theorem and_div {n j:Nat} (h:2 ^ j ∣ n) (h0:0 < n):2 ^ (j + 1) ∣ (n &&& (n - 1)):=by
  obtain ⟨m,rfl⟩:=h
  refine Nat.dvd_of_mod_eq_zero (Nat.eq_of_testBit_eq fun i=>?_)
  rw [Nat.testBit_mod_two_pow,Nat.zero_testBit]
  by_cases hi:i < j + 1
  · simp only [hi,decide_true,Bool.true_and,Nat.testBit_and]
    by_cases h2:i < j
    · rw [Nat.testBit_two_pow_mul]
      simp [Nat.not_le.2 h2]
    · have:i = j:=by omega
      subst this
      rw [Nat.testBit_two_pow_mul]
      simp only [ge_iff_le,Nat.le_refl,decide_true,Bool.true_and,Nat.sub_self,Nat.testBit_zero]
      by_cases hm:m % 2 = 1
      · obtain ⟨q,rfl⟩:∃ q,m = 2 * q + 1:=⟨m / 2,by omega⟩
        have hp:0 < 2 ^ i:=Nat.two_pow_pos i
        have e:2 ^ i * (2 * q + 1) - 1 = 2 ^ i * (2 * q) + (2 ^ i - 1):=by rw [Nat.mul_add,Nat.mul_one];omega
        rw [e,Nat.testBit_two_pow_mul_add _ (by omega)]
        simp
      · simp [hm]
  · simp [hi]
theorem stops_ok (ws:List Int) (hws:ws.length = 4) (hr:∀ w ∈ ws,u64R w):∀ (k i j:Nat) (w:Int),i ≤ 3 → u64R w → (∃ n:Nat,w = n ∧ 2 ^ j ∣ n) → (65 - j) + (3 - i) * 66 ≤ k → j ≤ 64 →
    ∃ l,stopsF bits_TrailingZeros64 tabAt tabNx ws k i w = some l ∧ ∀ x ∈ l,0 ≤ x ∧ x < 200
  | 0,i,j,w,hi,hw,_,hk,hj=>by omega
  | k + 1,i,j,w,hi,hw,hwn,hk,hj=>by
    obtain ⟨n,rfl,hd⟩:=hwn
    unfold stopsF
    by_cases h0:(n:Int) = 0
    · rw [if_pos h0]
      cases he:ws[i + 1]? with
      | none=>exact ⟨[],rfl,by simp⟩
      | some w'=>
        have hi2:i + 1 < 4:=by rw [← hws];exact (List.getElem?_eq_some_iff.1 he).1
        have hw':=hr w' (List.mem_of_getElem? he)
        have hw2:=hw'
        unfold u64R at hw2
        exact stops_ok ws hws hr k (i + 1) 0 w' (by omega) hw' ⟨w'.toNat,by omega,by simp⟩ (by omega) (by omega)
    · rw [if_neg h0]
      have hn:0 < n:=by omega
      have hw2:=hw
      unfold u64R at hw2
      have hj2:j < 64:=by
        rcases Nat.lt_or_ge j 64 with h | h
        · exact h
        · have:j = 64:=by omega
          subst this
          have:=Nat.le_of_dvd hn hd
          have e:(2:Nat) ^ 64 = 18446744073709551616:=by decide
          omega
      obtain ⟨z,hz,hz1,hz2⟩:=tz_ok hw
      rw [hz]
      simp only [Option.bind_some]
      have hat:tabAt (i:Int) z = 64 * (i:Int) + z:=by
        unfold tabAt
        rw [w64id (x:=64 * (i:Int)) (by omega),w64id (by omega)]
      rw [hat]
      by_cases h2:200 ≤ 64 * (i:Int) + z
      · rw [if_pos h2];exact ⟨[],rfl,by simp⟩
      · rw [if_neg h2,nx_nat hn (by omega)]
        have hle:n &&& (n - 1) ≤ n:=Nat.and_le_left
        obtain ⟨l,h3,h4⟩:=stops_ok ws hws hr k i (j + 1) ((n &&& (n - 1):Nat):Int) hi (by unfold u64R;omega) ⟨_,rfl,and_div hd hn⟩ (by omega) (by omega)
        rw [h3]
        refine ⟨_,rfl,fun x hx=>?_⟩
        rcases List.mem_cons.1 hx with rfl | hx
        · omega
        · exact h4 x hx
theorem tabStops_ok {t:TabT} (ht:tabsOK t):∃ l,tabStops t = some l ∧ ∀ x ∈ l,0 ≤ x ∧ x < 200:=by
  obtain ⟨h1,h2,h3,h4⟩:=ht
  unfold tabStops outF
  simp only [List.getElem?_cons_zero]
  have hw2:=h1
  unfold u64R at hw2
  exact stops_ok [t.1,t.2.1,t.2.2.1,t.2.2.2] rfl (by simp;exact ⟨h1,h2,h3,h4⟩) 300 0 0 t.1 (by omega) h1 ⟨t.1.toNat,by omega,by simp⟩ (by omega) (by omega)
theorem Next_ok {t:TabT} (ht:tabsOK t) {a c:Int} (ha:0 ≤ a) (hc:1 ≤ c ∧ c ≤ 200):∃ x,tabs_Next t a c = some x ∧ 0 ≤ x ∧ x < c:=by
  obtain ⟨l,h1,h2⟩:=tabStops_ok ht
  unfold tabs_Next
  rw [h1]
  refine ⟨_,rfl,?_⟩
  have hcc:tabCols c = c:=by
    unfold tabCols
    rw [if_neg (by omega:¬ (200:Int) < c)]
    simp only
    split <;> omega
  rw [hcc]
  have key:∀ (l:List Int) (r s:Int) (o:Option (Option Nat)),runX (nextS a c) r l = (s,o) → (o = none ∨ (a < s ∧ s < c)):=by
    intro l
    induction l with
    | nil=>intro r s o h;simp [runX] at h;exact .inl h.2.symm
    | cons x l ih=>
      intro r s o h
      simp only [runX] at h
      by_cases hx:a < x ∧ x < c
      · have e:nextS a c r x = (x,some none):=if_pos hx
        rw [e] at h;simp at h;rw [← h.1];exact .inr hx
      · have e:nextS a c r x = (r,none):=if_neg hx
        rw [e] at h;exact ih _ _ _ h
  unfold nextV nextR
  cases hr:runX (nextS a c) 0 l with
  | mk s o=>
    cases o with
    | none=>simp only;rw [w64id (by omega)];omega
    | some k=>
      rcases key l 0 s (some k) hr with h | h
      · simp at h
      · simp only;omega
theorem Back_ok {t:TabT} (ht:tabsOK t) {a:Int} (ha:0 ≤ a):∃ x,tabs_Back t a = some x ∧ 0 ≤ x ∧ x ≤ a:=by
  obtain ⟨l,h1,h2⟩:=tabStops_ok ht
  unfold tabs_Back
  rw [h1]
  refine ⟨_,rfl,?_⟩
  have key:∀ (l:List Int) (r:Int),(∀ x ∈ l,0 ≤ x ∧ x < 200) → 0 ≤ r ∧ r ≤ a → 0 ≤ (runX (backS a) r l).1 ∧ (runX (backS a) r l).1 ≤ a:=by
    intro l
    induction l with
    | nil=>intro r _ hr;exact hr
    | cons x l ih=>
      intro r hl hr
      simp only [runX]
      by_cases hx:a ≤ x
      · have e:backS a r x = (r,some (some 0)):=if_pos hx
        rw [e];exact hr
      · have e:backS a r x = (x,none):=if_neg hx
        rw [e]
        exact ih x (fun y hy=>hl y (List.mem_cons_of_mem _ hy)) ⟨(hl x (by simp)).1,by omega⟩
  exact key l 0 h2 ⟨by omega,ha⟩
end Go.SH
namespace Go.SH
theorem bto (a b:Bool):(bif a then some true else some b:Option Bool) = some (a || b):=by cases a <;> cases b <;> rfl
theorem btor (a b:Bool):(bif a then some a else some b:Option Bool) = some (a || b):=by cases a <;> cases b <;> rfl
theorem bsome {α:Type} (a:Bool) (x y:α):(bif a then some x else some y) = some (bif a then x else y):=by cases a <;> rfl
theorem rleq {α R:Type} (l:List α) (k:Option R):req (l.length = l.length) k = k:=req_pos rfl
structure EnvS (R C:Nat) (top bottom:Int) (p:PenT):Prop where
  sz:szR R C
  etop:0 ≤ top
  etb:top ≤ bottom
  ebot:bottom < R
  epen:mayPen p = true
def scrM (g:GridT) (f bottom n:Int) (p:PenT):GridT:=scrollM g f.toNat bottom.toNat n p
theorem scr_eq {R C:Nat} {bottom f n:Int} {p:PenT} {g:GridT} (hs:szR R C) (hp:mayPen p = true) (hb:bottom < R) (hg:gok g R C) (h1:0 ≤ f) (h2:f ≤ bottom) (hn:-1000000 ≤ n ∧ n ≤ 1000000) :
    screen_work_scroll_d5f f n p.1 p.2.1 p.2.2 bottom g = some (scrM g f bottom n p) ∧ gok (scrM g f bottom n p) R C:=by
  obtain ⟨F,rfl⟩:∃ k:Nat,f = k:=⟨f.toNat,by omega⟩
  obtain ⟨B,rfl⟩:∃ k:Nat,bottom = k:=⟨bottom.toNat,by omega⟩
  unfold scrM
  simp only [Int.toNat_natCast]
  refine ⟨?_,scrollM_gok hg hs hp (by omega) (by omega)⟩
  unfold screen_work_scroll_d5f
  rw [req_refl]
  have:=Scroll_eq hg hs hp (T:=F) (B:=B) (n:=n) (by omega) (by omega) hn
  obtain ⟨pb,pf,pk⟩:=p
  rw [this]
  simp only [Option.bind_some,req_tt]
/-- A row down, or scrolled. -/
def feedM (R:Int) (row top bottom:Int) (p:PenT) (g:GridT):GridT × Int:=
  if row = bottom then (scrM g top bottom 1 p,row) else (g,if R - 1 < row + 1 then R - 1 else row + 1)
theorem feed_eq {R C:Nat} {row top bottom:Int} {p:PenT} {g:GridT} (e:EnvS R C top bottom p) (hg:gok g R C) (hr:0 ≤ row ∧ row < R) (m:GridT) (ti:List Int) :
    screen_work_feed_4f7 (R:Int) row p.1 p.2.1 p.2.2 top bottom g m ti = some (feedM R row top bottom p g) ∧ gok (feedM R row top bottom p g).1 R C ∧ 0 ≤ (feedM R row top bottom p g).2 ∧ (feedM R row top bottom p g).2 < R:=by
  have hs:=e.sz
  unfold szR at hs
  have e1:IntKind.i64.wrap ((R:Int) - 1) = (R:Int) - 1:=w64id (by omega)
  have e2:IntKind.i64.wrap (row + 1) = row + 1:=w64id (by omega)
  unfold screen_work_feed_4f7 feedM
  simp only [bt,Option.bind_some,e1,e2]
  by_cases h:row = bottom
  · subst h
    obtain ⟨h1,h2⟩:=scr_eq e.sz e.epen e.ebot hg e.etop e.etb (n:=1) (by omega)
    simp only [beq_self_eq_true,cond_true,if_true,rleq,req_tt]
    rw [h1]
    simp only [Option.bind_some,rleq,req_tt]
    exact ⟨trivial,h2,hr⟩
  · have:(row == bottom) = false:=by simpa using h
    rw [this,if_neg h]
    simp only [cond_false,rleq,req_tt]
    refine ⟨trivial,hg,?_⟩
    split <;> omega
/-- The rows that were gone down. -/
def feedN (R top bottom:Int) (p:PenT):Nat → GridT × Int → GridT × Int
  | 0,x=>x
  | k + 1,x=>feedN R top bottom p k (feedM R x.2 top bottom p x.1)
theorem feed_loop {R C:Nat} {top bottom:Int} {p:PenT} (e:EnvS R C top bottom p) (m:GridT) (ti:List Int) {ch:ChT} (hn:ch.2.1 ≤ 1000):∀ (k:Nat) (i:Int) (g:GridT) (row:Int),ch.2.1 - i ≤ k → (k:Int) ≤ ch.2.1 - i ∨ k = 0 → 0 ≤ i → gok g R C → 0 ≤ row ∧ row < R →
    loopO (screen_work_move_568_loop1 ch ti m (R:Int) p.1 p.2.1 p.2.2 top bottom) (i,g,row) = some (feedN R top bottom p k (g,row)) ∧ gok (feedN R top bottom p k (g,row)).1 R C ∧ 0 ≤ (feedN R top bottom p k (g,row)).2 ∧ (feedN R top bottom p k (g,row)).2 < R
  | 0,i,g,row,h1,h2,hi,hg,hr=>by
    rw [loopO_eq]
    have:screen_work_move_568_loop1 ch ti m (R:Int) p.1 p.2.1 p.2.2 top bottom (i,g,row) = some (.inl (g,row)):=by
      unfold screen_work_move_568_loop1
      simp only [bt,Option.bind_some]
      rw [dec_f (by omega:¬ i < ch.2.1)]
      simp only [cond_false,rleq,req_tt]
    rw [this]
    exact ⟨rfl,hg,hr⟩
  | k + 1,i,g,row,h1,h2,hi,hg,hr=>by
    rw [loopO_eq]
    obtain ⟨f1,f2,f3⟩:=feed_eq e hg hr m ti
    have:screen_work_move_568_loop1 ch ti m (R:Int) p.1 p.2.1 p.2.2 top bottom (i,g,row) = some (.inr (i + 1,feedM R row top bottom p g)):=by
      unfold screen_work_move_568_loop1
      simp only [bt,Option.bind_some]
      rw [dec_t (by omega:i < ch.2.1)]
      simp only [cond_true,rleq,req_tt]
      rw [f1]
      simp only [Option.bind_some,rleq,req_tt]
      rw [w64id (by omega)]
    rw [this]
    exact feed_loop e m ti hn k (i + 1) _ _ (by omega) (by omega) (by omega) f2 f3
theorem betw_r {n lo hi:Int} (h:lo ≤ hi):lo ≤ betw n lo hi ∧ betw n lo hi ≤ hi:=by
  unfold betw
  split <;> split <;> omega
theorem betw_id {n lo hi:Int} (h:lo ≤ n ∧ n ≤ hi):betw n lo hi = n:=by
  unfold betw
  split <;> split <;> omega
def originB (modes:Int):Bool:=ibits .and .i64 modes 2 != 0
def wrapB (modes:Int):Bool:=ibits .and .i64 modes 1 != 0
def insB (modes:Int):Bool:=ibits .and .i64 modes 4 != 0
def goToM (row col R C top bottom modes:Int):Int × Int:=(bif originB modes then betw (top + row) top bottom else betw row 0 (R - 1),betw col 0 (C - 1))
theorem goTo_eq {R C:Nat} {row col top bottom:Int} (hs:szR R C) (ht:0 ≤ top) (htb:top ≤ bottom) (hb:bottom < R) (hr:-1000000 ≤ row ∧ row ≤ 1000000) (modes:Int) :
    screen_work_goTo_d5f row col (R:Int) (C:Int) top bottom modes = some (goToM row col R C top bottom modes) ∧ (0 ≤ (goToM row col R C top bottom modes).1 ∧ (goToM row col R C top bottom modes).1 < R) ∧ 0 ≤ (goToM row col R C top bottom modes).2 ∧ (goToM row col R C top bottom modes).2 < C:=by
  unfold szR at hs
  refine ⟨?_,?_,?_⟩
  · unfold screen_work_goTo_d5f goToM
    rw [w64id (x:=top + row) (by omega),w64id (x:=(R:Int) - 1) (by omega),w64id (x:=(C:Int) - 1) (by omega)]
    simp only [bt,Option.bind_some,between_eq]
    unfold originB
    cases (ibits .and .i64 modes 2 != 0) <;> rfl
  · unfold goToM
    cases originB modes with
    | true=>have:=betw_r (n:=top + row) htb;simp only [cond_true];omega
    | false=>have:=betw_r (n:=row) (lo:=0) (hi:=(R:Int) - 1) (by omega);simp only [cond_false];omega
  · have:=betw_r (n:=col) (lo:=0) (hi:=(C:Int) - 1) (by omega)
    unfold goToM;simp only;omega
def stepM (rows cols R C row col top bottom:Int):Int × Int:=
  (if 0 < rows then (if (if row ≤ bottom then bottom else R - 1) < row + rows then (if row ≤ bottom then bottom else R - 1) else row + rows)
   else if rows < 0 then (if (if top ≤ row then top else 0) > row + rows then (if top ≤ row then top else 0) else row + rows) else row,betw (col + cols) 0 (C - 1))
theorem step_eq {R C:Nat} {rows cols row col top bottom:Int} (hs:szR R C) (ht:0 ≤ top) (htb:top ≤ bottom) (hb:bottom < R) (hn:-1000000 ≤ rows ∧ rows ≤ 1000000) (hm:-1000000 ≤ cols ∧ cols ≤ 1000000) (hr:0 ≤ row ∧ row < R) (hc:0 ≤ col ∧ col < C) :
    screen_work_step_d5f rows cols (R:Int) (C:Int) row col top bottom = some (stepM rows cols R C row col top bottom) ∧ (0 ≤ (stepM rows cols R C row col top bottom).1 ∧ (stepM rows cols R C row col top bottom).1 < R) ∧ 0 ≤ (stepM rows cols R C row col top bottom).2 ∧ (stepM rows cols R C row col top bottom).2 < C:=by
  unfold szR at hs
  refine ⟨?_,?_,?_⟩
  · unfold screen_work_step_d5f stepM
    rw [w64id (x:=row + rows) (by omega),w64id (x:=(R:Int) - 1) (by omega),w64id (x:=(C:Int) - 1) (by omega),w64id (x:=col + cols) (by omega)]
    simp only [bt,Option.bind_some,between_eq,ge_iff_le,gt_iff_lt,bsome]
    by_cases h1:top ≤ row <;> by_cases h2:row ≤ bottom <;> by_cases h3:0 < rows <;> by_cases h4:rows < 0 <;> simp [h1,h2,h3,h4]
  · unfold stepM
    simp only
    split
    · split <;> split <;> omega
    · split
      · split <;> split <;> omega
      · omega
  · have:=betw_r (n:=col + cols) (lo:=0) (hi:=(C:Int) - 1) (by omega)
    unfold stepM;simp only;omega
noncomputable def nextN (t:TabT) (C:Int):Nat → Int → Int
  | 0,c=>c
  | k + 1,c=>nextN t C k ((tabs_Next t c C).getD 0)
noncomputable def backN (t:TabT):Nat → Int → Int
  | 0,c=>c
  | k + 1,c=>backN t k ((tabs_Back t c).getD 0)
theorem next_loop {C:Nat} {t:TabT} (ht:tabsOK t) (hC:1 ≤ C ∧ C ≤ 200) {ch:ChT} (hn:ch.2.1 ≤ 1000):∀ (k:Nat) (i col:Int),ch.2.1 - i ≤ k → (k:Int) ≤ ch.2.1 - i ∨ k = 0 → 0 ≤ i → 0 ≤ col ∧ col < C →
    loopO (screen_work_move_568_loop2 ch t.1 t.2.1 t.2.2.1 t.2.2.2 (C:Int)) (i,col) = some (nextN t C k col) ∧ 0 ≤ nextN t C k col ∧ nextN t C k col < C
  | 0,i,col,h1,h2,hi,hc=>by
    rw [loopO_eq]
    have:screen_work_move_568_loop2 ch t.1 t.2.1 t.2.2.1 t.2.2.2 (C:Int) (i,col) = some (.inl col):=by
      unfold screen_work_move_568_loop2
      simp only [bt,Option.bind_some]
      rw [dec_f (by omega:¬ i < ch.2.1)]
      simp only [cond_false]
    rw [this]
    exact ⟨rfl,hc⟩
  | k + 1,i,col,h1,h2,hi,hc=>by
    rw [loopO_eq]
    obtain ⟨x,hx,x1,x2⟩:=Next_ok ht (a:=col) (c:=(C:Int)) hc.1 (by omega)
    have:screen_work_move_568_loop2 ch t.1 t.2.1 t.2.2.1 t.2.2.2 (C:Int) (i,col) = some (.inr (i + 1,x)):=by
      unfold screen_work_move_568_loop2
      simp only [bt,Option.bind_some]
      rw [dec_t (by omega:i < ch.2.1)]
      simp only [cond_true]
      erw [hx]
      simp only [Option.bind_some]
      rw [w64id (by omega)]
    rw [this]
    have hu:nextN t C (k + 1) col = nextN t C k x:=by rw [nextN,hx];rfl
    rw [hu]
    exact next_loop ht hC hn k (i + 1) x (by omega) (by omega) (by omega) ⟨x1,x2⟩
theorem back_loop {t:TabT} (ht:tabsOK t) {C:Nat} {ch:ChT} (hn:-1000 ≤ ch.2.1 ∧ ch.2.1 ≤ 1000):∀ (k:Nat) (i col:Int),-ch.2.1 - i ≤ k → (k:Int) ≤ -ch.2.1 - i ∨ k = 0 → 0 ≤ i → 0 ≤ col ∧ col < C →
    loopO (screen_work_move_568_loop3 ch t.1 t.2.1 t.2.2.1 t.2.2.2) (i,col) = some (backN t k col) ∧ 0 ≤ backN t k col ∧ backN t k col < C
  | 0,i,col,h1,h2,hi,hc=>by
    rw [loopO_eq]
    have:screen_work_move_568_loop3 ch t.1 t.2.1 t.2.2.1 t.2.2.2 (i,col) = some (.inl col):=by
      unfold screen_work_move_568_loop3
      rw [w64id (x:=0 - ch.2.1) (by omega)]
      simp only [bt,Option.bind_some]
      rw [dec_f (by omega:¬ i < 0 - ch.2.1)]
      simp only [cond_false]
    rw [this]
    exact ⟨rfl,hc⟩
  | k + 1,i,col,h1,h2,hi,hc=>by
    rw [loopO_eq]
    obtain ⟨x,hx,x1,x2⟩:=Back_ok ht (a:=col) hc.1
    have:screen_work_move_568_loop3 ch t.1 t.2.1 t.2.2.1 t.2.2.2 (i,col) = some (.inr (i + 1,x)):=by
      unfold screen_work_move_568_loop3
      rw [w64id (x:=0 - ch.2.1) (by omega)]
      simp only [bt,Option.bind_some]
      rw [dec_t (by omega:i < 0 - ch.2.1)]
      simp only [cond_true]
      erw [hx]
      simp only [Option.bind_some]
      rw [w64id (by omega)]
    rw [this]
    have hu:backN t (k + 1) col = backN t k x:=by rw [backN,hx];rfl
    rw [hu]
    exact back_loop ht hn k (i + 1) x (by omega) (by omega) (by omega) ⟨x1,by omega⟩
def rowG (g:GridT) (row:Int):List CellT:=(g[row.toNat]?).getD []
theorem rowG_get {g:GridT} {R C:Nat} (hg:gok g R C) {row:Int} (hr:0 ≤ row ∧ row < R):g[row.toNat]? = some (rowG g row) ∧ (rowG g row).length = C ∧ mayLine (rowG g row) = true:=by
  obtain ⟨l,h1,h2⟩:=gok_get hg (i:=row.toNat) (by omega)
  unfold rowG
  rw [h1]
  exact ⟨rfl,h2⟩
def setR (g:GridT) (row:Int) (l:List CellT):GridT:=g.set row.toNat l
theorem setR_gok {g:GridT} {R C:Nat} (hg:gok g R C) {row:Int} {l:List CellT} (h:mayLine l = true ∧ l.length = C):gok (setR g row l) R C:=gok_set hg ⟨h.2,h.1⟩
def nextRow (b:Bool) (R top bottom:Int) (p:PenT) (x:GridT × Int × Int):GridT × Int × Int:=bif b then ((feedM R x.2.1 top bottom p x.1).1,(feedM R x.2.1 top bottom p x.1).2,0) else x
def placeM (R C top bottom:Int) (wr:Bool) (p:PenT) (n:Int) (x:GridT × Int × Int):GridT × Int × Int:=
  bif decide (C - n < x.2.2) then (bif wr then nextRow true R top bottom p x else (x.1,x.2.1,C - n)) else x
def showM (C:Int) (modes:Int) (p:PenT) (c n:Int) (x:GridT × Int × Int):GridT × Int × Int × Bool:=
  (setR x.1 x.2.1 (putM (bif insB modes then insertM (rowG x.1 x.2.1) x.2.2 n p else rowG x.1 x.2.1) x.2.2 c p),x.2.1,bif decide (C ≤ x.2.2 + n) then C - 1 else x.2.2 + n,bif decide (C ≤ x.2.2 + n) then wrapB modes else false)
def printM (R C row col:Int) (late:Bool) (top bottom modes:Int) (p:PenT) (g:GridT) (c:Int):GridT × Int × Int × Bool:=
  bif decide (colsOf c < 0) || decide (C < colsOf c) then (g,row,col,late)
  else bif colsOf c == 0 then (setR g row (markM (rowG g row) (bif late then col else col - 1) c),row,col,late)
  else showM C modes p c (colsOf c) (placeM R C top bottom (wrapB modes) p (colsOf c) (nextRow (late && wrapB modes) R top bottom p (g,row,col)))
def inG (R C:Nat) (x:GridT × Int × Int):Prop:=gok x.1 R C ∧ (0 ≤ x.2.1 ∧ x.2.1 < R) ∧ 0 ≤ x.2.2 ∧ x.2.2 < C
theorem nextRow_in {R C:Nat} {top bottom:Int} {p:PenT} (e:EnvS R C top bottom p) {x:GridT × Int × Int} (hx:inG R C x) (b:Bool):inG R C (nextRow b R top bottom p x):=by
  have hs:=e.sz
  unfold szR at hs
  cases b with
  | false=>exact hx
  | true=>
    obtain ⟨h1,h2,h3⟩:=feed_eq e hx.1 hx.2.1 [] []
    exact ⟨h2,h3,by unfold nextRow;simp only [cond_true];omega⟩
theorem placeM_in {R C:Nat} {top bottom:Int} {p:PenT} (e:EnvS R C top bottom p) {x:GridT × Int × Int} (hx:inG R C x) (wr:Bool) {n:Int} (hn:1 ≤ n ∧ n ≤ C):inG R C (placeM R C top bottom wr p n x) ∧ (placeM R C top bottom wr p n x).2.2 ≤ C - n:=by
  unfold placeM
  by_cases h:(C:Int) - n < x.2.2
  · rw [dec_t h]
    cases wr with
    | true=>
      refine ⟨nextRow_in e hx true,?_⟩
      unfold nextRow;simp only [cond_true];omega
    | false=>
      refine ⟨⟨hx.1,hx.2.1,?_⟩,?_⟩
      · simp only [cond_true,cond_false];omega
      · simp only [cond_true,cond_false];omega
  · rw [dec_f h]
    refine ⟨hx,?_⟩
    simp only [cond_false];omega
theorem showM_in {R C:Nat} {modes:Int} {p:PenT} (hp:mayPen p = true) {x:GridT × Int × Int} (hx:inG R C x) (c:Int) {n:Int} (hn:1 ≤ n ∧ n ≤ C) (h:x.2.2 ≤ C - n) :
    inG R C ((showM C modes p c n x).1,(showM C modes p c n x).2.1,(showM C modes p c n x).2.2.1) ∧ ((showM C modes p c n x).2.2.2 = true → (showM C modes p c n x).2.2.1 = (C:Int) - 1):=by
  obtain ⟨h1,h2,h3⟩:=hx
  obtain ⟨k1,k2,k3⟩:=rowG_get h1 h2
  have hl:mayLine (bif insB modes then insertM (rowG x.1 x.2.1) x.2.2 n p else rowG x.1 x.2.1) = true ∧ (bif insB modes then insertM (rowG x.1 x.2.1) x.2.2 n p else rowG x.1 x.2.1).length = C:=by
    cases insB modes with
    | true=>exact ⟨(insertM_may k3 hp).1,(insertM_may k3 hp).2.trans k2⟩
    | false=>exact ⟨k3,k2⟩
  have hput:=putM_may (a:=x.2.2) (c:=c) hl.1 hp
  unfold showM
  refine ⟨⟨setR_gok h1 ⟨hput.1,hput.2.trans hl.2⟩,h2,?_⟩,?_⟩
  · by_cases h4:(C:Int) ≤ x.2.2 + n
    · rw [dec_t h4];simp only [cond_true];omega
    · rw [dec_f h4];simp only [cond_false];omega
  · by_cases h4:(C:Int) ≤ x.2.2 + n
    · rw [dec_t h4];intro _;rfl
    · rw [dec_f h4];intro h5;simp at h5
theorem printM_in {R C:Nat} {top bottom:Int} {p:PenT} (e:EnvS R C top bottom p) {g:GridT} {row col:Int} {late:Bool} (hx:inG R C (g,row,col)) (hl:late = true → col = (C:Int) - 1) (modes c:Int) :
    inG R C ((printM R C row col late top bottom modes p g c).1,(printM R C row col late top bottom modes p g c).2.1,(printM R C row col late top bottom modes p g c).2.2.1) ∧ ((printM R C row col late top bottom modes p g c).2.2.2 = true → (printM R C row col late top bottom modes p g c).2.2.1 = (C:Int) - 1):=by
  have hco:=colsOf_r c
  unfold printM
  cases h1:(decide (colsOf c < 0) || decide ((C:Int) < colsOf c)) with
  | true=>exact ⟨hx,hl⟩
  | false=>
    simp only [Bool.or_eq_false_iff,decide_eq_false_iff_not] at h1
    simp only [cond_false]
    cases h2:(colsOf c == 0) with
    | true=>
      obtain ⟨k1,k2,k3⟩:=rowG_get hx.1 hx.2.1
      have hm:=markM_may (a:=bif late then col else col - 1) (c:=c) k3
      exact ⟨⟨setR_gok hx.1 ⟨hm.1,hm.2.trans k2⟩,hx.2⟩,hl⟩
    | false=>
      have h2':colsOf c ≠ 0:=by simpa using h2
      simp only [cond_false]
      obtain ⟨q1,q2⟩:=placeM_in e (nextRow_in e hx (late && wrapB modes)) (wrapB modes) (n:=colsOf c) (by omega)
      exact showM_in e.epen q1 c (by omega) q2
theorem print_eq {R C:Nat} {top bottom:Int} {p:PenT} (e:EnvS R C top bottom p) {g:GridT} {row col:Int} {late:Bool} (hx:inG R C (g,row,col)) (modes c:Int) (m:GridT) (ti:List Int) :
    screen_work_print_ec2 c (R:Int) (C:Int) row col late p.1 p.2.1 p.2.2 top bottom modes g m ti = some (printM R C row col late top bottom modes p g c):=by
  have hco:=colsOf_r c
  have hs:=e.sz
  unfold szR at hs
  obtain ⟨k1,k2,k3⟩:=rowG_get hx.1 hx.2.1
  have hgl:g.length = R:=hx.1.1
  have hrow:=hx.2.1
  have hcol:=hx.2.2
  simp only at k1 k2 k3 hrow hcol
  unfold screen_work_print_ec2 printM
  simp only [bt]
  simp only [cols_Of_eq,Option.bind_some,bto,bt2,gt_iff_lt,Bool.and_true,Bool.or_false]
  rw [req_pos (by omega),k1]
  simp only [Option.bind_some]
  cases h1:(decide (colsOf c < 0) || decide ((C:Int) < colsOf c)) with
  | true=>simp only [cond_true,rleq,req_tt]
  | false=>
    simp only [Bool.or_eq_false_iff,decide_eq_false_iff_not] at h1
    simp only [cond_false]
    cases h2:(colsOf c == 0) with
    | true=>
      simp only [cond_true,bsome,Option.bind_some]
      rw [w64id (x:=col - 1) (by omega),Mark_eq k3]
      simp only [Option.bind_some]
      rw [req_pos (by omega)]
      have e2:(bif !late then col - 1 else col) = (bif late then col else col - 1):=by cases late <;> rfl
      rw [e2,req_pos (by simp)]
      rfl
    | false=>
      have h2':colsOf c ≠ 0:=by simpa using h2
      simp only [cond_false,rleq,req_tt]
      have ew:(ibits .and .i64 modes 1 != 0) = wrapB modes:=rfl
      have ei:(ibits .and .i64 modes 4 != 0) = insB modes:=rfl
      simp only [ew,ei]
      have s1:((bif late && wrapB modes then (screen_work_feed_4f7 (R:Int) row p.1 p.2.1 p.2.2 top bottom g m ti).bind fun x13=>req (x13.1.length = x13.1.length) (some (x13.1,x13.2,(0:Int))) else some (g,row,col):Option (GridT × Int × Int))) = some (nextRow (late && wrapB modes) R top bottom p (g,row,col)):=by
        cases (late && wrapB modes) with
        | false=>rfl
        | true=>
          rw [(feed_eq e hx.1 hx.2.1 m ti).1]
          simp only [cond_true,Option.bind_some,rleq,req_tt]
          rfl
      have ha:=nextRow_in e hx (late && wrapB modes)
      simp only [rleq,req_tt] at s1
      rw [s1]
      simp only [Option.bind_some]
      generalize nextRow (late && wrapB modes) R top bottom p (g,row,col) = x at *
      rw [w64id (x:=(C:Int) - colsOf c) (by omega)]
      have s2:((bif decide ((C:Int) - colsOf c < x.2.2) then bif wrapB modes then (screen_work_feed_4f7 (R:Int) x.2.1 p.1 p.2.1 p.2.2 top bottom x.1 m ti).bind fun x20=>some (x20.1,x20.2,(0:Int)) else some (x.1,x.2.1,(C:Int) - colsOf c) else some (x.1,x.2.1,x.2.2):Option (GridT × Int × Int))) = some (placeM R C top bottom (wrapB modes) p (colsOf c) x):=by
        unfold placeM
        cases decide ((C:Int) - colsOf c < x.2.2) with
        | false=>rfl
        | true=>
          cases wrapB modes with
          | false=>rfl
          | true=>
            rw [(feed_eq e ha.1 ha.2.1 m ti).1]
            rfl
      rw [s2]
      simp only [Option.bind_some]
      obtain ⟨hb,hb2⟩:=placeM_in e ha (wrapB modes) (n:=colsOf c) (by omega)
      generalize placeM R C top bottom (wrapB modes) p (colsOf c) x = y at *
      obtain ⟨j1,j2,j3⟩:=rowG_get hb.1 hb.2.1
      have hyl:y.1.length = R:=hb.1.1
      obtain ⟨hy1,hy2,hy3⟩:=hb
      rw [req_pos (by omega),j1]
      simp only [Option.bind_some]
      have hins:(line_Insert_426 (rowG y.1 y.2.1) y.2.2 (colsOf c) (p.1,p.2.1,p.2.2)) = some (insertM (rowG y.1 y.2.1) y.2.2 (colsOf c) p):=Insert_eq j3 e.epen
      rw [hins]
      simp only [Option.bind_some,bsome]
      have hl:mayLine (bif insB modes then insertM (rowG y.1 y.2.1) y.2.2 (colsOf c) p else rowG y.1 y.2.1) = true:=by
        cases insB modes with
        | true=>exact (insertM_may j3 e.epen).1
        | false=>exact j3
      have hput:(line_Put_af7 (bif insB modes then insertM (rowG y.1 y.2.1) y.2.2 (colsOf c) p else rowG y.1 y.2.1) y.2.2 c (p.1,p.2.1,p.2.2)) = some (putM (bif insB modes then insertM (rowG y.1 y.2.1) y.2.2 (colsOf c) p else rowG y.1 y.2.1) y.2.2 c p):=Put_eq hl e.epen
      rw [hput]
      simp only [Option.bind_some,ge_iff_le]
      rw [req_pos (by omega),w64id (x:=y.2.2 + colsOf c) (by omega),w64id (x:=(C:Int) - 1) (by omega),req_pos (by simp),req_pos (by simp)]
      unfold showM
      cases decide ((C:Int) ≤ y.2.2 + colsOf c) <;> rfl
end Go.SH
namespace Go.SH
structure Sc where
  rows:Int
  cols:Int
  grid:GridT
  main:GridT
  row:Int
  col:Int
  late:Bool
  pen:PenT
  top:Int
  bottom:Int
  modes:Int
  sv0:SpotT
  sv1:SpotT
  tabs:TabT
  title:List Int
def Sc.t (s:Sc):ScrT:=(s.rows,s.cols,s.grid,s.main,s.row,s.col,s.late,s.pen,s.top,s.bottom,s.modes,(s.sv0,s.sv1),s.tabs,s.title)
def Sc.f (s:Sc):FlatT:=(s.grid,s.main,s.title,s.rows,s.cols,s.row,s.col,s.late,s.pen.1,s.pen.2.1,s.pen.2.2,s.top,s.bottom,s.modes,
  s.sv0.1,s.sv0.2.1,s.sv0.2.2.1.1,s.sv0.2.2.1.2.1,s.sv0.2.2.1.2.2,s.sv0.2.2.2.1,s.sv0.2.2.2.2,
  s.sv1.1,s.sv1.2.1,s.sv1.2.2.1.1,s.sv1.2.2.1.2.1,s.sv1.2.2.1.2.2,s.sv1.2.2.2.1,s.sv1.2.2.2.2,s.tabs.1,s.tabs.2.1,s.tabs.2.2.1,s.tabs.2.2.2)
theorem unflat_f (s:Sc):unflat s.f = s.t:=rfl
noncomputable def chgS (ch:ChT) (s:Sc):Option FlatT:=screen_work_change_537 ch s.rows s.cols s.row s.col s.late s.pen.1 s.pen.2.1 s.pen.2.2 s.top s.bottom s.modes
  s.sv0.1 s.sv0.2.1 s.sv0.2.2.1.1 s.sv0.2.2.1.2.1 s.sv0.2.2.1.2.2 s.sv0.2.2.2.1 s.sv0.2.2.2.2
  s.sv1.1 s.sv1.2.1 s.sv1.2.2.1.1 s.sv1.2.2.1.2.1 s.sv1.2.2.1.2.2 s.sv1.2.2.2.1 s.sv1.2.2.2.2 s.tabs.1 s.tabs.2.1 s.tabs.2.2.1 s.tabs.2.2.2 s.grid s.main s.title
theorem chgP_t (ch:ChT) (s:Sc):chgP ch s.t = chgS ch s:=rfl
/-- A screen that may be, of that size. -/
structure OkS (s:Sc) (R C:Nat):Prop where
  hr:s.rows = R
  hc:s.cols = C
  sz:szR R C
  g:gok s.grid R C
  m:(otherM s.modes = true ∧ gok s.main R C) ∨ (otherM s.modes = false ∧ s.main = [])
  row:0 ≤ s.row ∧ s.row < R
  col:0 ≤ s.col ∧ s.col < C
  late:s.late = true → s.col = (C:Int) - 1
  top:0 ≤ s.top ∧ s.top < R
  bot:0 ≤ s.bottom ∧ s.bottom < R
  tb:s.top < s.bottom ∨ R ≤ 1
  md:0 ≤ s.modes ∧ s.modes ≤ 255
  pen:mayPen s.pen = true
  s0:maySpot s.sv0 = true
  s1:maySpot s.sv1 = true
  ti:mayTitle s.title = true
  tabs:tabsOK s.tabs
theorem OkS.env {s:Sc} {R C:Nat} (h:OkS s R C):EnvS R C s.top s.bottom s.pen:=⟨h.sz,h.top.1,by have:=h.tb;have:=h.top;have:=h.bot;omega,h.bot.2,h.pen⟩
theorem OkS.inG {s:Sc} {R C:Nat} (h:OkS s R C):inG R C (s.grid,s.row,s.col):=⟨h.g,h.row,h.col⟩
theorem OkS.may {s:Sc} {R C:Nat} (h:OkS s R C):mayScr s.t = true:=by
  have hg:sizedM s.grid s.rows s.cols = true:=sizedM_iff.2 ⟨R,C,h.hr,h.hc,h.sz,h.g⟩
  have hsz:=h.sz
  unfold szR at hsz
  have h1:=h.row;have h2:=h.col;have h3:=h.top;have h4:=h.bot;have h5:=h.tb;have h6:=h.md;have h7:=h.late
  have hm:(otherM s.modes == decide (0 < s.main.length)) = true ∧ (!otherM s.modes || sizedM s.main s.rows s.cols) = true:=by
    rcases h.m with ⟨m1,m2⟩ | ⟨m1,m2⟩
    · have:sizedM s.main s.rows s.cols = true:=sizedM_iff.2 ⟨R,C,h.hr,h.hc,h.sz,m2⟩
      rw [m1,this,dec_t (by rw [m2.1];omega)]
      exact ⟨rfl,rfl⟩
    · rw [m1,m2];exact ⟨rfl,rfl⟩
  have hr:=h.hr;have hc:=h.hc
  unfold mayScr Sc.t
  simp only [hg,hm.1,hm.2,h.pen,h.s0,h.s1,h.ti,Bool.and_self,Bool.true_and,Bool.and_true]
  rw [dec_t (by omega:0 ≤ s.row ∧ s.row < s.rows),dec_t (by omega:0 ≤ s.top ∧ s.top < s.rows),dec_t (by omega:0 ≤ s.bottom ∧ s.bottom < s.rows),dec_t h2.1,dec_t (by omega:s.col < s.cols),dec_t h6.1,dec_t h6.2]
  have e1:(!s.late || decide (s.cols - 1 ≤ s.col)) = true:=by
    cases hl:s.late with
    | false=>rfl
    | true=>have:=h7 hl;rw [dec_t (by omega)];rfl
  have e2:(!decide (s.bottom ≤ s.top) || decide (s.rows ≤ 1)) = true:=by
    rcases h5 with h5 | h5
    · rw [dec_f (by omega)];rfl
    · rw [dec_t (by omega:s.rows ≤ 1)];simp
  rw [e1,e2];rfl
noncomputable def moveM (ch:ChT) (R C row col:Int) (late:Bool) (p:PenT) (top bottom modes:Int) (t:TabT) (g:GridT):GridT × Int × Int × Bool:=
  bif ch.1 == 2 then ((feedN R top bottom p ch.2.1.toNat (g,row)).1,(feedN R top bottom p ch.2.1.toNat (g,row)).2,col,late)
  else bif ch.1 == 3 then (bif row == top then (scrM g top bottom (-1) p,row,col,late) else (g,if row - 1 > 0 then row - 1 else 0,col,late))
  else bif ch.1 == 4 then (g,row,0,late)
  else bif ch.1 == 5 then (g,(goToM ch.2.1 ch.2.2.1 R C top bottom modes).1,(goToM ch.2.1 ch.2.2.1 R C top bottom modes).2,false)
  else bif ch.1 == 6 then (g,(stepM ch.2.1 ch.2.2.1 R C row col top bottom).1,(stepM ch.2.1 ch.2.2.1 R C row col top bottom).2,late)
  else bif ch.1 == 7 then (g,row,betw ch.2.1 0 (C - 1),late)
  else bif ch.1 == 8 then (g,(goToM ch.2.1 col R C top bottom modes).1,(goToM ch.2.1 col R C top bottom modes).2,false)
  else bif ch.1 == 9 then (g,row,backN t (-ch.2.1).toNat (nextN t C ch.2.1.toNat col),late)
  else (g,row,col,late)
theorem beqf {a b:Int} (h:(a == b) = true):a = b:=by simpa using h
theorem move_eq {R C:Nat} {ch:ChT} {row col:Int} {p:PenT} {top bottom:Int} {t:TabT} {g:GridT} (e:EnvS R C top bottom p) (hx:inG R C (g,row,col)) (ht:tabsOK t) (hn:ch.1 ≠ 20 → ch.1 ≠ 27 → (-1000 ≤ ch.2.1 ∧ ch.2.1 ≤ 1000) ∧ -1000 ≤ ch.2.2.1 ∧ ch.2.2.1 ≤ 1000) (modes:Int) (m:GridT) (ti:List Int) :
    screen_work_move_568 ch (R:Int) (C:Int) row col false p.1 p.2.1 p.2.2 top bottom modes t.1 t.2.1 t.2.2.1 t.2.2.2 g m ti = some (moveM ch R C row col false p top bottom modes t g) ∧
    inG R C ((moveM ch R C row col false p top bottom modes t g).1,(moveM ch R C row col false p top bottom modes t g).2.1,(moveM ch R C row col false p top bottom modes t g).2.2.1) ∧ (moveM ch R C row col false p top bottom modes t g).2.2.2 = false:=by
  have hs:=e.sz
  unfold szR at hs
  obtain ⟨hg,hr,hc⟩:=hx
  simp only at hg hr hc
  have hx:inG R C (g,row,col):=⟨hg,hr,hc⟩
  unfold screen_work_move_568 moveM
  simp only [bt,Option.bind_some,rleq,req_tt,between_eq]
  cases h2:(ch.1 == 2) with
  | true=>
    obtain ⟨⟨n1,n2⟩,n3⟩:=hn (by have:=beqf h2;omega) (by have:=beqf h2;omega)
    obtain ⟨l1,l2,l3⟩:=feed_loop e m ti (ch:=ch) n2 ch.2.1.toNat 0 g row (by omega) (by omega) (by omega) hg hr
    simp only [cond_true]
    rw [l1]
    exact ⟨rfl,⟨l2,l3,hc⟩,by first | trivial | rfl⟩
  | false=>
  simp only [cond_false]
  cases h3:(ch.1 == 3) with
  | true=>
    simp only [cond_true]
    cases h31:(row == top) with
    | true=>
      obtain ⟨q1,q2⟩:=scr_eq e.sz e.epen e.ebot hg e.etop e.etb (n:=-1) (by omega)
      simp only [cond_true]
      rw [q1]
      exact ⟨rfl,⟨q2,hr,hc⟩,by first | trivial | rfl⟩
    | false=>
      simp only [cond_false]
      rw [w64id (x:=row - 1) (by omega)]
      refine ⟨rfl,⟨hg,?_,hc⟩,by first | trivial | rfl⟩
      simp only
      split <;> omega
  | false=>
  simp only [cond_false]
  cases h4:(ch.1 == 4) with
  | true=>exact ⟨rfl,⟨hg,hr,by simp only [cond_true];omega⟩,rfl⟩
  | false=>
  simp only [cond_false]
  cases h5:(ch.1 == 5) with
  | true=>
    obtain ⟨⟨n1,n2⟩,n3⟩:=hn (by have:=beqf h5;omega) (by have:=beqf h5;omega)
    obtain ⟨q1,q2,q3⟩:=goTo_eq (row:=ch.2.1) (col:=ch.2.2.1) e.sz e.etop e.etb e.ebot (by omega) modes
    simp only [cond_true]
    rw [q1]
    exact ⟨rfl,⟨hg,q2,q3⟩,by first | trivial | rfl⟩
  | false=>
  simp only [cond_false]
  cases h6:(ch.1 == 6) with
  | true=>
    obtain ⟨⟨n1,n2⟩,n3⟩:=hn (by have:=beqf h6;omega) (by have:=beqf h6;omega)
    obtain ⟨q1,q2,q3⟩:=step_eq (rows:=ch.2.1) (cols:=ch.2.2.1) e.sz e.etop e.etb e.ebot (by omega) (by omega) hr hc
    simp only [cond_true]
    rw [q1]
    exact ⟨rfl,⟨hg,q2,q3⟩,by first | trivial | rfl⟩
  | false=>
  simp only [cond_false]
  cases h7:(ch.1 == 7) with
  | true=>
    have:=betw_r (n:=ch.2.1) (lo:=0) (hi:=(C:Int) - 1) (by omega)
    simp only [cond_true]
    rw [w64id (x:=(C:Int) - 1) (by omega)]
    exact ⟨rfl,⟨hg,hr,by simp only;omega⟩,by first | trivial | rfl⟩
  | false=>
  simp only [cond_false]
  cases h8:(ch.1 == 8) with
  | true=>
    obtain ⟨⟨n1,n2⟩,n3⟩:=hn (by have:=beqf h8;omega) (by have:=beqf h8;omega)
    obtain ⟨q1,q2,q3⟩:=goTo_eq (row:=ch.2.1) (col:=col) e.sz e.etop e.etb e.ebot (by omega) modes
    simp only [cond_true]
    rw [q1]
    exact ⟨rfl,⟨hg,q2,q3⟩,by first | trivial | rfl⟩
  | false=>
  simp only [cond_false]
  cases h9:(ch.1 == 9) with
  | true=>
    obtain ⟨⟨n1,n2⟩,n3⟩:=hn (by have:=beqf h9;omega) (by have:=beqf h9;omega)
    obtain ⟨q1,q2⟩:=next_loop ht (C:=C) (by omega) (ch:=ch) n2 ch.2.1.toNat 0 col (by omega) (by omega) (by omega) hc
    obtain ⟨q3,q4⟩:=back_loop ht (C:=C) (ch:=ch) ⟨n1,n2⟩ (-ch.2.1).toNat 0 _ (by omega) (by omega) (by omega) q2
    simp only [cond_true]
    rw [q1]
    simp only [Option.bind_some]
    rw [q3]
    exact ⟨rfl,⟨hg,hr,q4⟩,by first | trivial | rfl⟩
  | false=>exact ⟨rfl,hx,rfl⟩
def eraseW (which:Int) (first here last:Int × Int) (p:PenT) (g:GridT):GridT:=
  bif which == 0 then eraseG g here last p else bif which == 1 then eraseG g first here p else bif which == 2 then eraseG g first last p else g
theorem eraseW_eq {R C:Nat} {p:PenT} {g:GridT} (hg:gok g R C) (hs:szR R C) (hp:mayPen p = true) (w:Int) (f h l:Int × Int) :
    screen_work_erase_ec4 w f h l p.1 p.2.1 p.2.2 g = some (eraseW w f h l p g) ∧ gok (eraseW w f h l p g) R C:=by
  have key:∀ a b:Int × Int,grid_Erase_5db a b (p.1,p.2.1,p.2.2) g = some (eraseG g a b p):=fun a b=>EraseG_eq hg hs hp
  unfold screen_work_erase_ec4 eraseW
  simp only [bt,Option.bind_some,rleq,req_tt,key]
  cases w == 0 with
  | true=>exact ⟨rfl,eraseG_gok hg hp⟩
  | false=>
    cases w == 1 with
    | true=>exact ⟨rfl,eraseG_gok hg hp⟩
    | false=>
      cases w == 2 with
      | true=>exact ⟨rfl,eraseG_gok hg hp⟩
      | false=>exact ⟨rfl,hg⟩
def cellE:CellT:=(69,(0,0),0,0,0,0)
def alignG (g:GridT):GridT:=g.map fun l=>List.replicate l.length cellE
theorem cellE_step:cellSt none cellE = some none:=by decide +kernel
theorem cellE_seg:∀ n,seg (List.replicate n cellE)
  | 0=>rfl
  | n + 1=>by
    unfold seg
    rw [List.replicate_succ,lineRun,cellE_step]
    exact cellE_seg n
theorem alignM_ok {R C:Nat} {g:GridT} (hg:gok g R C) (hs:szR R C):screen_work_align_f36 (R:Int) g = some (alignG g,(R:Int) - 1) ∧ gok (alignG g) R C:=by
  have hs':=hs
  unfold szR at hs
  constructor
  · unfold screen_work_align_f36
    have hh:((g).headD []).length = C:=by
      cases g with
      | nil=>have:=hg.1;simp at this;omega
      | cons l r=>exact (hg.2 l (by simp)).1
    rw [hh]
    have:rowsOK g C = true:=by
      unfold rowsOK
      rw [dec_t (by omega:0 < C),dec_t (by omega:C ≤ 1000),dec_t (by have:=hg.1;omega:g.length ≤ 1000)]
      simp only [Bool.true_and,List.all_eq_true,decide_eq_true_eq]
      exact fun l hl=>(hg.2 l hl).1
    erw [if_pos this]
    rw [w64id (by omega)]
    rfl
  · unfold alignG
    refine ⟨by simp [hg.1],fun l hl=>?_⟩
    obtain ⟨x,hx,rfl⟩:=List.mem_map.1 hl
    have:=(hg.2 x hx).1
    exact ⟨by simp [this],mayLine_iff.2 ⟨by simp;omega,cellE_seg _⟩⟩
def pos0 (x:Int):Int:=if x > 0 then x else 0
noncomputable def resizeM (r c:Int) (s:Sc):Sc:=
  { s with
    grid:=fitG s.grid r.toNat c.toNat (pos0 (s.row + 1 - r)).toNat
    main:=bif decide ((s.main.length:Int) > 0) then fitG s.main r.toNat c.toNat (pos0 ((if s.rows - 1 < s.sv0.1 then s.rows - 1 else s.sv0.1) + 1 - r)).toNat else s.main
    rows:=r,cols:=c,row:=s.row - pos0 (s.row + 1 - r),col:=if c - 1 < s.col then c - 1 else s.col,top:=0,bottom:=r - 1
    tabs:=bif decide (c > s.cols) then (tabs_Wider s.tabs s.cols c).getD (0,0,0,0) else s.tabs }
theorem Fit_63e_r:grid_Fit_63e = grid_Fit_3da:=rfl
theorem resize_eq {s:Sc} {R C:Nat} (h:OkS s R C) (hl:s.late = false) {R' C':Nat} (hs':szR R' C') :
    screen_work_resize_d5f (R':Int) (C':Int) s.rows s.cols s.row s.col s.sv0.1 s.tabs.1 s.tabs.2.1 s.tabs.2.2.1 s.tabs.2.2.2 s.grid s.main = some ((resizeM R' C' s).grid,(resizeM R' C' s).main,(resizeM R' C' s).rows,(resizeM R' C' s).cols,(resizeM R' C' s).row,(resizeM R' C' s).col,(resizeM R' C' s).bottom,(resizeM R' C' s).tabs.1,(resizeM R' C' s).tabs.2.1,(resizeM R' C' s).tabs.2.2.1,(resizeM R' C' s).tabs.2.2.2) ∧ OkS (resizeM R' C' s) R' C':=by
  have hsz:=h.sz
  have hsz':=hs'
  unfold szR at hsz hsz'
  have h1:=h.row;have h2:=h.col;have hr:=h.hr;have hc:=h.hc
  have hsp:0 ≤ s.sv0.1 ∧ s.sv0.1 < 200:=by
    have:=h.s0
    simp only [maySpot,Bool.and_eq_true,decide_eq_true_eq] at this
    exact this.1
  obtain ⟨gone,hgone⟩:∃ k:Nat,pos0 (s.row + 1 - R') = k:=⟨(pos0 (s.row + 1 - R')).toNat,by unfold pos0;split <;> omega⟩
  have hgle:gone ≤ R:=by unfold pos0 at hgone;split at hgone <;> omega
  obtain ⟨gm,hgm⟩:∃ k:Nat,pos0 ((if s.rows - 1 < s.sv0.1 then s.rows - 1 else s.sv0.1) + 1 - R') = k:=⟨(pos0 ((if s.rows - 1 < s.sv0.1 then s.rows - 1 else s.sv0.1) + 1 - R')).toNat,by unfold pos0;split <;> omega⟩
  have hgmle:gm ≤ R:=by unfold pos0 at hgm;split at hgm <;> split at hgm <;> omega
  have hgok':0 ≤ s.row - gone ∧ s.row - gone < R':=by unfold pos0 at hgone;split at hgone <;> omega
  have hF:=FitG_eq h.g h.sz hs' hgle
  have hmin:∃ k:Int,(if s.rows - 1 < s.sv0.1 then s.rows - 1 else s.sv0.1) = k ∧ 0 ≤ k ∧ k < 200:=⟨_,rfl,by split <;> omega,by split <;> omega⟩
  obtain ⟨k,hk,hk1,hk2⟩:=hmin
  rw [hk] at hgm
  have hmain:((bif decide ((s.main.length:Int) > 0) then (grid_Fit_3da (R':Int) (C':Int) (gm:Int) s.main).bind fun x5=>some x5 else some s.main:Option GridT)) = some (resizeM R' C' s).main ∧ ((otherM s.modes = true ∧ gok (resizeM R' C' s).main R' C') ∨ (otherM s.modes = false ∧ (resizeM R' C' s).main = [])):=by
    unfold resizeM
    simp only [hk,hgm,Int.toNat_natCast]
    rcases h.m with ⟨m1,m2⟩ | ⟨m1,m2⟩
    · rw [dec_t (by rw [m2.1];omega:(s.main.length:Int) > 0)]
      simp only [cond_true]
      rw [FitG_eq m2 h.sz hs' hgmle]
      exact ⟨rfl,.inl ⟨m1,fitG_gok m2 hs'⟩⟩
    · rw [m2]
      exact ⟨rfl,.inr ⟨m1,rfl⟩⟩
  have htabs:((bif decide ((C':Int) > s.cols) then (tabs_Wider (s.tabs.1,s.tabs.2.1,s.tabs.2.2.1,s.tabs.2.2.2) s.cols (C':Int)).bind fun x10=>some (x10.1,x10.2.1,x10.2.2.1,x10.2.2.2) else some (s.tabs.1,s.tabs.2.1,s.tabs.2.2.1,s.tabs.2.2.2):Option TabT)) = some (resizeM R' C' s).tabs ∧ tabsOK (resizeM R' C' s).tabs:=by
    unfold resizeM
    simp only
    obtain ⟨t',ht1,ht2⟩:=Wider_ok h.tabs s.cols (C':Int)
    cases decide ((C':Int) > s.cols) with
    | true=>
      simp only [cond_true]
      have:tabs_Wider (s.tabs.1,s.tabs.2.1,s.tabs.2.2.1,s.tabs.2.2.2) s.cols (C':Int) = some t':=ht1
      rw [this]
      exact ⟨rfl,ht2⟩
    | false=>exact ⟨rfl,h.tabs⟩
  constructor
  · unfold screen_work_resize_d5f
    simp only [rleq,req_tt,bt,Option.bind_some]
    rw [w64id (x:=s.row + 1) (by omega),w64id (x:=s.row + 1 - (R':Int)) (by omega),w64id (x:=s.rows - 1) (by omega),hk,w64id (x:=k + 1) (by omega),w64id (x:=k + 1 - (R':Int)) (by omega)]
    have e1:(if s.row + 1 - (R':Int) > 0 then s.row + 1 - (R':Int) else 0) = (gone:Int):=hgone
    have e2:(if k + 1 - (R':Int) > 0 then k + 1 - (R':Int) else 0) = (gm:Int):=hgm
    rw [e1,e2,hF,Fit_63e_r]
    simp only [Option.bind_some]
    rw [hmain.1]
    simp only [Option.bind_some]
    erw [htabs.1]
    simp only [Option.bind_some]
    rw [w64id (x:=s.row - (gone:Int)) (by omega),w64id (x:=(C':Int) - 1) (by omega),w64id (x:=(R':Int) - 1) (by omega)]
    unfold resizeM
    simp only [hgone,Int.toNat_natCast]
  · refine ⟨rfl,rfl,hs',?_,hmain.2,?_,?_,?_,?_,?_,?_,h.md,h.pen,h.s0,h.s1,h.ti,htabs.2⟩
    · unfold resizeM
      simp only [hgone,Int.toNat_natCast]
      exact fitG_gok h.g hs'
    · unfold resizeM
      simp only [hgone]
      exact hgok'
    · unfold resizeM
      simp only
      split <;> omega
    · intro hl'
      have:s.late = true:=hl'
      rw [hl] at this;simp at this
    · unfold resizeM;simp only;omega
    · unfold resizeM;simp only;omega
    · unfold resizeM;simp only;omega
end Go.SH
namespace Go.SH
noncomputable def editM (ch:ChT) (s:Sc):Sc:=
  bif ch.1 == 11 then { s with grid:=eraseW ch.2.1 (s.row,0) (s.row,s.col) (s.row,s.cols - 1) s.pen s.grid }
  else bif ch.1 == 12 then { s with grid:=eraseW ch.2.1 (0,0) (s.row,s.col) (s.rows - 1,s.cols - 1) s.pen s.grid }
  else bif ch.1 == 13 then { s with grid:=setR s.grid s.row (insertM (rowG s.grid s.row) s.col ch.2.1 s.pen) }
  else bif ch.1 == 14 then { s with grid:=setR s.grid s.row (deleteM (rowG s.grid s.row) s.col ch.2.1 s.pen) }
  else bif ch.1 == 15 then { s with grid:=setR s.grid s.row (eraseM (rowG s.grid s.row) s.col (s.col + pos0 ch.2.1) s.pen) }
  else bif (ch.1 == 16) || (ch.1 == 17) then (bif decide (s.row < s.top) || decide (s.row > s.bottom) then s else { s with grid:=scrM s.grid s.row s.bottom (bif ch.1 == 16 then 0 - pos0 ch.2.1 else pos0 ch.2.1) s.pen,col:=0 })
  else bif ch.1 == 18 then { s with grid:=scrM s.grid s.top s.bottom ch.2.1 s.pen }
  else bif ch.1 == 19 then (bif decide (ch.2.1 ≥ 0) && (decide (ch.2.1 < ch.2.2.1) && decide (ch.2.2.1 < s.rows)) then
    { s with row:=(goToM 0 0 s.rows s.cols ch.2.1 ch.2.2.1 s.modes).1,col:=(goToM 0 0 s.rows s.cols ch.2.1 ch.2.2.1 s.modes).2,late:=false,top:=ch.2.1,bottom:=ch.2.2.1 } else s)
  else bif ch.1 == 23 then { s with grid:=alignG s.grid,row:=0,col:=0,top:=0,bottom:=s.rows - 1 }
  else bif ch.1 == 27 then resizeM (betw ch.2.1 1 200) (betw ch.2.2.1 1 200) s
  else s
def Sc.e (s:Sc):GridT × GridT × Int × Int × Int × Int × Bool × Int × Int × Int × Int × Int × Int:=(s.grid,s.main,s.rows,s.cols,s.row,s.col,s.late,s.top,s.bottom,s.tabs.1,s.tabs.2.1,s.tabs.2.2.1,s.tabs.2.2.2)
theorem okG {s:Sc} {R C:Nat} (h:OkS s R C) {g:GridT} (hg:gok g R C):OkS { s with grid:=g } R C:=⟨h.hr,h.hc,h.sz,hg,h.m,h.row,h.col,h.late,h.top,h.bot,h.tb,h.md,h.pen,h.s0,h.s1,h.ti,h.tabs⟩
/-- The size stays, but where it is another one. -/
def Keeps (ch:ChT) (s:Sc) (R C:Nat):Prop:=∃ R' C',OkS s R' C' ∧ (ch.1 ≠ 27 → R' = R ∧ C' = C)
theorem keeps {ch:ChT} {s:Sc} {R C:Nat} (h:OkS s R C):Keeps ch s R C:=⟨R,C,h,fun _=>⟨rfl,rfl⟩⟩
def chN (ch:ChT):Prop:=ch.1 ≠ 20 → ch.1 ≠ 27 → (-1000 ≤ ch.2.1 ∧ ch.2.1 ≤ 1000) ∧ -1000 ≤ ch.2.2.1 ∧ ch.2.2.1 ≤ 1000
theorem edit_eq {s:Sc} {R C:Nat} (h:OkS s R C) (hl:s.late = false) {ch:ChT} (hn:chN ch) :
    screen_work_edit_537 ch s.rows s.cols s.row s.col s.late s.pen.1 s.pen.2.1 s.pen.2.2 s.top s.bottom s.modes s.sv0.1 s.tabs.1 s.tabs.2.1 s.tabs.2.2.1 s.tabs.2.2.2 s.grid s.main s.title = some (editM ch s).e ∧ Keeps ch (editM ch s) R C:=by
  have hs:=h.sz
  unfold szR at hs
  have hr:=h.row;have hc:=h.col;have hR:=h.hr;have hC:=h.hc;have ht:=h.top;have hb:=h.bot
  have hgl:s.grid.length = R:=h.g.1
  obtain ⟨k1,k2,k3⟩:=rowG_get h.g h.row
  have hins:∀ n,(line_Insert_426 (rowG s.grid s.row) s.col n (s.pen.1,s.pen.2.1,s.pen.2.2)) = some (insertM (rowG s.grid s.row) s.col n s.pen):=fun n=>Insert_eq k3 h.pen
  have hdel:∀ n,(line_Delete_426 (rowG s.grid s.row) s.col n (s.pen.1,s.pen.2.1,s.pen.2.2)) = some (deleteM (rowG s.grid s.row) s.col n s.pen):=fun n=>Delete_eq k3 h.pen
  have hera:∀ n,(line_Erase_426 (rowG s.grid s.row) s.col n (s.pen.1,s.pen.2.1,s.pen.2.2)) = some (eraseM (rowG s.grid s.row) s.col n s.pen):=fun n=>Erase_eq k3 h.pen
  have w1:IntKind.i64.wrap (s.rows - 1) = s.rows - 1:=w64id (by omega)
  have w2:IntKind.i64.wrap (s.cols - 1) = s.cols - 1:=w64id (by omega)
  unfold screen_work_edit_537 editM
  rw [req_pos (by omega),k1]
  simp only [bt]
  simp only [bt2,bto,btor,Option.bind_some,Bool.and_true,Bool.or_false,rleq,req_tt,between_eq,w1,w2]
  cases h1:(ch.1 == 11) with
  | true=>
    obtain ⟨q1,q2⟩:=eraseW_eq h.g h.sz h.pen ch.2.1 (s.row,0) (s.row,s.col) (s.row,s.cols - 1)
    simp only [cond_true]
    rw [q1]
    exact ⟨rfl,keeps (okG h q2)⟩
  | false=>
  simp only [cond_false]
  cases h2:(ch.1 == 12) with
  | true=>
    obtain ⟨q1,q2⟩:=eraseW_eq h.g h.sz h.pen ch.2.1 (0,0) (s.row,s.col) (s.rows - 1,s.cols - 1)
    simp only [cond_true]
    rw [q1]
    exact ⟨rfl,keeps (okG h q2)⟩
  | false=>
  simp only [cond_false]
  cases h3:(ch.1 == 13) with
  | true=>
    simp only [cond_true]
    rw [hins]
    simp only [Option.bind_some]
    rw [req_pos (by omega),req_pos (by simp)]
    have hm:=insertM_may (a:=s.col) (n:=ch.2.1) k3 h.pen
    exact ⟨rfl,keeps (okG h (setR_gok h.g ⟨hm.1,hm.2.trans k2⟩))⟩
  | false=>
  simp only [cond_false]
  cases h4:(ch.1 == 14) with
  | true=>
    simp only [cond_true]
    rw [hdel]
    simp only [Option.bind_some]
    rw [req_pos (by omega),req_pos (by simp)]
    have hm:=deleteM_may (a:=s.col) (n:=ch.2.1) k3 h.pen
    exact ⟨rfl,keeps (okG h (setR_gok h.g ⟨hm.1,hm.2.trans k2⟩))⟩
  | false=>
  simp only [cond_false]
  cases h5:(ch.1 == 15) with
  | true=>
    obtain ⟨⟨n1,n2⟩,n3⟩:=hn (by have:=beqf h5;omega) (by have:=beqf h5;omega)
    simp only [cond_true]
    have e0:(if ch.2.1 > (0:Int) then ch.2.1 else (0:Int)) = pos0 ch.2.1:=rfl
    have e1:IntKind.i64.wrap (s.col + pos0 ch.2.1) = s.col + pos0 ch.2.1:=w64id (by unfold pos0;split <;> omega)
    rw [e0,e1,hera]
    simp only [Option.bind_some]
    rw [req_pos (by omega),req_pos (by simp)]
    have hm:=eraseM_may (f:=s.col) (t:=s.col + pos0 ch.2.1) k3 h.pen
    exact ⟨rfl,keeps (okG h (setR_gok h.g ⟨hm.1,hm.2.trans k2⟩))⟩
  | false=>
  simp only [cond_false]
  cases h6:((ch.1 == 16) || (ch.1 == 17)) with
  | true=>
    simp only [cond_true]
    cases h61:(decide (s.row < s.top) || decide (s.row > s.bottom)) with
    | true=>exact ⟨rfl,keeps h⟩
    | false=>
      simp only [Bool.or_eq_false_iff,decide_eq_false_iff_not] at h61
      have hk:ch.1 = 16 ∨ ch.1 = 17:=by simpa using h6
      obtain ⟨⟨n1,n2⟩,n3⟩:=hn (by omega) (by omega)
      have e0:(if ch.2.1 > (0:Int) then ch.2.1 else (0:Int)) = pos0 ch.2.1:=rfl
      have hp0:0 ≤ pos0 ch.2.1 ∧ pos0 ch.2.1 ≤ 1000:=by unfold pos0;split <;> omega
      have e1:IntKind.i64.wrap (0 - pos0 ch.2.1) = 0 - pos0 ch.2.1:=w64id (by omega)
      simp only [cond_false,e0,e1,bsome,Option.bind_some]
      obtain ⟨q1,q2⟩:=scr_eq h.sz h.pen h.bot.2 h.g hr.1 (by omega) (f:=s.row) (n:=(bif ch.1 == 16 then 0 - pos0 ch.2.1 else pos0 ch.2.1)) (by cases (ch.1 == 16) <;> simp only [cond_true,cond_false] <;> omega)
      rw [q1]
      exact ⟨rfl,keeps ⟨h.hr,h.hc,h.sz,q2,h.m,h.row,by simp only;omega,by intro hl';rw [hl] at hl';simp at hl',h.top,h.bot,h.tb,h.md,h.pen,h.s0,h.s1,h.ti,h.tabs⟩⟩
  | false=>
  simp only [cond_false]
  cases h7:(ch.1 == 18) with
  | true=>
    obtain ⟨⟨n1,n2⟩,n3⟩:=hn (by have:=beqf h7;omega) (by have:=beqf h7;omega)
    simp only [cond_true]
    obtain ⟨q1,q2⟩:=scr_eq h.sz h.pen h.bot.2 h.g ht.1 h.env.etb (n:=ch.2.1) (by omega)
    rw [q1]
    exact ⟨rfl,keeps (okG h q2)⟩
  | false=>
  simp only [cond_false]
  cases h8:(ch.1 == 19) with
  | true=>
    simp only [cond_true]
    cases h81:(decide (ch.2.1 ≥ 0) && (decide (ch.2.1 < ch.2.2.1) && decide (ch.2.2.1 < s.rows))) with
    | true=>
      simp only [Bool.and_eq_true,decide_eq_true_eq] at h81
      simp only [cond_true]
      obtain ⟨q1,q2,q3⟩:=goTo_eq (row:=0) (col:=0) (top:=ch.2.1) (bottom:=ch.2.2.1) h.sz (by omega) (by omega) (by omega) (by omega) s.modes
      rw [← hR,← hC] at q1 q2 q3
      rw [q1]
      refine ⟨rfl,keeps ⟨h.hr,h.hc,h.sz,h.g,h.m,by simp only;omega,by simp only;omega,by intro hl';simp at hl',by simp only;omega,by simp only;omega,by simp only;omega,h.md,h.pen,h.s0,h.s1,h.ti,h.tabs⟩⟩
    | false=>exact ⟨rfl,keeps h⟩
  | false=>
  simp only [cond_false]
  cases h9:(ch.1 == 23) with
  | true=>
    simp only [cond_true]
    obtain ⟨q1,q2⟩:=alignM_ok h.g h.sz
    rw [← hR] at q1
    rw [q1]
    simp only [Option.bind_some]
    rw [req_pos (by unfold alignG;simp)]
    refine ⟨rfl,keeps ⟨h.hr,h.hc,h.sz,q2,h.m,by simp only;omega,by simp only;omega,by intro hl';rw [hl] at hl';simp at hl',by simp only;omega,by simp only;omega,by simp only;omega,h.md,h.pen,h.s0,h.s1,h.ti,h.tabs⟩⟩
  | false=>
  simp only [cond_false]
  cases hA:(ch.1 == 27) with
  | true=>
    simp only [cond_true]
    have b1:=betw_r (n:=ch.2.1) (lo:=1) (hi:=200) (by omega)
    have b2:=betw_r (n:=ch.2.2.1) (lo:=1) (hi:=200) (by omega)
    obtain ⟨R',hR'⟩:∃ k:Nat,betw ch.2.1 1 200 = k:=⟨(betw ch.2.1 1 200).toNat,by omega⟩
    obtain ⟨C',hC'⟩:∃ k:Nat,betw ch.2.2.1 1 200 = k:=⟨(betw ch.2.2.1 1 200).toNat,by omega⟩
    rw [hR',hC']
    obtain ⟨q1,q2⟩:=resize_eq h hl (R':=R') (C':=C') ⟨by omega,by omega,by omega,by omega⟩
    rw [q1]
    exact ⟨rfl,R',C',q2,fun hne=>absurd (beqf hA) hne⟩
  | false=>exact ⟨rfl,keeps h⟩
def bits8:List Int:=[1,2,4,8,16,32,64,128]
theorem bit_all:∀ b:_root_.Fin 256,(decide ((b.val:Int) < 1) || (ibits .and .i64 (b.val:Int) (IntKind.i64.wrap ((b.val:Int) - 1)) != 0) || bits8.contains (b.val:Int)) = true:=by decide +kernel
def modeOn (m b:Int):Int:=ibits .or .i64 (ibits .andNot .i64 m b) b
def modeOff (m b:Int):Int:=ibits .andNot .i64 m b
def byteB (x:Int):Bool:=decide (0 ≤ x) && decide (x ≤ 255)
theorem mode_all:∀ m:_root_.Fin 256,∀ k:_root_.Fin 8,(let b:=bits8[k.val]?.getD 0;byteB (modeOn m.val b) && byteB (modeOff m.val b) && (b == 128 || (otherM (modeOn m.val b) == otherM m.val && (otherM (modeOff m.val b) == otherM m.val)))) = true:=by decide +kernel
theorem mode_128:∀ m:_root_.Fin 256,(otherM (modeOn m.val 128) && !otherM (modeOff m.val 128)) = true:=by decide +kernel
theorem bits8_get {b:Int} (h:b ∈ bits8):∃ k:_root_.Fin 8,bits8[k.val]?.getD 0 = b:=by
  simp only [bits8,List.mem_cons,List.not_mem_nil,or_false] at h
  rcases h with h | h | h | h | h | h | h | h <;> subst h
  · exact ⟨0,rfl⟩
  · exact ⟨1,rfl⟩
  · exact ⟨2,rfl⟩
  · exact ⟨3,rfl⟩
  · exact ⟨4,rfl⟩
  · exact ⟨5,rfl⟩
  · exact ⟨6,rfl⟩
  · exact ⟨7,rfl⟩
theorem mode_r {m b:Int} (hm:0 ≤ m ∧ m ≤ 255) (hb:b ∈ bits8):(0 ≤ modeOn m b ∧ modeOn m b ≤ 255) ∧ (0 ≤ modeOff m b ∧ modeOff m b ≤ 255) ∧ (b ≠ 128 → otherM (modeOn m b) = otherM m ∧ otherM (modeOff m b) = otherM m):=by
  obtain ⟨k,hk⟩:=bits8_get hb
  have:=mode_all ⟨m.toNat,by omega⟩ k
  simp only [hk,show ((m.toNat:Nat):Int) = m from by omega,byteB,Bool.and_eq_true,decide_eq_true_eq,Bool.or_eq_true,beq_iff_eq] at this
  exact ⟨this.1.1,this.1.2,fun h=>by rcases this.2 with h2 | h2;exact absurd h2 h;exact h2⟩
theorem mode_o {m:Int} (hm:0 ≤ m ∧ m ≤ 255):otherM (modeOn m 128) = true ∧ otherM (modeOff m 128) = false:=by
  have:=mode_128 ⟨m.toNat,by omega⟩
  simpa only [show ((m.toNat:Nat):Int) = m from by omega,Bool.and_eq_true,Bool.not_eq_true'] using this
def spotOf (s:Sc):SpotT:=(s.row,s.col,s.pen,originB s.modes,s.late)
def saveM (s:Sc):Sc:=bif otherM s.modes then { s with sv1:=spotOf s } else { s with sv0:=spotOf s }
def savedS (s:Sc):SpotT:=bif otherM s.modes then s.sv1 else s.sv0
def restoreM (s:Sc):Sc:=
  { s with row:=betw (savedS s).1 0 (s.rows - 1),col:=betw (savedS s).2.1 0 (s.cols - 1),pen:=(savedS s).2.2.1,modes:=bif (savedS s).2.2.2.1 then modeOn s.modes 2 else modeOff s.modes 2,late:=bif (savedS s).2.2.2.2 then betw (savedS s).2.1 0 (s.cols - 1) == s.cols - 1 else false }
theorem page_eq (m:Int):screen_work_page_4f7 m = some (bif otherM m then 1 else 0):=by
  unfold screen_work_page_4f7 otherM
  cases (ibits .and .i64 m 128 != 0) <;> rfl
def Sc.sv (s:Sc):Int × Int × Int × Int × Int × Bool × Bool × Int × Int × Int × Int × Int × Bool × Bool:=(s.sv0.1,s.sv0.2.1,s.sv0.2.2.1.1,s.sv0.2.2.1.2.1,s.sv0.2.2.1.2.2,s.sv0.2.2.2.1,s.sv0.2.2.2.2,
  s.sv1.1,s.sv1.2.1,s.sv1.2.2.1.1,s.sv1.2.2.1.2.1,s.sv1.2.2.1.2.2,s.sv1.2.2.2.1,s.sv1.2.2.2.2)
theorem save_eq (s:Sc) (g m:GridT) (ti:List Int):screen_work_save_4f7 s.row s.col s.late s.pen.1 s.pen.2.1 s.pen.2.2 s.modes s.sv0.1 s.sv0.2.1 s.sv0.2.2.1.1 s.sv0.2.2.1.2.1 s.sv0.2.2.1.2.2 s.sv0.2.2.2.1 s.sv0.2.2.2.2
    s.sv1.1 s.sv1.2.1 s.sv1.2.2.1.1 s.sv1.2.2.1.2.1 s.sv1.2.2.1.2.2 s.sv1.2.2.2.1 s.sv1.2.2.2.2 g m ti = some (saveM s).sv:=by
  unfold screen_work_save_4f7 saveM
  simp only [rleq,req_tt,page_eq,Option.bind_some]
  cases otherM s.modes <;> rfl
theorem spotOf_may {s:Sc} {R C:Nat} (h:OkS s R C):maySpot (spotOf s) = true:=by
  have hs:=h.sz
  unfold szR at hs
  have hr:=h.row;have hc:=h.col
  unfold maySpot spotOf
  simp only
  rw [dec_t (by omega:0 ≤ s.row ∧ s.row < 200),dec_t (by omega:0 ≤ s.col ∧ s.col < 200),h.pen];rfl
theorem saveM_ok {s:Sc} {R C:Nat} (h:OkS s R C):OkS (saveM s) R C:=by
  unfold saveM
  cases otherM s.modes with
  | true=>exact ⟨h.hr,h.hc,h.sz,h.g,h.m,h.row,h.col,h.late,h.top,h.bot,h.tb,h.md,h.pen,h.s0,spotOf_may h,h.ti,h.tabs⟩
  | false=>exact ⟨h.hr,h.hc,h.sz,h.g,h.m,h.row,h.col,h.late,h.top,h.bot,h.tb,h.md,h.pen,spotOf_may h,h.s1,h.ti,h.tabs⟩
theorem restore_eq {s:Sc} {R C:Nat} (hR:s.rows = R) (hC:s.cols = C) (hs:szR R C) (g m:GridT) (ti:List Int):screen_work_restore_4f7 s.rows s.cols s.modes s.sv0.1 s.sv0.2.1 s.sv0.2.2.1.1 s.sv0.2.2.1.2.1 s.sv0.2.2.1.2.2 s.sv0.2.2.2.1 s.sv0.2.2.2.2
    s.sv1.1 s.sv1.2.1 s.sv1.2.2.1.1 s.sv1.2.2.1.2.1 s.sv1.2.2.1.2.2 s.sv1.2.2.2.1 s.sv1.2.2.2.2 g m ti = some ((restoreM s).row,(restoreM s).col,(restoreM s).late,(restoreM s).pen.1,(restoreM s).pen.2.1,(restoreM s).pen.2.2,(restoreM s).modes):=by
  unfold szR at hs
  unfold screen_work_restore_4f7 restoreM savedS
  rw [w64id (x:=s.rows - 1) (by omega),w64id (x:=s.cols - 1) (by omega)]
  have ez:∀ (b:Bool) (x y:Int × Int × Int × Int × Int × Bool × Bool),((bif (bif b then (1:Int) else 0) == 0 then some x else bif (bif b then (1:Int) else 0) == 1 then some y else none:Option (Int × Int × Int × Int × Int × Bool × Bool))) = some (bif b then y else x):=fun b x y=>by cases b <;> rfl
  simp only [bt]
  simp only [rleq,req_tt,page_eq,Option.bind_some,between_eq,ez]
  cases otherM s.modes with
  | true=>
    simp only [cond_true]
    cases s.sv1.2.2.2.1 <;> cases s.sv1.2.2.2.2 <;> rfl
  | false=>
    simp only [cond_false]
    cases s.sv0.2.2.2.1 <;> cases s.sv0.2.2.2.2 <;> rfl
theorem restoreM_ok {s:Sc} {R C:Nat} (h:OkS s R C):OkS (restoreM s) R C:=by
  have hs:=h.sz
  unfold szR at hs
  have hR:=h.hr;have hC:=h.hc
  have hsp:maySpot (savedS s) = true:=by
    unfold savedS
    cases otherM s.modes with
    | true=>exact h.s1
    | false=>exact h.s0
  simp only [maySpot,Bool.and_eq_true] at hsp
  have b1:=betw_r (n:=(savedS s).1) (lo:=0) (hi:=s.rows - 1) (by omega)
  have b2:=betw_r (n:=(savedS s).2.1) (lo:=0) (hi:=s.cols - 1) (by omega)
  obtain ⟨m1,m2,m3⟩:=mode_r h.md (b:=2) (by simp [bits8])
  obtain ⟨o1,o2⟩:=m3 (by decide)
  refine ⟨h.hr,h.hc,h.sz,h.g,?_,?_,?_,?_,h.top,h.bot,h.tb,?_,hsp.2.2,h.s0,h.s1,h.ti,h.tabs⟩
  · have:otherM (restoreM s).modes = otherM s.modes:=by
      unfold restoreM
      cases (savedS s).2.2.2.1 with
      | true=>exact o1
      | false=>exact o2
    rw [this];exact h.m
  · unfold restoreM;simp only;omega
  · unfold restoreM;simp only;omega
  · unfold restoreM
    simp only
    cases (savedS s).2.2.2.2 with
    | true=>intro hl;have:=beqf hl;omega
    | false=>intro hl;simp at hl
  · unfold restoreM
    simp only
    cases (savedS s).2.2.2.1 with
    | true=>exact m1
    | false=>exact m2
def badBit (b:Int):Bool:=decide (b < 1) || (decide (b > 255) || (ibits .and .i64 b (IntKind.i64.wrap (b - 1)) != 0))
theorem goodBit {b:Int} (h:badBit b = false):b ∈ bits8:=by
  simp only [badBit,Bool.or_eq_false_iff,decide_eq_false_iff_not] at h
  have:=bit_all ⟨b.toNat,by omega⟩
  simp only [show ((b.toNat:Nat):Int) = b from by omega,Bool.or_eq_true,decide_eq_true_eq,List.contains_iff_mem] at this
  rcases this with (h1 | h1) | h1
  · omega
  · rw [h.2.2] at h1;simp at h1
  · exact h1
def swapM (b:Int) (on:Bool) (s:Sc):Sc:=
  bif (b == 128) && !((ibits .and .i64 s.modes b != 0) == on) then
    (bif on then { saveM s with main:=s.grid,grid:=blankG s.rows.toNat s.cols.toNat (0,0,0) } else { s with grid:=s.main,main:=[] }) else s
def setM (b:Int) (on:Bool) (s:Sc):Sc:={ s with modes:=bif on then modeOn s.modes b else modeOff s.modes b }
def modeM (b:Int) (on:Bool) (s:Sc):Sc:=
  bif badBit b then s
  else bif b == 2 then { setM b on (swapM b on s) with row:=(goToM 0 0 s.rows s.cols s.top s.bottom (setM b on s).modes).1,col:=(goToM 0 0 s.rows s.cols s.top s.bottom (setM b on s).modes).2,late:=false }
  else bif b == 128 then (bif (ibits .and .i64 s.modes b != 0) && !on then restoreM (setM b on (swapM b on s)) else { setM b on (swapM b on s) with late:=false })
  else setM b on (swapM b on s)
end Go.SH
namespace Go.SH
theorem wasB {s:Sc}:(ibits .and .i64 s.modes 128 != 0) = otherM s.modes:=rfl
theorem swapM_ne {b:Int} (h:(b == 128) = false) (on:Bool) (s:Sc):swapM b on s = s:=by unfold swapM;rw [h];rfl
theorem setswap_ok {s:Sc} {R C:Nat} (h:OkS s R C) {b:Int} (hb:b ∈ bits8) (on:Bool):OkS (setM b on (swapM b on s)) R C:=by
  obtain ⟨m1,m2,m3⟩:=mode_r h.md hb
  have hmd:0 ≤ (bif on then modeOn s.modes b else modeOff s.modes b) ∧ (bif on then modeOn s.modes b else modeOff s.modes b) ≤ 255:=by
    cases on with
    | true=>exact m1
    | false=>exact m2
  cases h128:(b == 128) with
  | false=>
    rw [swapM_ne h128]
    obtain ⟨o1,o2⟩:=m3 (by simpa using h128)
    refine ⟨h.hr,h.hc,h.sz,h.g,?_,h.row,h.col,h.late,h.top,h.bot,h.tb,hmd,h.pen,h.s0,h.s1,h.ti,h.tabs⟩
    have:otherM (setM b on s).modes = otherM s.modes:=by
      unfold setM
      cases on with
      | true=>exact o1
      | false=>exact o2
    rw [this];exact h.m
  | true=>
    have hb':b = 128:=beqf h128
    subst hb'
    obtain ⟨o1,o2⟩:=mode_o h.md
    have hs:=h.sz
    unfold swapM
    rw [wasB]
    simp only [beq_self_eq_true,Bool.true_and]
    cases ho:otherM s.modes with
    | true=>
      cases on with
      | true=>
        exact ⟨h.hr,h.hc,h.sz,h.g,.inl ⟨o1,by
          rcases h.m with ⟨_,m⟩ | ⟨m,_⟩
          · exact m
          · rw [ho] at m;simp at m⟩,h.row,h.col,h.late,h.top,h.bot,h.tb,hmd,h.pen,h.s0,h.s1,h.ti,h.tabs⟩
      | false=>
        have hm:gok s.main R C:=by
          rcases h.m with ⟨_,m⟩ | ⟨m,_⟩
          · exact m
          · rw [ho] at m;simp at m
        exact ⟨h.hr,h.hc,h.sz,hm,.inr ⟨o2,rfl⟩,h.row,h.col,h.late,h.top,h.bot,h.tb,hmd,h.pen,h.s0,h.s1,h.ti,h.tabs⟩
    | false=>
      cases on with
      | true=>
        have k:=saveM_ok h
        have hg:gok (blankG s.rows.toNat s.cols.toNat (0,0,0)) R C:=by
          rw [h.hr,h.hc];exact blankG_gok (by decide) h.sz
        have e1:(saveM s).rows = s.rows:=by unfold saveM;cases otherM s.modes <;> rfl
        have e2:(saveM s).modes = s.modes:=by unfold saveM;cases otherM s.modes <;> rfl
        refine ⟨k.hr,k.hc,h.sz,hg,.inl ⟨?_,h.g⟩,k.row,k.col,k.late,k.top,k.bot,k.tb,?_,k.pen,k.s0,k.s1,k.ti,k.tabs⟩
        · show otherM (modeOn (saveM s).modes 128) = true
          rw [e2];exact o1
        · show 0 ≤ modeOn (saveM s).modes 128 ∧ modeOn (saveM s).modes 128 ≤ 255
          rw [e2];exact hmd
      | false=>
        exact ⟨h.hr,h.hc,h.sz,h.g,.inr ⟨o2,by
          rcases h.m with ⟨m,_⟩ | ⟨_,m⟩
          · rw [ho] at m;simp at m
          · exact m⟩,h.row,h.col,h.late,h.top,h.bot,h.tb,hmd,h.pen,h.s0,h.s1,h.ti,h.tabs⟩
theorem modeM_ok {s:Sc} {R C:Nat} (h:OkS s R C) (b:Int) (on:Bool):OkS (modeM b on s) R C:=by
  unfold modeM
  cases hbad:badBit b with
  | true=>exact h
  | false=>
    have hb:=goodBit hbad
    have k:=setswap_ok h hb on
    simp only [cond_false]
    cases h2:(b == 2) with
    | true=>
      have hR:=h.hr;have hC:=h.hc
      have hsz:=h.sz
      unfold szR at hsz
      obtain ⟨q1,q2,q3⟩:=goTo_eq (row:=0) (col:=0) h.sz h.env.etop h.env.etb h.env.ebot (by omega) (setM b on s).modes
      rw [← hR,← hC] at q2 q3
      exact ⟨k.hr,k.hc,k.sz,k.g,k.m,by simp only [cond_true];omega,by simp only [cond_true];omega,by intro hl;simp at hl,k.top,k.bot,k.tb,k.md,k.pen,k.s0,k.s1,k.ti,k.tabs⟩
    | false=>
      simp only [cond_false]
      cases h128:(b == 128) with
      | false=>exact k
      | true=>
        simp only [cond_true]
        cases ((ibits .and .i64 s.modes b != 0) && !on) with
        | true=>exact restoreM_ok k
        | false=>exact ⟨k.hr,k.hc,k.sz,k.g,k.m,k.row,k.col,by intro hl;simp at hl,k.top,k.bot,k.tb,k.md,k.pen,k.s0,k.s1,k.ti,k.tabs⟩
def Sc.md9 (s:Sc):GridT × GridT × Int × Int × Bool × Int × Int × Int × Int × Int × Int × Int × Int × Int × Bool × Bool × Int × Int × Int × Int × Int × Bool × Bool:=
  (s.grid,s.main,s.row,s.col,s.late,s.pen.1,s.pen.2.1,s.pen.2.2,s.modes,s.sv0.1,s.sv0.2.1,s.sv0.2.2.1.1,s.sv0.2.2.1.2.1,s.sv0.2.2.1.2.2,s.sv0.2.2.2.1,s.sv0.2.2.2.2,
  s.sv1.1,s.sv1.2.1,s.sv1.2.2.1.1,s.sv1.2.2.1.2.1,s.sv1.2.2.1.2.2,s.sv1.2.2.2.1,s.sv1.2.2.2.2)
theorem mode_eq {s:Sc} {R C:Nat} (h:OkS s R C) (b:Int) (on:Bool):screen_work_mode_4a3 b on s.rows s.cols s.row s.col s.late s.pen.1 s.pen.2.1 s.pen.2.2 s.top s.bottom s.modes s.sv0.1 s.sv0.2.1 s.sv0.2.2.1.1 s.sv0.2.2.1.2.1 s.sv0.2.2.1.2.2 s.sv0.2.2.2.1 s.sv0.2.2.2.2
    s.sv1.1 s.sv1.2.1 s.sv1.2.2.1.1 s.sv1.2.2.1.2.1 s.sv1.2.2.1.2.2 s.sv1.2.2.2.1 s.sv1.2.2.2.2 s.grid s.main s.title = some (modeM b on s).md9:=by
  have hs:=h.sz
  unfold szR at hs
  have hR:=h.hr;have hC:=h.hc
  unfold screen_work_mode_4a3 modeM
  have e0:(bif decide (b < 1) then some true else bif decide (b > 255) then some true else bif (ibits .and .i64 b (IntKind.i64.wrap (b - 1))) != 0 then some true else some false:Option Bool) = some (badBit b):=by
    unfold badBit
    cases decide (b < 1) <;> cases decide (b > 255) <;> cases (ibits .and .i64 b (IntKind.i64.wrap (b - 1)) != 0) <;> rfl
  rw [e0]
  simp only [Option.bind_some]
  cases hbad:badBit b with
  | true=>simp only [cond_true,rleq,req_tt];rfl
  | false=>
    have hb:=goodBit hbad
    simp only [bt]
    simp only [cond_false,bt2,Option.bind_some,rleq,req_tt,Bool.and_true]
    rw [save_eq s]
    have eBl:grid_Blank_d8f s.rows s.cols (0,0,0) = some (blankG s.rows.toNat s.cols.toNat (0,0,0)):=by
      rw [hR,hC,Blank_d8f_r,grid_Blank_d0d_eq (by omega) (by omega) (by decide)];rfl
    rw [eBl]
    simp only [Option.bind_some,rleq,req_tt]
    have e1:(bif (b == 128) && !((ibits .and .i64 s.modes b != 0) == on) then bif on then some (blankG s.rows.toNat s.cols.toNat (0,0,0),s.grid,(saveM s).sv.1,(saveM s).sv.2.1,(saveM s).sv.2.2.1,(saveM s).sv.2.2.2.1,(saveM s).sv.2.2.2.2.1,(saveM s).sv.2.2.2.2.2.1,(saveM s).sv.2.2.2.2.2.2.1,(saveM s).sv.2.2.2.2.2.2.2.1,(saveM s).sv.2.2.2.2.2.2.2.2.1,(saveM s).sv.2.2.2.2.2.2.2.2.2.1,(saveM s).sv.2.2.2.2.2.2.2.2.2.2.1,(saveM s).sv.2.2.2.2.2.2.2.2.2.2.2.1,(saveM s).sv.2.2.2.2.2.2.2.2.2.2.2.2.1,(saveM s).sv.2.2.2.2.2.2.2.2.2.2.2.2.2)
        else some (s.main,[],s.sv0.1,s.sv0.2.1,s.sv0.2.2.1.1,s.sv0.2.2.1.2.1,s.sv0.2.2.1.2.2,s.sv0.2.2.2.1,s.sv0.2.2.2.2,s.sv1.1,s.sv1.2.1,s.sv1.2.2.1.1,s.sv1.2.2.1.2.1,s.sv1.2.2.1.2.2,s.sv1.2.2.2.1,s.sv1.2.2.2.2)
      else some (s.grid,s.main,s.sv0.1,s.sv0.2.1,s.sv0.2.2.1.1,s.sv0.2.2.1.2.1,s.sv0.2.2.1.2.2,s.sv0.2.2.2.1,s.sv0.2.2.2.2,s.sv1.1,s.sv1.2.1,s.sv1.2.2.1.1,s.sv1.2.2.1.2.1,s.sv1.2.2.1.2.2,s.sv1.2.2.2.1,s.sv1.2.2.2.2):Option (GridT × GridT × Int × Int × Int × Int × Int × Bool × Bool × Int × Int × Int × Int × Int × Bool × Bool)) = some ((swapM b on s).grid,(swapM b on s).main,(swapM b on s).sv):=by
      unfold swapM
      cases ((b == 128) && !((ibits .and .i64 s.modes b != 0) == on)) with
      | false=>rfl
      | true=>cases on <;> rfl
    rw [e1]
    simp only [Option.bind_some]
    have e2:(bif on then some (ibits .or .i64 (ibits .andNot .i64 s.modes b) b) else some (ibits .andNot .i64 s.modes b):Option Int) = some (setM b on s).modes:=by cases on <;> rfl
    rw [e2]
    simp only [Option.bind_some]
    have f0:∀ x:Sc,(swapM b on s).rows = s.rows ∧ (swapM b on s).cols = s.cols ∧ (swapM b on s).row = s.row ∧ (swapM b on s).col = s.col ∧ (swapM b on s).late = s.late ∧ (swapM b on s).pen = s.pen ∧ (swapM b on s).modes = s.modes:=fun _=>by
      unfold swapM saveM
      cases ((b == 128) && !((ibits .and .i64 s.modes b != 0) == on)) <;> cases on <;> cases otherM s.modes <;> exact ⟨rfl,rfl,rfl,rfl,rfl,rfl,rfl⟩
    obtain ⟨f1,f2,f3,f4,f5,f6,f7⟩:=f0 s
    have fm:(setM b on (swapM b on s)).modes = (setM b on s).modes:=by unfold setM;simp only [f7]
    cases h2:(b == 2) with
    | true=>
      simp only [cond_true]
      obtain ⟨q1,_,_⟩:=goTo_eq (row:=0) (col:=0) h.sz h.env.etop h.env.etb h.env.ebot (by omega) (setM b on s).modes
      rw [← hR,← hC] at q1
      rw [q1]
      simp only [Option.bind_some]
      unfold Sc.md9
      simp only [fm]
      have g1:(setM b on (swapM b on s)).pen = s.pen:=f6
      rw [g1];rfl
    | false=>
      simp only [cond_false]
      cases h128:(b == 128) with
      | false=>
        simp only [cond_false]
        unfold Sc.md9
        have g1:(setM b on (swapM b on s)).pen = s.pen:=f6
        have g2:(setM b on (swapM b on s)).row = s.row:=f3
        have g3:(setM b on (swapM b on s)).col = s.col:=f4
        have g4:(setM b on (swapM b on s)).late = s.late:=f5
        rw [g1,g2,g3,g4,fm];rfl
      | true=>
        simp only [cond_true]
        cases hw:((ibits .and .i64 s.modes b != 0) && !on) with
        | true=>
          simp only [cond_true]
          have k:=setswap_ok h hb on
          have hre:=restore_eq (s:=setM b on (swapM b on s)) (R:=R) (C:=C) k.hr k.hc h.sz (swapM b on s).grid (swapM b on s).main s.title
          have g1:(setM b on (swapM b on s)).rows = s.rows:=f1
          have g2:(setM b on (swapM b on s)).cols = s.cols:=f2
          rw [g1,g2,fm] at hre
          have hre':screen_work_restore_4f7 s.rows s.cols (setM b on s).modes (swapM b on s).sv.1 (swapM b on s).sv.2.1 (swapM b on s).sv.2.2.1 (swapM b on s).sv.2.2.2.1 (swapM b on s).sv.2.2.2.2.1 (swapM b on s).sv.2.2.2.2.2.1 (swapM b on s).sv.2.2.2.2.2.2.1 (swapM b on s).sv.2.2.2.2.2.2.2.1 (swapM b on s).sv.2.2.2.2.2.2.2.2.1 (swapM b on s).sv.2.2.2.2.2.2.2.2.2.1 (swapM b on s).sv.2.2.2.2.2.2.2.2.2.2.1 (swapM b on s).sv.2.2.2.2.2.2.2.2.2.2.2.1 (swapM b on s).sv.2.2.2.2.2.2.2.2.2.2.2.2.1 (swapM b on s).sv.2.2.2.2.2.2.2.2.2.2.2.2.2 (swapM b on s).grid (swapM b on s).main s.title = _:=hre
          rw [hre']
          simp only [Option.bind_some]
          rfl
        | false=>
          simp only [cond_false]
          unfold Sc.md9
          have g1:(setM b on (swapM b on s)).pen = s.pen:=f6
          have g2:(setM b on (swapM b on s)).row = s.row:=f3
          have g3:(setM b on (swapM b on s)).col = s.col:=f4
          simp only [fm]
          rw [g1,g2,g3];rfl
def titleA (acc:List Int) (x:Int):List Int:=bif decide (colsOf x > 0) && decide ((acc.length:Int) < 60) then acc ++ [x] else acc
def titleM (l:List Int):List Int:=l.foldl titleA []
theorem titleA_may {acc:List Int} (h:mayTitle acc = true) (x:Int):mayTitle (titleA acc x) = true:=by
  unfold titleA
  cases hc:(decide (colsOf x > 0) && decide ((acc.length:Int) < 60)) with
  | false=>exact h
  | true=>
    simp only [Bool.and_eq_true,decide_eq_true_eq] at hc
    simp only [mayTitle,Bool.and_eq_true,decide_eq_true_eq] at h
    simp only [cond_true,mayTitle,Bool.and_eq_true,decide_eq_true_eq,List.length_append,List.length_singleton,List.all_append,List.all_cons,List.all_nil,Bool.and_true]
    exact ⟨by omega,h.2,by omega⟩
theorem foldl_may:∀ (l acc:List Int),mayTitle acc = true → mayTitle (l.foldl titleA acc) = true
  | [],acc,h=>h
  | x :: r,acc,h=>foldl_may r _ (titleA_may h x)
theorem titleM_may (l:List Int):mayTitle (titleM l) = true:=foldl_may l [] rfl
theorem title_loop {ch:ChT} (hb:ch.2.2.2.2.2.length ≤ 1000000):∀ (m i:Nat) (acc:List Int),i + m = ch.2.2.2.2.2.length → mayTitle acc = true → loopO (screen_work_change_537_loop1 ch) ((i:Int),acc) = some ((ch.2.2.2.2.2.drop i).foldl titleA acc)
  | 0,i,acc,h,ha=>by
    have e:i = ch.2.2.2.2.2.length:=by omega
    rw [loopO_eq]
    have:screen_work_change_537_loop1 ch ((i:Int),acc) = some (.inl acc):=by
      unfold screen_work_change_537_loop1
      simp only [bt,Option.bind_some]
      rw [dec_f (by omega:¬ (i:Int) < (ch.2.2.2.2.2.length:Int))]
      simp only [cond_false,rleq,req_tt]
    rw [this,e,List.drop_length]
    rfl
  | m + 1,i,acc,h,ha=>by
    have hi:i < ch.2.2.2.2.2.length:=by omega
    have hac:acc.length ≤ 60:=by
      simp only [mayTitle,Bool.and_eq_true,decide_eq_true_eq] at ha;exact ha.1
    rw [loopO_eq,List.drop_eq_getElem_cons hi]
    have:screen_work_change_537_loop1 ch ((i:Int),acc) = some (.inr (((i + 1:Nat):Int),titleA acc ch.2.2.2.2.2[i])):=by
      unfold screen_work_change_537_loop1
      simp only [bt]
      simp only [bt2,Option.bind_some,cols_Of_eq,rleq,req_tt,Bool.and_true]
      rw [dec_t (by omega:(i:Int) < (ch.2.2.2.2.2.length:Int)),getI_nat,List.getElem?_eq_getElem hi]
      simp only [cond_true,Option.bind_some]
      have e:(bif decide (colsOf ch.2.2.2.2.2[i] > 0) && decide ((acc.length:Int) < 60) then req ((acc ++ [ch.2.2.2.2.2[i]]).length * 4 ≤ maxBy) (some (acc ++ [ch.2.2.2.2.2[i]])) else some acc:Option (List Int)) = some (titleA acc ch.2.2.2.2.2[i]):=by
        unfold titleA
        rw [req_pos (by simp only [List.length_append,List.length_singleton];unfold maxBy;omega)]
        cases (decide (colsOf ch.2.2.2.2.2[i] > 0) && decide ((acc.length:Int) < 60)) <;> rfl
      rw [e]
      simp only [Option.bind_some]
      rw [w64id (by omega)];rfl
    rw [this]
    exact title_loop hb m (i + 1) _ (by omega) (titleA_may ha _)
noncomputable def newSc (R C:Int):Sc:=⟨R,C,blankG R.toNat C.toNat (0,0,0),[],0,0,false,(0,0,0),0,R - 1,9,noSpot,noSpot,usual C.toNat,[]⟩
theorem newSc_ok {R C:Nat} (h:szR R C):OkS (newSc R C) R C:=by
  have hs:=h
  unfold szR at hs
  exact ⟨rfl,rfl,h,blankG_gok (by decide) h,.inr ⟨(by decide +kernel:otherM 9 = false),rfl⟩,by simp only [newSc];omega,by simp only [newSc];omega,by intro hl;simp [newSc] at hl,by simp only [newSc];omega,by simp only [newSc];omega,by simp only [newSc];omega,by simp [newSc],(by decide +kernel:mayPen (0,0,0) = true),(by decide +kernel:maySpot noSpot = true),(by decide +kernel:maySpot noSpot = true),rfl,usual_ok hs.2.2.2⟩
noncomputable def stopM (n:Int) (s:Sc):Sc:=
  bif n == 0 then { s with tabs:=(tabs_Set s.tabs s.col).getD (0,0,0,0) } else bif n == 1 then { s with tabs:=(tabs_Clear s.tabs s.col).getD (0,0,0,0) } else bif n == 2 then { s with tabs:=(0,0,0,0) } else s
noncomputable def moveS (ch:ChT) (s:Sc):Sc:=
  { s with grid:=(moveM ch s.rows s.cols s.row s.col false s.pen s.top s.bottom s.modes s.tabs s.grid).1,row:=(moveM ch s.rows s.cols s.row s.col false s.pen s.top s.bottom s.modes s.tabs s.grid).2.1,col:=(moveM ch s.rows s.cols s.row s.col false s.pen s.top s.bottom s.modes s.tabs s.grid).2.2.1,late:=false }
def printS (c:Int) (s:Sc):Sc:=
  { s with grid:=(printM s.rows s.cols s.row s.col s.late s.top s.bottom s.modes s.pen s.grid c).1,row:=(printM s.rows s.cols s.row s.col s.late s.top s.bottom s.modes s.pen s.grid c).2.1,col:=(printM s.rows s.cols s.row s.col s.late s.top s.bottom s.modes s.pen s.grid c).2.2.1,late:=(printM s.rows s.cols s.row s.col s.late s.top s.bottom s.modes s.pen s.grid c).2.2.2 }
noncomputable def changeM (ch:ChT) (s:Sc):Sc:=
  bif ch.1 == 1 then printS ch.2.2.2.1 s
  else bif ch.1 == 25 then { s with pen:=applyM s.pen ch.2.2.2.2.1 }
  else bif ch.1 == 26 then { s with title:=titleM ch.2.2.2.2.2 }
  else bif ch.1 == 10 then stopM ch.2.1 s
  else bif ch.1 == 21 then saveM s
  else bif ch.1 == 20 then modeM ch.2.1 (ch.2.2.1 != 0) s
  else bif ch.1 == 22 then restoreM s
  else bif ch.1 == 24 then newSc s.rows s.cols
  else bif decide (ch.1 ≥ 1) && decide (ch.1 ≤ 27) then editM ch (moveS ch s)
  else s
def chL (ch:ChT):Prop:=ch.2.2.2.2.1.length ≤ 1000000 ∧ ch.2.2.2.2.2.length ≤ 1000000
theorem change_eq {s:Sc} {R C:Nat} (h:OkS s R C) {ch:ChT} (hn:chN ch) (hl:chL ch):chgS ch s = some (changeM ch s).f ∧ Keeps ch (changeM ch s) R C:=by
  have hs:=h.sz
  unfold szR at hs
  have hR:=h.hr;have hC:=h.hc
  unfold chgS screen_work_change_537 changeM
  simp only [bt]
  simp only [bt2,Option.bind_some,rleq,req_tt,Bool.and_true]
  cases h1:(ch.1 == 1) with
  | true=>
    have q:=print_eq h.env h.inG (late:=s.late) s.modes ch.2.2.2.1 s.main s.title
    obtain ⟨⟨q1,q2,q3⟩,q4⟩:=printM_in h.env h.inG h.late s.modes ch.2.2.2.1
    rw [← hR,← hC] at q q1 q2 q3 q4
    simp only [cond_true]
    rw [q]
    refine ⟨rfl,keeps ⟨h.hr,h.hc,h.sz,?_,h.m,?_,?_,?_,h.top,h.bot,h.tb,h.md,h.pen,h.s0,h.s1,h.ti,h.tabs⟩⟩
    · rw [hR,hC] at q1;unfold printS;rw [hR,hC];exact q1
    · unfold printS;simp only at q2 ⊢;omega
    · unfold printS;simp only at q3 ⊢;omega
    · intro hl;have:=q4 hl;unfold printS;simp only at this ⊢;omega
  | false=>
  simp only [cond_false]
  cases h2:(ch.1 == 25) with
  | true=>
    simp only [cond_true]
    have:pen_Apply (s.pen.1,s.pen.2.1,s.pen.2.2) ch.2.2.2.2.1 = some (applyM s.pen ch.2.2.2.2.1):=Apply_eq h.pen (by have:=hl.1;omega)
    rw [this]
    exact ⟨rfl,keeps ⟨h.hr,h.hc,h.sz,h.g,h.m,h.row,h.col,h.late,h.top,h.bot,h.tb,h.md,applyM_may h.pen _,h.s0,h.s1,h.ti,h.tabs⟩⟩
  | false=>
  simp only [cond_false]
  cases h3:(ch.1 == 26) with
  | true=>
    simp only [cond_true]
    have:loopO (screen_work_change_537_loop1 ch) (0,[]) = some (titleM ch.2.2.2.2.2):=title_loop hl.2 ch.2.2.2.2.2.length 0 [] (by omega) rfl
    rw [this]
    exact ⟨rfl,keeps ⟨h.hr,h.hc,h.sz,h.g,h.m,h.row,h.col,h.late,h.top,h.bot,h.tb,h.md,h.pen,h.s0,h.s1,titleM_may _,h.tabs⟩⟩
  | false=>
  simp only [cond_false]
  have ktab:∀ {t:TabT},tabsOK t → Keeps ch { s with tabs:=t } R C:=fun ht=>keeps ⟨h.hr,h.hc,h.sz,h.g,h.m,h.row,h.col,h.late,h.top,h.bot,h.tb,h.md,h.pen,h.s0,h.s1,h.ti,ht⟩
  cases h4:(ch.1 == 10) with
  | true=>
    simp only [cond_true]
    unfold stopM
    cases ch.2.1 == 0 with
    | true=>
      obtain ⟨t,t1,t2⟩:=Set_ok h.tabs s.col
      have:tabs_Set (s.tabs.1,s.tabs.2.1,s.tabs.2.2.1,s.tabs.2.2.2) s.col = some t:=t1
      rw [this]
      exact ⟨rfl,ktab t2⟩
    | false=>
      cases ch.2.1 == 1 with
      | true=>
        obtain ⟨t,t1,t2⟩:=Clear_ok h.tabs s.col
        have:tabs_Clear (s.tabs.1,s.tabs.2.1,s.tabs.2.2.1,s.tabs.2.2.2) s.col = some t:=t1
        rw [this]
        exact ⟨rfl,ktab t2⟩
      | false=>
        cases ch.2.1 == 2 with
        | true=>exact ⟨rfl,ktab zero_tabs⟩
        | false=>exact ⟨rfl,keeps h⟩
  | false=>
  simp only [cond_false]
  cases h5:(ch.1 == 21) with
  | true=>
    simp only [cond_true]
    rw [save_eq s]
    have e:(saveM s).f = (s.grid,s.main,s.title,s.rows,s.cols,s.row,s.col,s.late,s.pen.1,s.pen.2.1,s.pen.2.2,s.top,s.bottom,s.modes,(saveM s).sv.1,(saveM s).sv.2.1,(saveM s).sv.2.2.1,(saveM s).sv.2.2.2.1,(saveM s).sv.2.2.2.2.1,(saveM s).sv.2.2.2.2.2.1,(saveM s).sv.2.2.2.2.2.2.1,(saveM s).sv.2.2.2.2.2.2.2.1,(saveM s).sv.2.2.2.2.2.2.2.2.1,(saveM s).sv.2.2.2.2.2.2.2.2.2.1,(saveM s).sv.2.2.2.2.2.2.2.2.2.2.1,(saveM s).sv.2.2.2.2.2.2.2.2.2.2.2.1,(saveM s).sv.2.2.2.2.2.2.2.2.2.2.2.2.1,(saveM s).sv.2.2.2.2.2.2.2.2.2.2.2.2.2,s.tabs.1,s.tabs.2.1,s.tabs.2.2.1,s.tabs.2.2.2):=by
      unfold saveM
      cases otherM s.modes <;> rfl
    rw [e]
    exact ⟨rfl,keeps (saveM_ok h)⟩
  | false=>
  simp only [cond_false]
  cases h6:(ch.1 == 20) with
  | true=>
    simp only [cond_true]
    rw [mode_eq h]
    have f0:(modeM ch.2.1 (ch.2.2.1 != 0) s).rows = s.rows ∧ (modeM ch.2.1 (ch.2.2.1 != 0) s).cols = s.cols ∧ (modeM ch.2.1 (ch.2.2.1 != 0) s).top = s.top ∧ (modeM ch.2.1 (ch.2.2.1 != 0) s).bottom = s.bottom ∧ (modeM ch.2.1 (ch.2.2.1 != 0) s).tabs = s.tabs ∧ (modeM ch.2.1 (ch.2.2.1 != 0) s).title = s.title:=by
      unfold modeM
      cases badBit ch.2.1 with
      | true=>exact ⟨rfl,rfl,rfl,rfl,rfl,rfl⟩
      | false=>
        unfold swapM saveM
        cases ((ch.2.1 == 128) && !((ibits .and .i64 s.modes ch.2.1 != 0) == (ch.2.2.1 != 0))) <;> cases (ch.2.2.1 != 0) <;> cases otherM s.modes <;> cases (ch.2.1 == 2) <;> cases (ch.2.1 == 128) <;> cases (ibits .and .i64 s.modes ch.2.1 != 0) <;> exact ⟨rfl,rfl,rfl,rfl,rfl,rfl⟩
    obtain ⟨f1,f2,f3,f4,f5,f6⟩:=f0
    refine ⟨?_,keeps (modeM_ok h _ _)⟩
    unfold Sc.f
    rw [f1,f2,f3,f4,f5,f6]
    rfl
  | false=>
  simp only [cond_false]
  cases h7:(ch.1 == 22) with
  | true=>
    simp only [cond_true]
    rw [restore_eq hR hC h.sz]
    exact ⟨rfl,keeps (restoreM_ok h)⟩
  | false=>
  simp only [cond_false]
  cases h8:(ch.1 == 24) with
  | true=>
    simp only [cond_true]
    have e:screen_New_aae s.rows s.cols = some (s.rows,s.cols,s.rows - 1,9,(usual C).1,(usual C).2.1,(usual C).2.2.1,(usual C).2.2.2,0,blankG R C (0,0,0)):=by
      unfold screen_New_aae
      rw [hR,hC,Blank_d8f_r,grid_Blank_d0d_eq (by omega) (by omega) (by decide)]
      simp only [Option.bind_some,bt]
      have e:((((blankG R C (0,0,0)).length:Nat):Int) == 0) = false:=by
        unfold blankG;simp;omega
      erw [e]
      simp only [cond_false,Option.bind_some]
      rw [tabs_Usual_eq (by omega)]
      simp only [Option.bind_some,rleq,req_tt]
      rw [w64id (by omega)]
    rw [e]
    refine ⟨?_,?_⟩
    · simp only [Option.bind_some]
      unfold newSc
      rw [hR,hC]
      rfl
    · have:=newSc_ok h.sz
      rw [hR,hC]
      exact keeps this
  | false=>
  simp only [cond_false]
  cases h9:(decide (ch.1 ≥ 1) && decide (ch.1 ≤ 27)) with
  | true=>
    simp only [cond_true]
    obtain ⟨q1,⟨q2,q3,q4⟩,q5⟩:=move_eq h.env h.inG h.tabs hn s.modes s.main s.title
    have hms:OkS (moveS ch s) R C:=by
      refine ⟨h.hr,h.hc,h.sz,?_,h.m,?_,?_,by intro hl;simp [moveS] at hl,h.top,h.bot,h.tb,h.md,h.pen,h.s0,h.s1,h.ti,h.tabs⟩
      · unfold moveS;rw [hR,hC];exact q2
      · unfold moveS;rw [hR,hC];exact q3
      · unfold moveS;rw [hR,hC];exact q4
    rw [← hR,← hC] at q1 q5
    rw [q1]
    simp only [Option.bind_some]
    rw [q5]
    obtain ⟨e1,e2⟩:=edit_eq hms rfl hn
    have e1':screen_work_edit_537 ch s.rows s.cols (moveM ch s.rows s.cols s.row s.col false s.pen s.top s.bottom s.modes s.tabs s.grid).2.1 (moveM ch s.rows s.cols s.row s.col false s.pen s.top s.bottom s.modes s.tabs s.grid).2.2.1 false s.pen.1 s.pen.2.1 s.pen.2.2 s.top s.bottom s.modes s.sv0.1 s.tabs.1 s.tabs.2.1 s.tabs.2.2.1 s.tabs.2.2.2 (moveM ch s.rows s.cols s.row s.col false s.pen s.top s.bottom s.modes s.tabs s.grid).1 s.main s.title = some (editM ch (moveS ch s)).e:=e1
    rw [e1']
    refine ⟨?_,e2⟩
    have f0:(editM ch (moveS ch s)).pen = s.pen ∧ (editM ch (moveS ch s)).modes = s.modes ∧ (editM ch (moveS ch s)).sv0 = s.sv0 ∧ (editM ch (moveS ch s)).sv1 = s.sv1 ∧ (editM ch (moveS ch s)).title = s.title:=by
      unfold editM
      cases ch.1 == 11 <;> cases ch.1 == 12 <;> cases ch.1 == 13 <;> first
        | exact ⟨rfl,rfl,rfl,rfl,rfl⟩
        | (cases ch.1 == 14 <;> cases ch.1 == 15 <;> cases ((ch.1 == 16) || (ch.1 == 17)) <;> first
            | exact ⟨rfl,rfl,rfl,rfl,rfl⟩
            | (cases (decide ((moveS ch s).row < (moveS ch s).top) || decide ((moveS ch s).row > (moveS ch s).bottom)) <;> exact ⟨rfl,rfl,rfl,rfl,rfl⟩)
            | (cases ch.1 == 18 <;> cases ch.1 == 19 <;> cases ch.1 == 23 <;> cases ch.1 == 27 <;> first
                | exact ⟨rfl,rfl,rfl,rfl,rfl⟩
                | (cases (decide (ch.2.1 ≥ 0) && (decide (ch.2.1 < ch.2.2.1) && decide (ch.2.2.1 < (moveS ch s).rows))) <;> exact ⟨rfl,rfl,rfl,rfl,rfl⟩)))
    obtain ⟨f1,f2,f3,f4,f5⟩:=f0
    simp only [Option.bind_some]
    unfold Sc.f
    rw [f1,f2,f3,f4,f5]
    rfl
  | false=>exact ⟨rfl,keeps h⟩
end Go.SH
namespace Go.SH
noncomputable def oneM (s:Sc) (ch:ChT):Sc:=changeM (normC ch) s
noncomputable def foldM (l:List ChT) (s:Sc):Sc:=l.foldl oneM s
theorem normC_fst (ch:ChT):(normC ch).1 = ch.1:=by
  unfold normC
  cases ((ch.1 != 20) && (ch.1 != 27)) <;> rfl
theorem normC_r (ch:ChT):(normC ch).2.2.2 = ch.2.2.2:=by
  unfold normC
  cases ((ch.1 != 20) && (ch.1 != 27)) <;> rfl
theorem normC_n (ch:ChT):chN (normC ch):=by
  intro h1 h2
  rw [normC_fst] at h1 h2
  have e:((ch.1 != 20) && (ch.1 != 27)) = true:=by simp [h1,h2]
  have b1:=betw_r (n:=ch.2.1) (lo:=-1000) (hi:=1000) (by omega)
  have b2:=betw_r (n:=ch.2.2.1) (lo:=-1000) (hi:=1000) (by omega)
  unfold normC
  rw [e]
  exact ⟨b1,b2⟩
theorem normC_l {ch:ChT} (h:chL ch):chL (normC ch):=by
  unfold chL at *
  rw [normC_r];exact h
theorem oneM_ok {s:Sc} {R C:Nat} (h:OkS s R C) {ch:ChT} (hl:chL ch):Keeps ch (oneM s ch) R C:=by
  obtain ⟨_,R',C',h1,h2⟩:=change_eq h (normC_n ch) (normC_l hl)
  rw [normC_fst] at h2
  exact ⟨R',C',h1,h2⟩
theorem foldP_eq:∀ (l:List ChT) {s:Sc} {R C:Nat},OkS s R C → (∀ ch ∈ l,chL ch) → foldP l s.t = some (foldM l s).t ∧ ∃ R' C',OkS (foldM l s) R' C'
  | [],s,R,C,h,_=>⟨rfl,R,C,h⟩
  | ch :: r,s,R,C,h,hl=>by
    obtain ⟨h1,R',C',h2,_⟩:=change_eq h (normC_n ch) (normC_l (hl ch (by simp)))
    have:=foldP_eq r h2 (fun c hc=>hl c (by simp [hc]))
    unfold foldP
    rw [chgP_t,h1]
    simp only [Option.bind_some,unflat_f]
    exact this
theorem DoS_eq {s:Sc} {R C:Nat} (h:OkS s R C) {l:List ChT} (hb:l.length ≤ 1000000) (hl:∀ ch ∈ l,chL ch):screen_Do s.t l = some (foldM l s).t ∧ ∃ R' C',OkS (foldM l s) R' C':=by
  rw [Do_eq h.may hb]
  exact foldP_eq l h hl
theorem Do1_eq {s:Sc} {R C:Nat} (h:OkS s R C) {ch:ChT} (hl:chL ch):screen_Do s.t [ch] = some (oneM s ch).t:=(DoS_eq h (l:=[ch]) (by simp) (by simpa using hl)).1
theorem NewS_eq {R C:Nat} (h:szR R C):screen_New (R:Int) (C:Int) = some ((newSc R C).t,0):=by
  unfold szR at h
  exact screen_New_eq ⟨h.1,h.2.1⟩ ⟨h.2.2.1,h.2.2.2⟩
instance lineDec:DecidableEq (List CellT):=@instDecidableEqList CellT inferInstance
instance gridDec:DecidableEq GridT:=@instDecidableEqList (List CellT) lineDec
theorem all_get {α:Type} [DecidableEq α] {a b:List α} (h:a.length = b.length):(List.range a.length).all (fun i=>decide (a[i]? = b[i]?)) = decide (a = b):=by
  rw [Bool.eq_iff_iff]
  simp only [List.all_eq_true,List.mem_range,decide_eq_true_eq]
  constructor
  · intro hh
    refine List.ext_getElem? fun i=>?_
    by_cases hi:i < a.length
    · exact hh i hi
    · rw [List.getElem?_eq_none (by omega),List.getElem?_eq_none (by omega)]
  · rintro rfl i _;rfl
theorem cell_beq (x y:CellT):((x.1 == y.1) && (((x.2.1.1 == y.2.1.1) && ((x.2.1.2 == y.2.1.2) && true)) && ((x.2.2.1 == y.2.2.1) && (((x.2.2.2.1 == y.2.2.2.1) && ((x.2.2.2.2.1 == y.2.2.2.2.1) && ((x.2.2.2.2.2 == y.2.2.2.2.2) && true))) && true)))) = decide (x = y):=by
  obtain ⟨x1,⟨x2,x3⟩,x4,x5,x6,x7⟩:=x
  obtain ⟨y1,⟨y2,y3⟩,y4,y5,y6,y7⟩:=y
  rw [Bool.eq_iff_iff]
  simp only [Bool.and_eq_true,beq_iff_eq,and_true,decide_eq_true_eq,Prod.mk.injEq,and_assoc]
abbrev big:Nat:=4611686018427387904
theorem wr1 {i n:Nat} (h:i < n) (hn:n ≤ big):IntKind.i64.wrap ((i:Int) + 1) = ((i + 1:Nat):Int):=by unfold big at hn;rw [w64id (by omega)];rfl
theorem len_ne {a b:Nat} (h:a ≠ b):((a:Int) != (b:Int)) = true:=by simp;omega
theorem len_eq {a b:Nat} (h:a = b):((a:Int) != (b:Int)) = false:=by simp [h]
theorem Equal_c00_eq {a b:List CellT} (ha:a.length ≤ big):slices_Equal_c00 a b = some (decide (a = b)):=by
  unfold slices_Equal_c00
  simp only [bt,Option.bind_some]
  by_cases h:a.length = b.length
  · rw [len_eq h]
    simp only [cond_false]
    rw [loop_all (step:=slices_Equal_c00_loop1 a b) (n:=a.length) (ok:=fun i=>decide (a[i]? = b[i]?)) (e:=.inr ()) (b:=.inl ()) (fun i hi=>by
      unfold slices_Equal_c00_loop1
      rw [dec_t (by omega:(i:Int) < (a.length:Int))]
      simp only [bt,Option.bind_some,cond_true,getI_nat,List.getElem?_eq_getElem hi,List.getElem?_eq_getElem (h ▸ hi:i < b.length),cell_beq,Option.some.injEq,wr1 hi ha]
      cases decide (a[i] = b[i]) <;> rfl) (by unfold slices_Equal_c00_loop1;simp),all_get h]
    cases decide (a = b) <;> rfl
  · rw [len_ne h,dec_f (fun e=>h (by rw [e]))];rfl
theorem Equal_e9e_eq {a b:List Int} (ha:a.length ≤ big):slices_Equal_e9e a b = some (decide (a = b)):=by
  unfold slices_Equal_e9e
  simp only [bt,Option.bind_some]
  by_cases h:a.length = b.length
  · rw [len_eq h]
    simp only [cond_false]
    rw [loop_all (step:=slices_Equal_e9e_loop1 a b) (n:=a.length) (ok:=fun i=>decide (a[i]? = b[i]?)) (e:=.inr ()) (b:=.inl ()) (fun i hi=>by
      unfold slices_Equal_e9e_loop1
      rw [dec_t (by omega:(i:Int) < (a.length:Int))]
      simp only [bt,Option.bind_some,cond_true,getI_nat,List.getElem?_eq_getElem hi,List.getElem?_eq_getElem (h ▸ hi:i < b.length),Option.some.injEq,wr1 hi ha]
      by_cases e:a[i] = b[i]
      · rw [dec_t e,e];simp
      · rw [dec_f e]
        have:(a[i] != b[i]) = true:=by simp [e]
        rw [this];rfl) (by unfold slices_Equal_e9e_loop1;simp),all_get h]
    cases decide (a = b) <;> rfl
  · rw [len_ne h,dec_f (fun e=>h (by rw [e]))];rfl
def small (g:GridT):Prop:=g.length ≤ big ∧ ∀ l ∈ g,l.length ≤ big
theorem EqualFunc_eq {a b:GridT} (ha:small a):slices_EqualFunc_940 a b = some (decide (a = b)):=by
  unfold slices_EqualFunc_940
  simp only [bt,Option.bind_some]
  by_cases h:a.length = b.length
  · rw [len_eq h]
    simp only [cond_false]
    rw [loop_all (step:=slices_EqualFunc_940_loop1 a b) (n:=a.length) (ok:=fun i=>decide (a[i]? = b[i]?)) (e:=.inr ()) (b:=.inl ()) (fun i hi=>by
      unfold slices_EqualFunc_940_loop1 grid_Same_1
      rw [dec_t (by omega:(i:Int) < (a.length:Int))]
      simp only [bt,Option.bind_some,cond_true,getI_nat,List.getElem?_eq_getElem hi,List.getElem?_eq_getElem (h ▸ hi:i < b.length),Option.some.injEq,wr1 hi ha.1]
      rw [Equal_c00_eq (ha.2 _ (List.getElem_mem hi))]
      simp only [Option.bind_some]
      cases decide (a[i] = b[i]) <;> rfl) (by unfold slices_EqualFunc_940_loop1;simp),all_get h]
    cases decide (a = b) <;> rfl
  · rw [len_ne h,dec_f (fun e=>h (by rw [e]))];rfl
theorem gridSame_eq {a b:GridT} (ha:small a):grid_Same [a,b] = some (decide (a = b)):=by
  have e0:getI [a,b] 0 = some a:=rfl
  have e1:getI [a,b] 1 = some b:=rfl
  have s1:grid_Same_loop1 [a,b] 1 = some (bif decide (a = b) then .inr 2 else .inl (.inl ())):=by
    unfold grid_Same_loop1
    rw [dec_t (by simp:(1:Int) < (([a,b]:List GridT).length:Int))]
    simp only [bt,Option.bind_some,cond_true]
    erw [e0,e1]
    simp only [Option.bind_some]
    rw [EqualFunc_eq ha]
    simp only [Option.bind_some]
    rw [w64id (by omega)]
    cases decide (a = b) <;> rfl
  have s2:grid_Same_loop1 [a,b] 2 = some (.inl (.inr ())):=by
    unfold grid_Same_loop1
    rw [dec_f (by simp:¬ (2:Int) < (([a,b]:List GridT).length:Int))]
    rfl
  unfold grid_Same
  rw [loopO_eq,s1]
  cases decide (a = b) with
  | false=>rfl
  | true=>
    simp only [cond_true]
    rw [loopO_eq,s2]
    rfl
theorem screenSame_refl {s:ScrT} (h1:small s.2.2.1) (h2:small s.2.2.2.1) (h3:s.2.2.2.2.2.2.2.2.2.2.2.2.2.length ≤ big):screen_Same s s = some true:=by
  unfold screen_Same
  rw [gridSame_eq h1,gridSame_eq h2,Equal_e9e_eq h3]
  simp only [decide_true,Option.bind_some,Bool.not_true,cond_false,beq_self_eq_true,Bool.and_true,cond_true]
theorem small_of {g:GridT} {R C:Nat} (h:gok g R C) (hs:szR R C):small g:=by
  unfold szR at hs
  unfold small big
  refine ⟨by rw [h.1];omega,fun l hl=>by rw [(h.2 l hl).1];omega⟩
theorem small_nil:small []:=by unfold small;simp
theorem OkS.small {s:Sc} {R C:Nat} (h:OkS s R C):small s.grid ∧ small s.main ∧ s.title.length ≤ big:=by
  refine ⟨small_of h.g h.sz,?_,?_⟩
  · rcases h.m with ⟨_,m⟩ | ⟨_,m⟩
    · exact small_of m h.sz
    · rw [m];exact small_nil
  · have:=h.ti
    simp only [mayTitle,Bool.and_eq_true,decide_eq_true_eq] at this
    unfold big;omega
theorem great_loop {l:List ChT} (hl:l.length ≤ 120):∀ (m i:Nat) (n:Int),i + m = l.length → 0 ≤ n ∧ n ≤ 501 * (i:Int) → ∃ o,loopO (oriellaw17_great_loop1 l) (n,(i:Int)) = some o ∧ (∀ x,o = .inr x → ∀ ch ∈ l.drop i,ch.2.2.2.2.1.length ≤ 200 ∧ ch.2.2.2.2.2.length ≤ 200)
  | 0,i,n,h,hn=>by
    have e:i = l.length:=by omega
    have:oriellaw17_great_loop1 l (n,(i:Int)) = some (.inl (.inr n)):=by
      unfold oriellaw17_great_loop1
      rw [dec_f (by omega:¬ (i:Int) < (l.length:Int))]
      rfl
    rw [loopO_eq,this]
    refine ⟨_,rfl,fun x _ ch hch=>?_⟩
    rw [e,List.drop_length] at hch
    simp at hch
  | m + 1,i,n,h,hn=>by
    have hi:i < l.length:=by omega
    obtain ⟨c,hc⟩:∃ c:Bool,oriellaw17_great_loop1 l (n,(i:Int)) = some (bif decide ((l[i].2.2.2.2.1.length:Int) > 200) || (decide ((l[i].2.2.2.2.2.length:Int) > 200) || c) then .inl (.inl ()) else .inr (IntKind.i64.wrap ((bif (l[i].1 == 2) || (l[i].1 == 9) then IntKind.i64.wrap (n + 500) else n) + 1),((i + 1:Nat):Int))):=by
      refine ⟨(l[i].1 == 27) && (decide (l[i].2.1 > 30) || decide (l[i].2.2.1 > 30)),?_⟩
      unfold oriellaw17_great_loop1
      rw [dec_t (by omega:(i:Int) < (l.length:Int))]
      simp only [bt]
      simp only [Option.bind_some,cond_true,getI_nat,List.getElem?_eq_getElem hi,bto,bt2,w64id (x:=(i:Int) + 1) (by omega)]
      cases (decide ((l[i].2.2.2.2.1.length:Int) > 200) || (decide ((l[i].2.2.2.2.2.length:Int) > 200) || ((l[i].1 == 27) && (decide (l[i].2.1 > 30) || decide (l[i].2.2.1 > 30))))) with
      | true=>rfl
      | false=>
        cases ((l[i].1 == 2) || (l[i].1 == 9)) <;> rfl
    rw [loopO_eq,hc]
    cases hb:(decide ((l[i].2.2.2.2.1.length:Int) > 200) || (decide ((l[i].2.2.2.2.2.length:Int) > 200) || c)) with
    | true=>exact ⟨_,rfl,fun x hx=>by simp at hx⟩
    | false=>
      simp only [Bool.or_eq_false_iff,decide_eq_false_iff_not] at hb
      simp only [cond_false]
      have hn':0 ≤ IntKind.i64.wrap ((bif (l[i].1 == 2) || (l[i].1 == 9) then IntKind.i64.wrap (n + 500) else n) + 1) ∧ IntKind.i64.wrap ((bif (l[i].1 == 2) || (l[i].1 == 9) then IntKind.i64.wrap (n + 500) else n) + 1) ≤ 501 * ((i + 1:Nat):Int):=by
        rw [w64id (x:=n + 500) (by omega)]
        cases ((l[i].1 == 2) || (l[i].1 == 9)) with
        | true=>simp only [cond_true];rw [w64id (by omega)];omega
        | false=>simp only [cond_false];rw [w64id (by omega)];omega
      obtain ⟨o,h1,h2⟩:=great_loop hl m (i + 1) _ (by omega) hn'
      refine ⟨o,h1,fun x hx ch hch=>?_⟩
      rw [List.drop_eq_getElem_cons hi] at hch
      rcases List.mem_cons.1 hch with rfl | hch
      · omega
      · exact h2 x hx ch hch
theorem great_ok (rows cols:Int) (l:List ChT):∃ b,oriellaw17_great rows cols l = some b ∧ (b = false → l.length ≤ 120 ∧ ∀ ch ∈ l,chL ch):=by
  unfold oriellaw17_great
  have e:∀ a b c d x:Bool,(bif a then bif b then some true else bif c then bif d then some true else bif x then some true else some false else bif x then some true else some false
      else bif c then bif d then some true else bif x then some true else some false else bif x then some true else some false:Option Bool) = some ((a && b) || ((c && d) || x)):=by
    intro a b c d x;cases a <;> cases b <;> cases c <;> cases d <;> cases x <;> rfl
  rw [e]
  simp only [Option.bind_some]
  cases hg:((decide (rows > 30) && decide (rows ≤ 200)) || ((decide (cols > 30) && decide (cols ≤ 200)) || decide ((l.length:Int) > 120))) with
  | true=>exact ⟨true,rfl,fun h=>by simp at h⟩
  | false=>
    simp only [Bool.or_eq_false_iff,decide_eq_false_iff_not] at hg
    have hl:l.length ≤ 120:=by omega
    obtain ⟨o,h1,h2⟩:=great_loop hl l.length 0 0 (by omega) (by omega)
    simp only [cond_false]
    have h1':loopO (oriellaw17_great_loop1 l) (0,0) = some o:=h1
    rw [h1']
    cases o with
    | inl u=>exact ⟨true,rfl,fun h=>by simp at h⟩
    | inr x=>
      refine ⟨_,rfl,fun _=>⟨hl,fun ch hch=>?_⟩⟩
      have:=h2 x rfl ch (by simpa using hch)
      unfold chL;omega
end Go.SH
namespace Go.SH
theorem small_chL {k n m c:Int}:chL (k,n,m,c,[],[]):=by unfold chL;simp
def Sc.w (s:Sc):Int × Int × GridT × GridT × Int × Int × Bool × Int × Int × Int × Int × Int × Int × Int × Int × Int × Int × Int × Bool × Bool × Int × Int × Int × Int × Int × Bool × Bool × Int × Int × Int × Int × List Int:=
  (s.rows,s.cols,s.grid,s.main,s.row,s.col,s.late,s.pen.1,s.pen.2.1,s.pen.2.2,s.top,s.bottom,s.modes,
  s.sv0.1,s.sv0.2.1,s.sv0.2.2.1.1,s.sv0.2.2.1.2.1,s.sv0.2.2.1.2.2,s.sv0.2.2.2.1,s.sv0.2.2.2.2,
  s.sv1.1,s.sv1.2.1,s.sv1.2.2.1.1,s.sv1.2.2.1.2.1,s.sv1.2.2.1.2.2,s.sv1.2.2.2.1,s.sv1.2.2.2.2,s.tabs.1,s.tabs.2.1,s.tabs.2.2.1,s.tabs.2.2.2,s.title)
end Go.SH
namespace Go.SH
theorem editM_frame (ch:ChT) (s:Sc):(editM ch s).modes = s.modes ∧ (editM ch s).sv0 = s.sv0 ∧ ((ch.1 == 27) = false → (editM ch s).main = s.main):=by
  unfold editM
  cases ch.1 == 11 <;> cases ch.1 == 12 <;> cases ch.1 == 13 <;> first
    | exact ⟨rfl,rfl,fun _=>rfl⟩
    | (cases ch.1 == 14 <;> cases ch.1 == 15 <;> cases ((ch.1 == 16) || (ch.1 == 17)) <;> first
        | exact ⟨rfl,rfl,fun _=>rfl⟩
        | (cases (decide (s.row < s.top) || decide (s.row > s.bottom)) <;> exact ⟨rfl,rfl,fun _=>rfl⟩)
        | (cases ch.1 == 18 <;> cases ch.1 == 19 <;> cases ch.1 == 23 <;> first
            | exact ⟨rfl,rfl,fun _=>rfl⟩
            | (cases (decide (ch.2.1 ≥ 0) && (decide (ch.2.1 < ch.2.2.1) && decide (ch.2.2.1 < s.rows))) <;> exact ⟨rfl,rfl,fun _=>rfl⟩)
            | (cases h:ch.1 == 27 with
                | true=>exact ⟨rfl,rfl,fun h2=>by simp at h2⟩
                | false=>exact ⟨rfl,rfl,fun _=>rfl⟩)))
theorem modeM_frame {s:Sc} (hm:0 ≤ s.modes ∧ s.modes ≤ 255) {b:Int} (h128:(b == 128) = false) (on:Bool):otherM (modeM b on s).modes = otherM s.modes ∧ (modeM b on s).sv0 = s.sv0 ∧ (modeM b on s).main = s.main:=by
  unfold modeM
  cases hbad:badBit b with
  | true=>exact ⟨rfl,rfl,rfl⟩
  | false=>
    obtain ⟨_,_,m3⟩:=mode_r hm (goodBit hbad)
    obtain ⟨o1,o2⟩:=m3 (by simpa using h128)
    rw [swapM_ne h128,h128]
    cases b == 2 <;> cases on
    · exact ⟨o2,rfl,rfl⟩
    · exact ⟨o1,rfl,rfl⟩
    · exact ⟨o2,rfl,rfl⟩
    · exact ⟨o1,rfl,rfl⟩
theorem restoreM_frame {s:Sc} (hm:0 ≤ s.modes ∧ s.modes ≤ 255):otherM (restoreM s).modes = otherM s.modes:=by
  obtain ⟨_,_,m3⟩:=mode_r hm (b:=2) (by simp [bits8])
  obtain ⟨o1,o2⟩:=m3 (by decide)
  unfold restoreM
  cases (savedS s).2.2.2.1 with
  | true=>exact o1
  | false=>exact o2
/-- No other page is begun or left. -/
def noOther (ch:ChT):Bool:=!((ch.1 == 20) && (ch.2.1 == 128))
theorem change_frame {s:Sc} (hm:0 ≤ s.modes ∧ s.modes ≤ 255) {ch:ChT} (h:noOther ch = true) (h24:(ch.1 == 24) = false):otherM (changeM ch s).modes = otherM s.modes ∧ (otherM s.modes = true → (changeM ch s).sv0 = s.sv0) ∧ ((ch.1 == 27) = false → (changeM ch s).main = s.main):=by
  unfold changeM
  cases ch.1 == 1 with
  | true=>exact ⟨rfl,fun _=>rfl,fun _=>rfl⟩
  | false=>
  cases ch.1 == 25 with
  | true=>exact ⟨rfl,fun _=>rfl,fun _=>rfl⟩
  | false=>
  cases ch.1 == 26 with
  | true=>exact ⟨rfl,fun _=>rfl,fun _=>rfl⟩
  | false=>
  cases ch.1 == 10 with
  | true=>
    unfold stopM
    cases ch.2.1 == 0 <;> cases ch.2.1 == 1 <;> cases ch.2.1 == 2 <;> exact ⟨rfl,fun _=>rfl,fun _=>rfl⟩
  | false=>
  cases ch.1 == 21 with
  | true=>
    simp only [cond_true,cond_false]
    unfold saveM
    cases ho:otherM s.modes with
    | true=>exact ⟨ho,fun _=>rfl,fun _=>rfl⟩
    | false=>exact ⟨ho,fun h=>by simp at h,fun _=>rfl⟩
  | false=>
  cases h20:ch.1 == 20 with
  | true=>
    simp only [cond_true,cond_false]
    have h128:(ch.2.1 == 128) = false:=by
      unfold noOther at h
      rw [h20] at h
      simpa using h
    obtain ⟨f1,f2,f3⟩:=modeM_frame hm h128 (ch.2.2.1 != 0)
    exact ⟨f1,fun _=>f2,fun _=>f3⟩
  | false=>
  cases ch.1 == 22 with
  | true=>
    simp only [cond_true,cond_false]
    exact ⟨restoreM_frame hm,fun _=>rfl,fun _=>rfl⟩
  | false=>
  rw [h24]
  cases (decide (ch.1 ≥ 1) && decide (ch.1 ≤ 27)) with
  | true=>
    simp only [cond_true,cond_false]
    obtain ⟨f1,f2,f3⟩:=editM_frame ch (moveS ch s)
    exact ⟨by rw [f1];rfl,fun _=>f2,f3⟩
  | false=>exact ⟨rfl,fun _=>rfl,fun _=>rfl⟩
theorem normC_20 {ch:ChT} (h:(ch.1 == 20) = true):normC ch = ch:=by
  unfold normC
  have:(ch.1 != 20) = false:=by simp [bne,h]
  rw [this];rfl
theorem noOther_norm {ch:ChT} (h:noOther ch = true):noOther (normC ch) = true:=by
  unfold noOther at *
  rw [normC_fst]
  cases h20:(ch.1 == 20) with
  | false=>rfl
  | true=>rw [normC_20 h20];rw [h20] at h;exact h
theorem one_other {s:Sc} {R C:Nat} (hs:OkS s R C) (ho:otherM s.modes = false) {ch:ChT} (h:noOther ch = true):otherM (oneM s ch).modes = false:=by
  unfold oneM
  cases h24:((normC ch).1 == 24) with
  | false=>rw [(change_frame hs.md (noOther_norm h) h24).1];exact ho
  | true=>
    have e:=beqf h24
    have:changeM (normC ch) s = newSc s.rows s.cols:=by
      unfold changeM
      rw [e];rfl
    rw [this]
    exact (by decide +kernel:otherM 9 = false)
theorem pages_getD {s:Sc} (l:List ChT):screen_Do (s.w.1,s.w.2.1,s.w.2.2.1,s.w.2.2.2.1,s.w.2.2.2.2.1,s.w.2.2.2.2.2.1,s.w.2.2.2.2.2.2.1,(s.w.2.2.2.2.2.2.2.1,s.w.2.2.2.2.2.2.2.2.1,s.w.2.2.2.2.2.2.2.2.2.1),s.w.2.2.2.2.2.2.2.2.2.2.1,s.w.2.2.2.2.2.2.2.2.2.2.2.1,s.w.2.2.2.2.2.2.2.2.2.2.2.2.1,((s.w.2.2.2.2.2.2.2.2.2.2.2.2.2.1,s.w.2.2.2.2.2.2.2.2.2.2.2.2.2.2.1,(s.w.2.2.2.2.2.2.2.2.2.2.2.2.2.2.2.1,s.w.2.2.2.2.2.2.2.2.2.2.2.2.2.2.2.2.1,s.w.2.2.2.2.2.2.2.2.2.2.2.2.2.2.2.2.2.1),s.w.2.2.2.2.2.2.2.2.2.2.2.2.2.2.2.2.2.2.1,s.w.2.2.2.2.2.2.2.2.2.2.2.2.2.2.2.2.2.2.2.1),s.w.2.2.2.2.2.2.2.2.2.2.2.2.2.2.2.2.2.2.2.2.1,s.w.2.2.2.2.2.2.2.2.2.2.2.2.2.2.2.2.2.2.2.2.2.1,(s.w.2.2.2.2.2.2.2.2.2.2.2.2.2.2.2.2.2.2.2.2.2.2.1,s.w.2.2.2.2.2.2.2.2.2.2.2.2.2.2.2.2.2.2.2.2.2.2.2.1,s.w.2.2.2.2.2.2.2.2.2.2.2.2.2.2.2.2.2.2.2.2.2.2.2.2.1),s.w.2.2.2.2.2.2.2.2.2.2.2.2.2.2.2.2.2.2.2.2.2.2.2.2.2.1,s.w.2.2.2.2.2.2.2.2.2.2.2.2.2.2.2.2.2.2.2.2.2.2.2.2.2.2.1),(s.w.2.2.2.2.2.2.2.2.2.2.2.2.2.2.2.2.2.2.2.2.2.2.2.2.2.2.2.1,s.w.2.2.2.2.2.2.2.2.2.2.2.2.2.2.2.2.2.2.2.2.2.2.2.2.2.2.2.2.1,s.w.2.2.2.2.2.2.2.2.2.2.2.2.2.2.2.2.2.2.2.2.2.2.2.2.2.2.2.2.2.1,s.w.2.2.2.2.2.2.2.2.2.2.2.2.2.2.2.2.2.2.2.2.2.2.2.2.2.2.2.2.2.2.1),s.w.2.2.2.2.2.2.2.2.2.2.2.2.2.2.2.2.2.2.2.2.2.2.2.2.2.2.2.2.2.2.2) l = screen_Do s.t l:=rfl
theorem pages1_step {l:List ChT} (hb:l.length ≤ 120) {i:Nat} {ch:ChT} (hi:l[i]? = some ch) (hch:chL ch) {s:Sc} {R C:Nat} (h:OkS s R C) :
    oriellaw17_ScreenPages_loop1 l ((i:Int),s.w) = some (bif noOther ch then .inr (((i + 1:Nat):Int),(oneM s ch).w) else .inl (.inl s.w)):=by
  have hlt:i < l.length:=(List.getElem?_eq_some_iff.1 hi).1
  have hD:=Do1_eq h hch
  unfold oriellaw17_ScreenPages_loop1 noOther
  rw [dec_t (by omega:(i:Int) < (l.length:Int))]
  simp only [bt]
  simp only [Option.bind_some,cond_true,getI_nat,hi,bt2]
  rw [pages_getD,hD,w64id (x:=(i:Int) + 1) (by omega)]
  cases ((ch.1 == 20) && (ch.2.1 == 128)) <;> rfl
theorem pages1_end {l:List ChT} (s:Sc):oriellaw17_ScreenPages_loop1 l ((l.length:Int),s.w) = some (.inl (.inr s.w)):=by
  unfold oriellaw17_ScreenPages_loop1
  rw [dec_f (by omega:¬ (l.length:Int) < (l.length:Int))]
  rfl
theorem pages1_loop {l:List ChT} (hb:l.length ≤ 120) (hl:∀ ch ∈ l,chL ch):∀ (m i:Nat) {s:Sc} {R C:Nat},i + m = l.length → OkS s R C → otherM s.modes = false →
    (∃ x,loopO (oriellaw17_ScreenPages_loop1 l) ((i:Int),s.w) = some (.inl x)) ∨ ∃ s' R' C',loopO (oriellaw17_ScreenPages_loop1 l) ((i:Int),s.w) = some (.inr s'.w) ∧ OkS s' R' C' ∧ otherM s'.modes = false
  | 0,i,s,R,C,hi,h,ho=>by
    have e:i = l.length:=by omega
    subst e
    rw [loopO_eq,pages1_end]
    exact .inr ⟨s,R,C,rfl,h,ho⟩
  | m + 1,i,s,R,C,hi,h,ho=>by
    have hlt:i < l.length:=by omega
    have hch:=hl _ (List.getElem_mem hlt)
    obtain ⟨R',C',k1,_⟩:=oneM_ok h hch
    rw [loopO_eq,pages1_step hb (List.getElem?_eq_getElem hlt) hch h]
    cases hn:noOther l[i] with
    | false=>exact .inl ⟨_,rfl⟩
    | true=>exact pages1_loop hb hl m (i + 1) (by omega) k1 (one_other h ho hn)
theorem pages2_step {l:List ChT} (hb:l.length ≤ 120) {i:Nat} {ch:ChT} (hi:l[i]? = some ch) (hch:chL ch) {s:Sc} {R C:Nat} (h:OkS s R C) :
    oriellaw17_ScreenPages_loop2 l ((i:Int),s.w) = some (bif (ch.1 == 27) || ((ch.1 == 24) || !noOther ch) then .inl (.inl s.w) else .inr (((i + 1:Nat):Int),(oneM s ch).w)):=by
  have hlt:i < l.length:=(List.getElem?_eq_some_iff.1 hi).1
  have hD:=Do1_eq h hch
  unfold oriellaw17_ScreenPages_loop2 noOther
  rw [dec_t (by omega:(i:Int) < (l.length:Int))]
  simp only [bt]
  simp only [Option.bind_some,cond_true,getI_nat,hi,bt2,bto]
  rw [pages_getD,hD,w64id (x:=(i:Int) + 1) (by omega),Bool.not_not]
  cases ((ch.1 == 27) || ((ch.1 == 24) || ((ch.1 == 20) && (ch.2.1 == 128)))) <;> rfl
theorem pages2_end {l:List ChT} (s:Sc):oriellaw17_ScreenPages_loop2 l ((l.length:Int),s.w) = some (.inl (.inr s.w)):=by
  unfold oriellaw17_ScreenPages_loop2
  rw [dec_f (by omega:¬ (l.length:Int) < (l.length:Int))]
  rfl
theorem pages2_loop {l:List ChT} (hb:l.length ≤ 120) (hl:∀ ch ∈ l,chL ch):∀ (m i:Nat) {s:Sc} {R C:Nat},i + m = l.length → OkS s R C → otherM s.modes = true →
    (∃ x,loopO (oriellaw17_ScreenPages_loop2 l) ((i:Int),s.w) = some (.inl x)) ∨ ∃ s',loopO (oriellaw17_ScreenPages_loop2 l) ((i:Int),s.w) = some (.inr s'.w) ∧ OkS s' R C ∧ otherM s'.modes = true ∧ s'.sv0 = s.sv0 ∧ s'.main = s.main
  | 0,i,s,R,C,hi,h,ho=>by
    have e:i = l.length:=by omega
    subst e
    rw [loopO_eq,pages2_end]
    exact .inr ⟨s,rfl,h,ho,rfl,rfl⟩
  | m + 1,i,s,R,C,hi,h,ho=>by
    have hlt:i < l.length:=by omega
    have hch:=hl _ (List.getElem_mem hlt)
    obtain ⟨R',C',k1,k2⟩:=oneM_ok h hch
    rw [loopO_eq,pages2_step hb (List.getElem?_eq_getElem hlt) hch h]
    cases hn:((l[i].1 == 27) || ((l[i].1 == 24) || !noOther l[i])) with
    | true=>exact .inl ⟨_,rfl⟩
    | false=>
      simp only [Bool.or_eq_false_iff,Bool.not_eq_false'] at hn
      obtain ⟨n1,n2,n3⟩:=hn
      obtain ⟨rfl,rfl⟩:=k2 (by simpa using n1)
      obtain ⟨f1,f2,f3⟩:=change_frame (s:=s) h.md (noOther_norm n3) (by rw [normC_fst];exact n2)
      simp only [cond_false]
      rcases pages2_loop hb hl m (i + 1) (by omega) k1 (f1.trans ho) with hx | ⟨s',q1,q2,q3,q4,q5⟩
      · exact .inl hx
      · exact .inr ⟨s',q1,q2,q3,q4.trans (f2 ho),q5.trans (f3 (by rw [normC_fst];exact n1))⟩
theorem enter_eq {s:Sc} (ho:otherM s.modes = false):oneM s (20,128,1,0,[],[]) = { s with main:=s.grid,grid:=blankG s.rows.toNat s.cols.toNat (0,0,0),sv0:=spotOf s,modes:=modeOn s.modes 128,late:=false }:=by
  have e:oneM s (20,128,1,0,[],[]) = bif (ibits .and .i64 s.modes 128 != 0) && !true then restoreM (setM 128 true (swapM 128 true s)) else { setM 128 true (swapM 128 true s) with late:=false }:=rfl
  rw [e]
  simp only [Bool.not_true,Bool.and_false,cond_false]
  have e2:swapM 128 true s = { saveM s with main:=s.grid,grid:=blankG s.rows.toNat s.cols.toNat (0,0,0) }:=by
    unfold swapM
    rw [wasB,ho];rfl
  have e3:saveM s = { s with sv0:=spotOf s }:=by unfold saveM;rw [ho];rfl
  rw [e2,e3]
  rfl
theorem leave_eq {s:Sc} (ho:otherM s.modes = true):oneM s (20,128,0,0,[],[]) = restoreM { s with grid:=s.main,main:=[],modes:=modeOff s.modes 128 }:=by
  have e:oneM s (20,128,0,0,[],[]) = bif (ibits .and .i64 s.modes 128 != 0) && !false then restoreM (setM 128 false (swapM 128 false s)) else { setM 128 false (swapM 128 false s) with late:=false }:=rfl
  rw [e,wasB,ho]
  simp only [Bool.not_false,Bool.and_self,cond_true]
  have e2:swapM 128 false s = { s with grid:=s.main,main:=[] }:=by
    unfold swapM
    rw [wasB,ho];rfl
  rw [e2]
  rfl
theorem mode_add:∀ m:_root_.Fin 256,(otherM m.val || (modeOn m.val 128 == m.val + 128)) = true:=by decide +kernel
theorem mode_orig:∀ m:_root_.Fin 256,((ibits .and .i64 (modeOn m.val 2) 2 == 2) && (ibits .and .i64 (modeOff m.val 2) 2 == 0) && (ibits .and .i64 m.val 2 == bif originB m.val then 2 else 0)) = true:=by decide +kernel
theorem mode_add' {m:Int} (hm:0 ≤ m ∧ m ≤ 255) (ho:otherM m = false):modeOn m 128 = m + 128:=by
  have:=mode_add ⟨m.toNat,by omega⟩
  simp only [show ((m.toNat:Nat):Int) = m from by omega,ho,Bool.false_or,beq_iff_eq] at this
  exact this
theorem mode_orig' {m:Int} (hm:0 ≤ m ∧ m ≤ 255):ibits .and .i64 (modeOn m 2) 2 = 2 ∧ ibits .and .i64 (modeOff m 2) 2 = 0 ∧ ibits .and .i64 m 2 = bif originB m then 2 else 0:=by
  have:=mode_orig ⟨m.toNat,by omega⟩
  simp only [show ((m.toNat:Nat):Int) = m from by omega,Bool.and_eq_true,beq_iff_eq] at this
  exact ⟨this.1.1,this.1.2,this.2⟩
theorem enter_ok {s:Sc} {R C:Nat} (h:OkS s R C):OkS (oneM s (20,128,1,0,[],[])) R C:=by
  obtain ⟨R',C',k1,k2⟩:=oneM_ok h (ch:=(20,128,1,0,[],[])) small_chL
  obtain ⟨rfl,rfl⟩:=k2 (by decide)
  exact k1
theorem pages_true (rows cols:Int) (l m:List ChT):oriellaw17_ScreenPages rows cols l m = some true:=by
  obtain ⟨b,hb,hb2⟩:=great_ok rows cols l
  obtain ⟨b',hb',hb2'⟩:=great_ok rows cols m
  unfold oriellaw17_ScreenPages
  simp only [oriellaw17_known,Option.bind_some,Bool.not_true,cond_false,hb,hb']
  simp only [bt]
  simp only [bto,Bool.or_false,Option.bind_some,Bool.not_true,cond_false,bt]
  cases hg:(decide (rows < 1) || (decide (rows > 20) || (decide (cols < 1) || (decide (cols > 20) || (b || (b' || (decide ((l.length:Int) > 60) || decide ((m.length:Int) > 60)))))))) with
  | true=>rfl
  | false=>
    simp only [Bool.or_eq_false_iff,decide_eq_false_iff_not] at hg
    obtain ⟨g1,g2,g3,g4,g5,g6,g7,g8⟩:=hg
    obtain ⟨hl1,hl2⟩:=hb2 g5
    obtain ⟨hm1,hm2⟩:=hb2' g6
    obtain ⟨R,rfl⟩:∃ k:Nat,rows = k:=⟨rows.toNat,by omega⟩
    obtain ⟨C,rfl⟩:∃ k:Nat,cols = k:=⟨cols.toNat,by omega⟩
    have hs:szR R C:=by unfold szR;omega
    have h0:=newSc_ok hs
    simp only [cond_false]
    rw [NewS_eq hs]
    simp only [Option.bind_some]
    have e0:((0:Int) != 0) = false:=rfl
    simp only [e0,cond_false]
    rcases pages1_loop hl1 hl2 l.length 0 (by omega) h0 (by decide +kernel:otherM 9 = false) with ⟨x,hx⟩ | ⟨s,R1,C1,hx,hs1,ho⟩
    · have hx':loopO (oriellaw17_ScreenPages_loop1 l) (0,(newSc (R:Int) (C:Int)).w) = some (.inl x):=hx
      erw [hx']
      rfl
    · have hx':loopO (oriellaw17_ScreenPages_loop1 l) (0,(newSc (R:Int) (C:Int)).w) = some (.inr s.w):=hx
      erw [hx']
      simp only [Option.bind_some]
      have hen:=enter_ok hs1
      have hDe:=Do1_eq hs1 (ch:=(20,128,1,0,[],[])) small_chL
      erw [hDe]
      simp only [Option.bind_some]
      have c1:((oneM s (20,128,1,0,[],[])).t.2.2.2.2.2.2.2.2.2.2.1 != IntKind.i64.wrap (s.modes + 128)) = false:=by
        have hmd:=hs1.md
        rw [w64id (by omega),← mode_add' hs1.md ho,enter_eq ho]
        show (modeOn s.modes 128 != modeOn s.modes 128) = false
        simp
      have c2:(((oneM s (20,128,1,0,[],[])).t.2.2.2.1.length:Int) != s.rows) = false:=by
        rw [enter_eq ho]
        show ((s.grid.length:Int) != s.rows) = false
        rw [hs1.g.1,hs1.hr];simp
      erw [c1,c2]
      simp only [Bool.or_self,cond_false]
      have hoe:otherM (oneM s (20,128,1,0,[],[])).modes = true:=by
        rw [enter_eq ho];exact (mode_o hs1.md).1
      rcases pages2_loop hm1 hm2 m.length 0 (by omega) hen hoe with ⟨x,hx2⟩ | ⟨y,hx2,hy,hoy,ysv,ymain⟩
      · have hx2':loopO (oriellaw17_ScreenPages_loop2 m) (0,(oneM s (20,128,1,0,[],[])).w) = some (.inl x):=hx2
        erw [hx2']
        rfl
      · have hx2':loopO (oriellaw17_ScreenPages_loop2 m) (0,(oneM s (20,128,1,0,[],[])).w) = some (.inr y.w):=hx2
        erw [hx2']
        simp only [Option.bind_some]
        have hDl:=Do1_eq hy (ch:=(20,128,0,0,[],[])) small_chL
        erw [hDl]
        simp only [Option.bind_some]
        have ysv':y.sv0 = spotOf s:=by rw [ysv,enter_eq ho]
        have ymain':y.main = s.grid:=by rw [ymain,enter_eq ho]
        have hmain:s.main = []:=by
          rcases hs1.m with ⟨q,_⟩ | ⟨_,q⟩
          · rw [ho] at q;simp at q
          · exact q
        have hofl:otherM (modeOff y.modes 128) = false:=(mode_o hy.md).2
        have hmo:0 ≤ modeOff y.modes 128 ∧ modeOff y.modes 128 ≤ 255:=(mode_r hy.md (b:=128) (by simp [bits8])).2.1
        have hrow:=hs1.row;have hcol:=hs1.col;have hR1:=hs1.hr;have hC1:=hs1.hc
        have hyr:=hy.hr;have hyc:=hy.hc
        have hZ:oneM y (20,128,0,0,[],[]) = { y with grid:=s.grid,main:=[],row:=s.row,col:=s.col,pen:=s.pen,modes:=bif originB s.modes then modeOn (modeOff y.modes 128) 2 else modeOff (modeOff y.modes 128) 2,late:=s.late }:=by
          rw [leave_eq hoy]
          unfold restoreM savedS
          simp only [hofl,cond_false,ysv',ymain']
          have b1:betw (spotOf s).1 0 (y.rows - 1) = s.row:=betw_id (by show 0 ≤ s.row ∧ s.row ≤ _;omega)
          have b2:betw (spotOf s).2.1 0 (y.cols - 1) = s.col:=betw_id (by show 0 ≤ s.col ∧ s.col ≤ _;omega)
          rw [b1,b2]
          have b3:(bif (spotOf s).2.2.2.2 then s.col == y.cols - 1 else false) = s.late:=by
            show (bif s.late then s.col == y.cols - 1 else false) = s.late
            cases hla:s.late with
            | false=>rfl
            | true=>
              have:=hs1.late hla
              simp only [cond_true,beq_iff_eq]
              omega
          rw [b3]
          rfl
        have hZo:otherM (oneM y (20,128,0,0,[],[])).modes = false:=by
          rw [hZ]
          obtain ⟨_,_,m3⟩:=mode_r hmo (b:=2) (by simp [bits8])
          obtain ⟨o1,o2⟩:=m3 (by decide)
          show otherM (bif originB s.modes then modeOn (modeOff y.modes 128) 2 else modeOff (modeOff y.modes 128) 2) = false
          cases originB s.modes with
          | true=>exact o1.trans hofl
          | false=>exact o2.trans hofl
        have d1:((oneM y (20,128,0,0,[],[])).t.2.2.2.2.2.2.1 == s.late) = true:=by
          rw [hZ];show (s.late == s.late) = true;simp
        have d2:(ibits .and .i64 (oneM y (20,128,0,0,[],[])).t.2.2.2.2.2.2.2.2.2.2.1 128 == 0) = true:=by
          have:(ibits .and .i64 (oneM y (20,128,0,0,[],[])).modes 128 != 0) = false:=hZo
          show (ibits .and .i64 (oneM y (20,128,0,0,[],[])).modes 128 == 0) = true
          simpa [bne] using this
        have d3:(ibits .and .i64 (oneM y (20,128,0,0,[],[])).t.2.2.2.2.2.2.2.2.2.2.1 2 == ibits .and .i64 s.modes 2) = true:=by
          rw [hZ]
          show (ibits .and .i64 (bif originB s.modes then modeOn (modeOff y.modes 128) 2 else modeOff (modeOff y.modes 128) 2) 2 == ibits .and .i64 s.modes 2) = true
          rw [(mode_orig' hs1.md).2.2]
          obtain ⟨q1,q2,_⟩:=mode_orig' hmo
          cases originB s.modes with
          | true=>simp only [cond_true,q1];rfl
          | false=>simp only [cond_false,q2];rfl
        erw [d1,d2,d3]
        simp only [cond_true]
        have hfin:∀ M:Int,screen_Same (s.rows,s.cols,s.grid,s.main,s.row,s.col,false,s.pen,s.top,s.bottom,M,(s.sv0,s.sv1),s.tabs,s.title)
            ((oneM y (20,128,0,0,[],[])).rows,(oneM y (20,128,0,0,[],[])).cols,(oneM y (20,128,0,0,[],[])).grid,(oneM y (20,128,0,0,[],[])).main,(oneM y (20,128,0,0,[],[])).row,(oneM y (20,128,0,0,[],[])).col,false,(oneM y (20,128,0,0,[],[])).pen,s.top,s.bottom,M,(s.sv0,s.sv1),s.tabs,s.title) = some true:=by
          intro M
          rw [hZ]
          simp only
          rw [hmain,show y.rows = s.rows from by omega,show y.cols = s.cols from by omega]
          exact screenSame_refl (s:=(s.rows,s.cols,s.grid,[],s.row,s.col,false,s.pen,s.top,s.bottom,M,(s.sv0,s.sv1),s.tabs,s.title)) hs1.small.1 small_nil hs1.small.2.2
        erw [hfin (ibits .or .i64 (ibits .andNot .i64 s.modes 2) (ibits .and .i64 (oneM y (20,128,0,0,[],[])).modes 2))]
        rfl
end Go.SH
