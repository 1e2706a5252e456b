/- Plain: a tree that is right is of the shape, and back; so reading and packing undo each other. -/
import Derived.Test.YtdkogijdfgfpeaaGreatDoorVGrown
import Derived.Test.YtdkogijdfgfpeaaGreatDoorVRead
set_option linter.unusedVariables false
namespace Go.Proofs.YtdkogijdfgfpeaaGreatDoor
open Go Go.RowKit
theorem dw_split {α : Type} {p : α → Bool} : ∀ (a b : List α), (∀ z ∈ a, p z = true) → (∀ z r, b = z :: r → p z = false) → (a ++ b).dropWhile p = b
 | [], b, _, hb => by
   cases b with
   | nil => rfl
   | cons z r => exact List.dropWhile_cons_of_neg (by simp [hb z r rfl])
 | x :: a, b, ha, hb => by
   rw [List.cons_append, List.dropWhile_cons_of_pos (ha x (List.mem_cons_self ..))]
   exact dw_split a b (fun z hz => ha z (List.mem_cons_of_mem _ hz)) hb
theorem popTo_deep (p l : List UInt8) (ab deep : Opens) (h : ∀ o ∈ deep, o.1 ≠ p) : popTo p (ab ++ (p, l) :: deep) = ab ++ [(p, l)] := by
 unfold popTo
 rw [List.reverse_append, List.reverse_cons, List.append_assoc, dw_split deep.reverse _ (fun z hz => by simpa using h z (List.mem_reverse.1 hz)) (fun z r e => by cases e; simp)]
 simp
theorem popTo_none (p : List UInt8) (st : Opens) (h : ∀ o ∈ st, o.1 ≠ p) : popTo p st = [] := by
 unfold popTo
 have := dw_split (p := fun o : List UInt8 × List UInt8 => o.1 != p) st.reverse [] (fun z hz => by simpa using h z (List.mem_reverse.1 hz)) (fun z r e => by cases e)
 rw [List.append_nil] at this
 rw [this]; rfl
theorem join_head {p s : List UInt8} (hp : p.head? ≠ some 47) (hs : nameB s = true) : (joinP p s).head? ≠ some 47 := by
 unfold joinP
 split
 ·intro e
  have := name_no47 hs
  cases s with
  | nil => cases e
  | cons x r => simp at e; subst e; simp at this
 ·rename_i h
  cases p with
  | nil => exact absurd rfl h
  | cons x r => simpa using hp
theorem come_deep {p l s : List UInt8} {ab deep : Opens} (hd : ∀ o ∈ deep, o.1 ≠ p) (hp : p.head? ≠ some 47) (hs : nameB s = true) (hl : leS s l = false) : comeB (joinP p s) (ab ++ (p, l) :: deep) = (true, ab ++ [(p, s)]) := by
 unfold comeB
 rw [dirOf_join p s (name_no47 hs), popTo_deep p l ab deep hd]
 simp only [List.getLast?_concat, hs, hl, Bool.not_true, Bool.false_or, Bool.or_false, List.dropLast_concat]
 rw [if_neg]
 simpa using join_head hp hs
theorem below_ne {p q : List UInt8} (h : belowB p q = true) : p ≠ q := by
 intro e
 have := below_len h
 rw [e] at this
 omega
theorem after_of_VF {d : Nat} {p last : List UInt8} {r : List Node} (h : VF d p last r) : ∀ (k : Nat) (ab deep : Opens), ab.length + 1 + d = 6 → 0 < k → k + r.length ≤ 30 → p.head? ≠ some 47 → (∀ o ∈ deep, belowB o.1 p = true) →
 ∃ (l' : List UInt8) (deep' : Opens), afterGo r k (ab ++ (p, last) :: deep) = some (ab ++ (p, l') :: deep') ∧ ∀ o ∈ deep', belowB o.1 p = true := by
 induction h with
 | nil d p last => intro k ab deep _ _ _ _ hd; exact ⟨last, deep, rfl, hd⟩
 | leaf d p last s y r h1 h2 h3 h4 h5 h6 ih =>
   intro k ab deep hab hk hkl hp hd
   simp only [List.length_cons] at hkl
   have hc := come_deep (ab := ab) (fun o ho => below_ne (hd o ho)) hp h2 h3
   rw [← h1] at hc
   have hok : nodeOk k y (ab ++ (p, last) :: deep) = some (ab ++ [(p, s)]) := by
    unfold nodeOk
    rw [hc, if_neg (by rintro (e | e); omega; rw [h5] at e; cases e), if_neg (by omega), if_pos ⟨rfl, by simp; omega⟩]
   unfold afterGo
   rw [hok]
   simp only
   rw [pushD, if_neg h4]
   exact ih (k + 1) ab [] hab (by omega) (by omega) hp (by simp)
 | dir d p last s y sub r h1 h2 h3 h4 h5 h6 h7 ih1 ih2 =>
   intro k ab deep hab hk hkl hp hd
   simp only [List.length_cons, List.length_append] at hkl
   have hc := come_deep (ab := ab) (fun o ho => below_ne (hd o ho)) hp h2 h3
   rw [← h1] at hc
   have hok : nodeOk k y (ab ++ (p, last) :: deep) = some (ab ++ [(p, s)]) := by
    unfold nodeOk
    rw [hc, if_neg (by rintro (e | e); omega; rw [h4, h5] at e; simp [dataB] at e), if_neg (by omega), if_pos ⟨rfl, by simp; omega⟩]
   unfold afterGo
   rw [hok]
   simp only
   rw [pushD, if_pos h4, afterGo_append, h1]
   obtain ⟨l1, dp1, ha1, hd1⟩ := ih1 (k + 1) (ab ++ [(p, s)]) [] (by simp; omega) (by omega) (by omega) (join_head hp h2) (by simp)
   rw [ha1]
   simp only [Option.bind_some]
   rw [List.append_assoc]
   obtain ⟨l2, dp2, ha2, hd2⟩ := ih2 (k + 1 + sub.length) ab ((joinP p s, l1) :: dp1) hab (by omega) (by omega) hp (by
    intro o ho
    rcases List.mem_cons.1 ho with rfl | ho
    ·exact below_join p s (nameB_ne h2)
    ·exact below_trans (hd1 o ho) (below_join p s (nameB_ne h2)))
   exact ⟨l2, dp2, ha2, hd2⟩
theorem VF_of_after : ∀ (n : Nat) (r : List Node), r.length ≤ n → ∀ (d : Nat) (p last : List UInt8) (k : Nat) (ab deep st' : Opens), ab.length + 1 + d = 6 → 0 < k → p.head? ≠ some 47 → (∀ o ∈ deep, belowB o.1 p = true) →
 (∀ z t, r = z :: t → (dirOf z.path).1 = p ∨ ∀ o ∈ deep, (dirOf z.path).1 ≠ o.1) → afterGo r k (ab ++ (p, last) :: deep) = some st' →
 ∃ (r1 r2 : List Node) (l' : List UInt8) (deep' : Opens), r = r1 ++ r2 ∧ VF d p last r1 ∧ (∀ o ∈ deep', belowB o.1 p = true) ∧ afterGo r2 (k + r1.length) (ab ++ (p, l') :: deep') = some st' ∧ (∀ z t, r2 = z :: t → (dirOf z.path).1 ≠ p ∧ ∀ o ∈ deep', (dirOf z.path).1 ≠ o.1)
 | _, [], _, d, p, last, k, ab, deep, st', _, _, _, hd, _, ha => ⟨[], [], last, deep, rfl, .nil _ _ _, hd, ha, fun z t e => by cases e⟩
 | 0, _ :: _, hn, _, _, _, _, _, _, _, _, _, _, _, _, _ => by simp at hn
 | n + 1, z :: t, hn, d, p, last, k, ab, deep, st', hab, hk, hp, hd, hz, ha => by
   simp only [List.length_cons] at hn
   by_cases hdir : (dirOf z.path).1 = p
   ·unfold afterGo at ha
    cases hok : nodeOk k z (ab ++ (p, last) :: deep) with
    | none => rw [hok] at ha; cases ha
    | some st2 =>
      rw [hok] at ha
      simp only at ha
      unfold nodeOk at hok
      by_cases h0 : k = 30 ∨ dataB z.kind z.data = false
      ·rw [if_pos h0] at hok; cases hok
      rw [if_neg h0, if_neg (show ¬ k = 0 by omega)] at hok
      by_cases hc : (comeB z.path (ab ++ (p, last) :: deep)).1 = true ∧ (comeB z.path (ab ++ (p, last) :: deep)).2.length ≤ 5
      ·rw [if_pos hc] at hok
       obtain rfl := Option.some.inj hok
       have hda : dataB z.kind z.data = true := by simpa using fun e => h0 (.inr e)
       have hcb : comeB z.path (ab ++ (p, last) :: deep) = if !nameB (dirOf z.path).2 || z.path.head? == some 47 || leS (dirOf z.path).2 last then (false, ab ++ [(p, last)]) else (true, ab ++ [(p, (dirOf z.path).2)]) := by
        unfold comeB
        rw [hdir, popTo_deep p last ab deep (fun o ho => below_ne (hd o ho))]
        simp only [List.getLast?_concat, List.dropLast_concat]
       rw [hcb] at hc ha
       by_cases hcond : (!nameB (dirOf z.path).2 || z.path.head? == some 47 || leS (dirOf z.path).2 last) = true
       ·rw [if_pos hcond] at hc; cases hc.1
       rw [if_neg hcond] at hc ha
       simp only [Bool.or_eq_true, not_or, Bool.not_eq_true', beq_iff_eq] at hcond
       obtain ⟨⟨c1, c2⟩, c3⟩ := hcond
       have hnm : nameB (dirOf z.path).2 = true := by simpa using c1
       have hle : leS (dirOf z.path).2 last = false := by simpa using c3
       have hzp : z.path = joinP p (dirOf z.path).2 := by
        have := (join_dirOf z.path c2).1
        rwa [hdir] at this
       generalize hs : (dirOf z.path).2 = s at *
       have hlen := hc.2
       simp only [List.length_append, List.length_cons, List.length_nil] at hlen
       obtain ⟨d', rfl⟩ : ∃ d', d = d' + 1 := ⟨d - 1, by omega⟩
       by_cases h4 : z.kind = 4
       ·have hdata : z.data = [] := by
         rw [h4] at hda
         simpa [dataB] using hda
        rw [pushD, if_pos h4, List.append_assoc, hzp] at ha
        obtain ⟨sub, t2, l1, dp1, rfl, hv1, hd1, ha1, hh1⟩ := VF_of_after n t (by omega) d' (joinP p s) [] (k + 1) (ab ++ [(p, s)]) [] st' (by simp; omega) (by omega) (join_head hp hnm) (by simp) (by intro z' t' e; right; simp) (by rw [List.append_assoc]; exact ha)
        rw [List.append_assoc] at ha1
        simp only [List.length_append] at hn
        obtain ⟨r1, r2, l2, dp2, rfl, hv2, hd2, ha2, hh2⟩ := VF_of_after n t2 (by omega) (d' + 1) p s (k + 1 + sub.length) ab ((joinP p s, l1) :: dp1) st' hab (by omega) hp (by
         intro o ho
         rcases List.mem_cons.1 ho with rfl | ho
         ·exact below_join p _ (nameB_ne hnm)
         ·exact below_trans (hd1 o ho) (below_join p _ (nameB_ne hnm))) (by
         intro z' t' e
         right
         intro o ho
         obtain ⟨q1, q2⟩ := hh1 z' t' e
         rcases List.mem_cons.1 ho with rfl | ho
         ·exact q1
         ·exact q2 o ho) ha1
        refine ⟨z :: (sub ++ r1), r2, l2, dp2, by simp, .dir d' p last _ z sub r1 hzp hnm hle h4 hdata hv1 hv2, hd2, ?_, hh2⟩
        rw [show k + (z :: (sub ++ r1)).length = k + 1 + sub.length + r1.length by simp; omega]
        exact ha2
       ·rw [pushD, if_neg h4] at ha
        obtain ⟨r1, r2, l2, dp2, rfl, hv2, hd2, ha2, hh2⟩ := VF_of_after n t (by omega) (d' + 1) p s (k + 1) ab [] st' hab (by omega) hp (by simp) (by intro z' t' e; right; simp) ha
        refine ⟨z :: r1, r2, l2, dp2, by simp, .leaf d' p last _ z r1 hzp hnm hle h4 hda hv2, hd2, ?_, hh2⟩
        rw [show k + (z :: r1).length = k + 1 + r1.length by simp; omega]
        exact ha2
      ·rw [if_neg hc] at hok; cases hok
   ·refine ⟨[], z :: t, last, deep, rfl, .nil _ _ _, hd, ha, fun z' t' e => ?_⟩
    cases e
    exact ⟨hdir, (hz z t rfl).resolve_left hdir⟩
theorem after_len : ∀ (r : List Node) (k : Nat) (st st' : Opens), afterGo r k st = some st' → k ≤ 30 → k + r.length ≤ 30
 | [], k, _, _, _, h => by simpa using h
 | n :: r, k, st, st', ha, h => by
   unfold afterGo at ha
   cases hok : nodeOk k n st with
   | none => rw [hok] at ha; cases ha
   | some s2 =>
     rw [hok] at ha
     have hk : k ≠ 30 := by
      rintro rfl
      unfold nodeOk at hok
      rw [if_pos (.inl rfl)] at hok
      cases hok
     have := after_len r (k + 1) _ _ ha (by omega)
     simp only [List.length_cons]
     omega
theorem VN_of_wrong {l : List Node} (h : wrongL l = -1) : ∃ x r, l = x :: r ∧ VN 5 [] x r ∧ l.length ≤ 30 := by
 have hne : l ≠ [] := by rintro rfl; simp [wrongL] at h
 have ha := (wrongL_after hne).1 h
 obtain ⟨st', ha⟩ := Option.isSome_iff_exists.1 ha
 have hlen := after_len _ _ _ _ ha (by omega)
 obtain ⟨x, r, rfl⟩ := List.exists_cons_of_ne_nil hne
 refine ⟨x, r, rfl, ?_, by omega⟩
 unfold afterGo at ha
 cases hok : nodeOk 0 x [] with
 | none => rw [hok] at ha; cases ha
 | some st2 =>
   rw [hok] at ha
   simp only at ha
   unfold nodeOk at hok
   by_cases h0 : 0 = 30 ∨ dataB x.kind x.data = false
   ·rw [if_pos h0] at hok; cases hok
   rw [if_neg h0, if_pos rfl] at hok
   have hda : dataB x.kind x.data = true := by simpa using fun e => h0 (.inr e)
   by_cases hp : x.path = [] ∧ ([] : Opens).length ≤ 5
   ·rw [if_pos hp] at hok
    obtain rfl := Option.some.inj hok
    refine ⟨hp.1, ?_⟩
    by_cases h4 : x.kind = 4
    ·right
     have hdata : x.data = [] := by rw [h4] at hda; simpa [dataB] using hda
     rw [pushD, if_pos h4, hp.1] at ha
     obtain ⟨r1, r2, l2, dp2, hr, hv, hd2, ha2, hh2⟩ := VF_of_after r.length r (Nat.le_refl _) 5 [] [] 1 [] [] st' rfl (by omega) (by simp) (by simp) (by intro z t e; right; simp) ha
     cases r2 with
     | nil =>
       rw [List.append_nil] at hr
       subst hr
       exact ⟨h4, hdata, hv⟩
     | cons z t =>
       exfalso
       obtain ⟨q1, q2⟩ := hh2 z t rfl
       unfold afterGo at ha2
       have hcn : comeB z.path ([] ++ (([] : List UInt8), l2) :: dp2) = (false, []) := comeB_nil (popTo_none _ _ (by
        intro o ho
        rcases List.mem_cons.1 ho with rfl | ho
        ·exact fun e => q1 e.symm
        ·exact fun e => q2 o ho e.symm))
       have hno : nodeOk (1 + r1.length) z ([] ++ (([] : List UInt8), l2) :: dp2) = none := by
        unfold nodeOk
        split
        ·rfl
        ·rw [if_neg (by omega), hcn, if_neg (by rintro ⟨e, -⟩; cases e)]
       rw [hno] at ha2
       cases ha2
    ·left
     refine ⟨h4, ?_, hda⟩
     rw [pushD, if_neg h4] at ha
     cases r with
     | nil => rfl
     | cons z t =>
       exfalso
       unfold afterGo at ha
       have hcn : comeB z.path [] = (false, []) := comeB_nil rfl
       have hno : nodeOk 1 z [] = none := by
        unfold nodeOk
        split
        ·rfl
        ·rw [if_neg (by omega), hcn, if_neg (by rintro ⟨e, -⟩; cases e)]
       rw [hno] at ha
       cases ha
   ·rw [if_neg hp] at hok; cases hok
theorem wrong_of_VN {x : Node} {r : List Node} (h : VN 5 [] x r) (hl : (x :: r).length ≤ 30) : wrongL (x :: r) = -1 := by
 obtain ⟨hp, h2⟩ := h
 rw [wrongL_after (by simp)]
 simp only [List.length_cons] at hl
 have hda : dataB x.kind x.data = true := by
  rcases h2 with ⟨_, _, h⟩ | ⟨h4, hd, _⟩
  ·exact h
  ·rw [h4, hd]; simp [dataB]
 have hok : nodeOk 0 x [] = some [] := by
  unfold nodeOk
  rw [if_neg (by rintro (e | e); omega; rw [hda] at e; cases e), if_pos rfl, if_pos ⟨hp, by simp⟩]
 unfold afterGo
 rw [hok]
 simp only
 rcases h2 with ⟨h4, rfl, _⟩ | ⟨h4, hd, hv⟩
 ·rfl
 ·rw [pushD, if_pos h4, hp]
  obtain ⟨l', dp, ha, -⟩ := after_of_VF hv 1 [] [] rfl (by omega) (by omega) (by simp) (by simp)
  rw [show ([] : Opens) ++ [([], [])] = [] ++ (([] : List UInt8), ([] : List UInt8)) :: [] from rfl, ha]
  rfl
def refsL (l : List (List UInt8)) : List UInt8 := l.flatMap fun r => putL wRef ++ putL r
def expEnt (e : Ent) : List UInt8 := putL wPath ++ (putL e.path ++ (packP e.tree ++ (putL wRefs ++ (refsL e.refs ++ (putL wSum ++ putL (sumOf (packP e.tree)).data.toList)))))
def expL (es : Ents) : List UInt8 := putL wExport ++ (es.flatMap expEnt ++ putL wEnd)
theorem rising_snoc : ∀ {l : List (List UInt8)} {s : List UInt8}, risingB l = true → risesB l s = true → risingB (l ++ [s]) = true
 | [], s, _, _ => rfl
 | [a], s, _, h2 => by
   show (Op.bytesLess a s && risingB [s]) = true
   have h3 : Op.bytesLess a s = true := h2
   rw [h3]; rfl
 | a :: b :: r, s, h1, h2 => by
   have h3 : (Op.bytesLess a b && risingB (b :: r)) = true := h1
   rw [Bool.and_eq_true] at h3
   show (Op.bytesLess a b && risingB (b :: r ++ [s])) = true
   rw [Bool.and_eq_true]
   refine ⟨h3.1, rising_snoc h3.2 ?_⟩
   simpa [risesB] using h2
theorem refErr_zero {x : CX} {s : List UInt8} (h : refErr x s = 0) : risesB x.refs s = true ∧ (s = x.name ∨ (findE x.has s).isSome = true ∨ (findE x.came s).isSome = true) := by
 unfold refErr at h
 split at h
 ·cases h
 ·rename_i h1
  refine ⟨by simpa using h1, ?_⟩
  split at h
  ·cases h
  ·rename_i h2
   by_cases e1 : s = x.name
   ·exact .inl e1
   ·right
    cases h3 : findE x.has s with
    | some _ => exact .inl rfl
    | none =>
      cases h4 : findE x.came s with
      | some _ => exact .inr rfl
      | none => exact absurd ⟨e1, h3, h4⟩ h2
theorem refs_sound : ∀ (f : Nat) (x : CX) (ρ : RS) (xr : CX × RS), rRefsF f x ρ = .ok xr → ρ.rest.length < f → risingB x.refs = true →
 ∃ more, xr.1 = { x with refs := x.refs ++ more } ∧ ρ.rest = refsL more ++ (putL wSum ++ xr.2.rest) ∧ xr.2.nodes = ρ.nodes ∧ risingB (x.refs ++ more) = true ∧ ∀ r ∈ more, r.length ≤ 12 ∧ (r = x.name ∨ (findE x.has r).isSome = true ∨ (findE x.came r).isSome = true)
 | 0, _, _, _, _, h, _ => absurd h (by omega)
 | f + 1, x, ρ, xr, h, hf, hr => by
   unfold rRefsF at h
   obtain ⟨y, h1, h⟩ := bind_ok h
   obtain ⟨r1, m1, n1, -⟩ := rWord_put h1
   have ly := rWord_le h1
   split at h
   ·rename_i hy
    obtain ⟨z, h2, h⟩ := bind_ok h
    obtain ⟨r2, l2, n2, -⟩ := rNext_put h2
    have lz := rNext_le h2
    split at h
    ·cases h
    ·rename_i he
     have he0 : refErr x z.1 = 0 := by simpa using he
     obtain ⟨e1, e2⟩ := refErr_zero he0
     obtain ⟨more, g1, g2, g3, g4, g5⟩ := refs_sound f { x with refs := x.refs ++ [z.1] } z.2 xr h (by omega) (rising_snoc hr e1)
     refine ⟨z.1 :: more, by rw [g1]; simp, ?_, by rw [g3, n2, n1], by simpa using g4, fun r hr => ?_⟩
     ·rw [r1, hy, r2, g2]
      simp [refsL]
     ·rcases List.mem_cons.1 hr with rfl | hr
      ·exact ⟨l2, e2⟩
      ·exact g5 r hr
   ·rename_i hy
    cases h
    have hy2 : y.1 = wSum := by
     simp only [List.mem_cons, List.not_mem_nil, or_false] at m1
     exact m1.resolve_left hy
    refine ⟨[], by simp, ?_, n1, by simpa using hr, by simp⟩
    rw [r1, hy2]
    simp [refsL]
structure EntOk (x : CX) (e : Ent) : Prop where
 path : pathB e.path = true
 new : findE x.came e.path = none
 wrong : wrongL e.tree = -1
 rise : risingB e.refs = true
 known : ∀ r ∈ e.refs, r = e.path ∨ (findE x.has r).isSome = true ∨ (findE x.came r).isSome = true
 short : ∀ r ∈ e.refs, r.length ≤ 12
 same : ∀ o, findE x.has e.path = some o → sameE o e = true
 room : findE x.has e.path = none → x.has.length + freshN x ≠ 10
theorem setE_new {L : Ents} {e : Ent} (h : findE L e.path = none) : setE L e = L ++ [e] := by
 unfold setE
 rw [List.filter_eq_self.2 fun o ho => by
  have := findE_none.1 h o ho
  simpa using this]
theorem pathErr_zero {x : CX} {s : List UInt8} (h : pathErr x s = 0) : pathB s = true ∧ findE x.came s = none := by
 unfold pathErr at h
 split at h
 ·cases h
 ·rename_i h1
  split at h
  ·cases h
  ·rename_i h2
   exact ⟨by simpa using h1, by
    cases h3 : findE x.came s with
    | none => rfl
    | some _ => rw [h3] at h2; exact absurd rfl h2⟩
theorem entErr_zero {x : CX} {l : List Node} {s : List UInt8} (h : entErr x l s = 0) : s = (sumOf (packP l)).data.toList ∧ (∀ o, findE x.has x.name = some o → sameE o (x.ent l) = true) ∧ (findE x.has x.name = none → x.has.length + freshN x ≠ 10) := by
 unfold entErr at h
 split at h
 ·cases h
 ·rename_i h1
  refine ⟨Classical.byContradiction h1, ?_⟩
  cases hf : findE x.has x.name with
  | some o =>
    rw [hf] at h
    simp only at h
    refine ⟨fun o' ho => ?_, fun e => nomatch e⟩
    cases ho
    cases hs : sameE o (x.ent l) with
    | true => rfl
    | false => rw [hs] at h; exact absurd h (by decide)
  | none =>
    rw [hf] at h
    simp only at h
    refine ⟨fun o' ho => (nomatch ho), fun _ h10 => ?_⟩
    rw [if_pos h10] at h
    cases h
theorem entry_sound {x : CX} {ρ : RS} {xr : CX × RS} (h : rEntry x ρ = .ok xr) :
 ∃ e, EntOk x e ∧ xr.1 = { x with name := e.path, refs := e.refs, came := x.came ++ [e], order := x.order ++ [e.path] } ∧ putL wPath ++ ρ.rest = expEnt e ++ xr.2.rest := by
 unfold rEntry at h
 obtain ⟨y, h1, h⟩ := bind_ok h
 obtain ⟨r1, l1, n1, -⟩ := rNext_put h1
 split at h
 ·cases h
 rename_i he
 obtain ⟨p1, p2⟩ := pathErr_zero (by simpa using he)
 obtain ⟨z, h2, h⟩ := bind_ok h
 obtain ⟨r2, m2, n2, -⟩ := rWord_put h2
 obtain ⟨ρ1, h3, h⟩ := bind_ok h
 obtain ⟨d, nd, r, hd, hv, r3, n3, l3⟩ := sound_node 6 _ _ _ h3 (by rw [n2]; simp [RS.clear])
 obtain rfl : d = 5 := by omega
 have hn3 : ρ1.nodes = nd :: r := by rw [n3, n2]; simp [RS.clear]
 obtain ⟨v, h4, h⟩ := bind_ok h
 obtain ⟨r4, m4, n4, -⟩ := rWord_put h4
 obtain ⟨w, h5, h⟩ := bind_ok h
 obtain ⟨more, g1, g2, g3, g4, g5⟩ := refs_sound _ _ _ _ h5 (by omega) rfl
 obtain ⟨t, h6, h⟩ := bind_ok h
 obtain ⟨r6, l6, n6, -⟩ := rNext_put h6
 have htn : t.2.nodes = nd :: r := by rw [n6, g3, n4, hn3]
 split at h
 ·cases h
 rename_i he2
 cases h
 have hw := wrong_of_VN hv (by rw [← hn3]; exact l3)
 obtain ⟨s1, s2, s3⟩ := entErr_zero (by simpa using he2)
 rw [htn] at s1 s2
 have hx1 : w.1 = { x with name := y.1, refs := more } := by rw [g1]; simp [CX.start]
 have hent : w.1.ent (nd :: r) = ⟨y.1, nd :: r, more⟩ := by rw [hx1]; rfl
 rw [hx1] at s2 s3
 simp only [List.mem_singleton] at m2 m4
 refine ⟨⟨y.1, nd :: r, more⟩, ⟨p1, p2, hw, g4, fun q hq => (g5 q hq).2, fun q hq => (g5 q hq).1, s2, s3⟩, ?_, ?_⟩
 ·show w.1.put t.2.nodes = _
  rw [htn]
  unfold CX.put
  rw [hent, hx1]
  simp only
  rw [setE_new (show findE x.came (⟨y.1, nd :: r, more⟩ : Ent).path = none from p2)]
 ·have e1 : packP (nd :: r) = putL wNar ++ nodeR nd (forest r) := by
   rw [pack_ref hw]
   rfl
  unfold expEnt
  simp only
  rw [e1] at s1 ⊢
  rw [← s1, r1]
  have r2' : y.2.rest = putL z.1 ++ z.2.rest := r2
  rw [r2', m2, r3, r4, m4, g2, r6]
  simp only [List.append_assoc]
structure OkX (x : CX) : Prop where
 has : StoreOk x.has
 order : x.order = x.came.map Ent.path
 once : x.came.Pairwise fun a b => a.path ≠ b.path
 good : ∀ e ∈ x.came, pathB e.path = true ∧ wrongL e.tree = -1 ∧ risingB e.refs = true ∧ (∀ r ∈ e.refs, r.length ≤ 12) ∧ ∀ o, findE x.has e.path = some o → sameE o e = true
 known : ∀ i e, x.came[i]? = some e → ∀ r ∈ e.refs, r = e.path ∨ (findE x.has r).isSome = true ∨ (findE (x.came.take i) r).isSome = true
 ten : x.has.length + freshN x ≤ 10
theorem OkX.start {has : Ents} (h : StoreOk has) : OkX (startX has) := ⟨h, rfl, List.Pairwise.nil, (fun e he => nomatch he), (fun i e he => by simp [startX] at he), (by simpa [freshN, startX] using h.ten)⟩
theorem OkX.more {x : CX} {e : Ent} (h : OkX x) (he : EntOk x e) : OkX { x with name := e.path, refs := e.refs, came := x.came ++ [e], order := x.order ++ [e.path] } := by
 refine ⟨h.has, by simp [h.order], ?_, fun o ho => ?_, fun i o ho r hr => ?_, ?_⟩
 ·refine List.pairwise_append.2 ⟨h.once, List.pairwise_singleton _ _, fun a ha b hb => ?_⟩
  obtain rfl := List.mem_singleton.1 hb
  exact findE_none.1 he.new a ha
 ·rcases List.mem_append.1 ho with ho | ho
  ·exact h.good o ho
  ·obtain rfl := List.mem_singleton.1 ho
   exact ⟨he.path, he.wrong, he.rise, he.short, he.same⟩
 ·simp only at ho ⊢
  by_cases hi : i < x.came.length
  ·rw [List.getElem?_append_left hi] at ho
   rw [List.take_append_of_le_length (by omega)]
   exact h.known i o ho r hr
  ·have hil : i = x.came.length := by
    have := (List.getElem?_eq_some_iff.1 ho).1
    simp at this
    omega
   subst hil
   rw [List.getElem?_append_right (Nat.le_refl _)] at ho
   simp only [Nat.sub_self, List.getElem?_cons_zero, Option.some.injEq] at ho
   subst ho
   rw [List.take_left' rfl]
   exact he.known r hr
 ·show x.has.length + (x.came ++ [e]).countP (fun o : Ent => (findE x.has o.path).isNone) ≤ 10
  rw [List.countP_append]
  have h1 := h.ten
  unfold freshN at h1
  cases hf : findE x.has e.path with
  | some o =>
    have : List.countP (fun o : Ent => (findE x.has o.path).isNone) [e] = 0 := by simp [hf]
    omega
  | none =>
    have h2 := he.room hf
    unfold freshN at h2
    have : List.countP (fun o : Ent => (findE x.has o.path).isNone) [e] = 1 := by simp [hf]
    omega
theorem imp_sound : ∀ (f : Nat) (x : CX) (ρ : RS) (xr : CX × RS), rImpF f x ρ = .ok xr → ρ.rest.length < f → OkX x → OkX xr.1 ∧ xr.1.has = x.has ∧ ∃ es, xr.1.came = x.came ++ es ∧ ρ.rest = es.flatMap expEnt ++ (putL wEnd ++ xr.2.rest)
 | 0, _, _, _, _, h, _ => absurd h (by omega)
 | f + 1, x, ρ, xr, h, hf, hx => by
   unfold rImpF at h
   obtain ⟨y, h1, h⟩ := bind_ok h
   obtain ⟨r1, m1, n1, -⟩ := rWord_put h1
   have ly := rWord_le h1
   split at h
   ·rename_i hy
    obtain ⟨z, h2, h⟩ := bind_ok h
    have lz := rEntry_le h2
    obtain ⟨e, g1, g2, g3⟩ := entry_sound h2
    obtain ⟨k1, k2, es, k3, k4⟩ := imp_sound f z.1 z.2 xr h (by omega) (by rw [g2]; exact hx.more g1)
    refine ⟨k1, by rw [k2, g2], e :: es, by rw [k3, g2]; simp, ?_⟩
    rw [r1, hy, g3, k4]
    simp
   ·rename_i hy
    cases h
    have hy2 : y.1 = wEnd := by
     simp only [List.mem_cons, List.not_mem_nil, or_false] at m1
     exact m1.resolve_left hy
    refine ⟨hx, rfl, [], by simp, ?_⟩
    rw [r1, hy2]
    simp
theorem import_sound {has : Ents} {S : List UInt8} {x : CX} (h : importL has S = .ok x) (hs : StoreOk has) : OkX x ∧ x.has = has ∧ S = expL x.came := by
 unfold importL at h
 obtain ⟨y, h1, h⟩ := bind_ok h
 obtain ⟨r1, m1, n1, -⟩ := rWord_put h1
 obtain ⟨z, h2, h⟩ := bind_ok h
 have ly := rWord_le h1
 split at h
 ·rename_i hz
  cases h
  obtain ⟨k1, k2, es, k3, k4⟩ := imp_sound _ _ _ _ h2 (by simp only at ly; omega) (OkX.start hs)
  refine ⟨k1, k2, ?_⟩
  simp only [List.mem_singleton] at m1
  simp only at r1
  have k5 : z.1.came = es := by rw [k3]; simp [startX]
  rw [r1, m1, k4, k5, hz, List.append_nil]
  rfl
 ·cases h
def comF (x : Ents × List (List UInt8)) (e : Ent) : Ents × List (List UInt8) := if (findE x.1 e.path).isSome then x else (putE x.1 e, x.2 ++ [e.path])
def commitL (has came : Ents) : Ents × List (List UInt8) := came.foldl comF (has, [])
theorem commit_snoc (has came : Ents) (e : Ent) : commitL has (came ++ [e]) = comF (commitL has came) e := by simp [commitL]
theorem put_isSome {L : Ents} {e : Ent} {p : List UInt8} : (findE (putE L e) p).isSome = true ↔ p = e.path ∨ (findE L p).isSome = true := by
 rw [findE_isSome, findE_isSome]
 constructor
 ·rintro ⟨o, ho, rfl⟩
  rcases putE_mem.1 ho with rfl | ho
  ·exact .inl rfl
  ·exact .inr ⟨o, ho, rfl⟩
 ·rintro (rfl | ⟨o, ho, rfl⟩)
  ·exact ⟨e, putE_mem.2 (.inl rfl), rfl⟩
  ·exact ⟨o, putE_mem.2 (.inr ho), rfl⟩
theorem find_snoc {L : Ents} {e : Ent} {p : List UInt8} : (findE (L ++ [e]) p).isSome = true ↔ (findE L p).isSome = true ∨ p = e.path := by
 rw [findE_isSome, findE_isSome]
 constructor
 ·rintro ⟨o, ho, rfl⟩
  rcases List.mem_append.1 ho with ho | ho
  ·exact .inl ⟨o, ho, rfl⟩
  ·obtain rfl := List.mem_singleton.1 ho
   exact .inr rfl
 ·rintro (⟨o, ho, rfl⟩ | rfl)
  ·exact ⟨o, List.mem_append.2 (.inl ho), rfl⟩
  ·exact ⟨e, List.mem_append.2 (.inr (List.mem_singleton.2 rfl)), rfl⟩
structure ComOk (has came : Ents) (y : Ents × List (List UInt8)) : Prop where
 ok : StoreOk y.1
 some : ∀ p, (findE y.1 p).isSome = true ↔ (findE has p).isSome = true ∨ (findE came p).isSome = true
 len : y.1.length = has.length + came.countP fun e => (findE has e.path).isNone
 mem : ∀ e ∈ y.1, e ∈ has ∨ e ∈ came
theorem ComOk.step {has came : Ents} {y : Ents × List (List UInt8)} {e : Ent} (h : ComOk has came y) (hn : findE came e.path = none) (h1 : pathB e.path = true) (h2 : wrongL e.tree = -1) (h3 : risingB e.refs = true)
 (hk : ∀ r ∈ e.refs, r = e.path ∨ (findE has r).isSome = true ∨ (findE came r).isSome = true) (ht : has.length + (came ++ [e]).countP (fun o => (findE has o.path).isNone) ≤ 10) : ComOk has (came ++ [e]) (comF y e) := by
 unfold comF
 by_cases hf : (findE y.1 e.path).isSome = true
 ·rw [if_pos hf]
  have hh : (findE has e.path).isSome = true := by
   rcases (h.some _).1 hf with g | g
   ·exact g
   ·rw [hn] at g; cases g
  refine ⟨h.ok, fun p => ?_, ?_, fun o ho => (h.mem o ho).imp id fun g => List.mem_append.2 (.inl g)⟩
  ·rw [h.some, find_snoc]
   constructor
   ·rintro (g | g)
    ·exact .inl g
    ·exact .inr (.inl g)
   ·rintro (g | g | rfl)
    ·exact .inl g
    ·exact .inr g
    ·exact .inl hh
  ·rw [h.len, List.countP_append]
   have : List.countP (fun o : Ent => (findE has o.path).isNone) [e] = 0 := by
    cases hx : findE has e.path with
    | none => rw [hx] at hh; cases hh
    | some _ => simp [hx]
   omega
 ·rw [if_neg hf]
  have hh : (findE has e.path).isNone = true := by
   cases hx : findE has e.path with
   | none => rfl
   | some _ => exact absurd ((h.some _).2 (.inl (by rw [hx]; rfl))) hf
  have hfn : findE y.1 e.path = none := by
   cases hx : findE y.1 e.path with
   | none => rfl
   | some _ => exact absurd (by rw [hx]; rfl) hf
  have hlen : (putE y.1 e).length = has.length + (came ++ [e]).countP (fun o => (findE has o.path).isNone) := by
   rw [putE_length, h.len, List.countP_append]
   have : List.countP (fun o : Ent => (findE has o.path).isNone) [e] = 1 := by simp [hh]
   omega
  refine ⟨⟨putE_rise h.ok.rise hfn, Nat.le_trans (Nat.le_of_eq hlen) ht, fun o ho => ?_, fun o ho r hr => ?_⟩, fun p => ?_, hlen, fun o ho => ?_⟩
  ·rcases putE_mem.1 ho with rfl | ho
   ·exact ⟨h1, h2, h3⟩
   ·exact h.ok.good o ho
  ·rw [put_isSome]
   rcases putE_mem.1 ho with rfl | ho
   ·rcases hk r hr with g | g | g
    ·exact .inl g
    ·exact .inr ((h.some r).2 (.inl g))
    ·exact .inr ((h.some r).2 (.inr g))
   ·exact .inr (h.ok.has o ho r hr)
  ·rw [put_isSome, h.some, find_snoc]
   constructor
   ·rintro (g | g | g)
    ·exact .inr (.inr g)
    ·exact .inl g
    ·exact .inr (.inl g)
   ·rintro (g | g | g)
    ·exact .inr (.inl g)
    ·exact .inr (.inr g)
    ·exact .inl g
  ·rcases putE_mem.1 ho with rfl | ho
   ·exact .inr (List.mem_append.2 (.inr (List.mem_singleton.2 rfl)))
   ·exact (h.mem o ho).imp id fun g => List.mem_append.2 (.inl g)
theorem countP_take_le {α : Type} (p : α → Bool) (l : List α) (k : Nat) : (l.take k).countP p ≤ l.countP p := (List.take_sublist k l).countP_le
theorem commit_ok {x : CX} (h : OkX x) : ∀ k, k ≤ x.came.length → ComOk x.has (x.came.take k) (commitL x.has (x.came.take k))
 | 0, _ => ⟨h.has, fun p => by simp [commitL, findE], by simp [commitL], fun e he => .inl he⟩
 | k + 1, hk => by
   have ih := commit_ok h k (by omega)
   obtain ⟨e, he⟩ : ∃ e, x.came[k]? = some e := ⟨_, List.getElem?_eq_getElem (by omega)⟩
   have hem := List.mem_of_getElem? he
   have ht : x.came.take (k + 1) = x.came.take k ++ [e] := by rw [List.take_add_one, he]; rfl
   rw [ht, commit_snoc]
   obtain ⟨g1, g2, g3, -⟩ := h.good e hem
   refine ih.step ?_ g1 g2 g3 (h.known k e he) ?_
   ·refine findE_none.2 fun o ho e2 => ?_
    obtain ⟨i, hi, hoi⟩ := List.getElem_of_mem ho
    have hik : i < k := by simp at hi; omega
    have h3 := List.pairwise_iff_getElem.1 h.once i k (by omega) (by omega) hik
    rw [List.getElem_take] at hoi
    rw [hoi] at h3
    have h4 : x.came[k]'(by omega) = e := by
     have := List.getElem?_eq_getElem (l := x.came) (i := k) (by omega)
     rw [this] at he
     exact Option.some.inj he
    rw [h4] at h3
    exact h3 e2
   ·rw [← ht]
    have h1 := h.ten
    unfold freshN at h1
    have h2 := countP_take_le (fun e : Ent => (findE x.has e.path).isNone) x.came (k + 1)
    omega
end Go.Proofs.YtdkogijdfgfpeaaGreatDoor
