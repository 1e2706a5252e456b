/- Plain: a tree that is right is of the shape, and back; so reading and packing undo each other. -/
import Derived.Test.YtflkafnhhadphaaDoorChecked
import Derived.Test.YtflkafnhhadphaaDoorShapeR
namespace Go.Proofs.YtflkafnhhadphaaDoor
open Go Go.RowKit
set_option linter.unusedVariables false

theorem dw_split {α : Type} {p : α → Bool} : ∀ (a b : List α), (∀ z ∈ a, p z = true) → (∀ z r, b = z :: r → p z = false) → (a ++ b).dropWhile p = b
  | [], b, _, hb => by
    cases b with
    | nil => rfl
    | cons z r => exact List.dropWhile_cons_of_neg (by simp [hb z r rfl])
  | x :: a, b, ha, hb => by
    rw [List.cons_append, List.dropWhile_cons_of_pos (ha x (List.mem_cons_self ..))]
    exact dw_split a b (fun z hz => ha z (List.mem_cons_of_mem _ hz)) hb
theorem popTo_deep (p l : List UInt8) (ab deep : Opens) (h : ∀ o ∈ deep, o.1 ≠ p) : popTo p (ab ++ (p, l) :: deep) = ab ++ [(p, l)] := by
  unfold popTo
  rw [List.reverse_append, List.reverse_cons, List.append_assoc, dw_split deep.reverse _ (fun z hz => by simpa using h z (List.mem_reverse.1 hz)) (fun z r e => by cases e; simp)]
  simp
theorem popTo_none (p : List UInt8) (st : Opens) (h : ∀ o ∈ st, o.1 ≠ p) : popTo p st = [] := by
  unfold popTo
  have := dw_split (p := fun o : List UInt8 × List UInt8 => o.1 != p) st.reverse [] (fun z hz => by simpa using h z (List.mem_reverse.1 hz)) (fun z r e => by cases e)
  rw [List.append_nil] at this
  rw [this]; rfl
theorem join_head {p s : List UInt8} (hp : p.head? ≠ some 47) (hs : nameB s = true) : (joinP p s).head? ≠ some 47 := by
  unfold joinP
  split
  · intro e
    have := name_no47 hs
    cases s with
    | nil => cases e
    | cons x r => simp at e; subst e; simp at this
  · rename_i h
    cases p with
    | nil => exact absurd rfl h
    | cons x r => simpa using hp
/-- a name that may stand there comes -/
theorem come_deep {p l s : List UInt8} {ab deep : Opens} (hd : ∀ o ∈ deep, o.1 ≠ p) (hp : p.head? ≠ some 47) (hs : nameB s = true) (hl : leS s l = false) : comeB (joinP p s) (ab ++ (p, l) :: deep) = (true, ab ++ [(p, s)]) := by
  unfold comeB
  rw [dirOf_join p s (name_no47 hs), popTo_deep p l ab deep hd]
  simp only [List.getLast?_concat, hs, hl, Bool.not_true, Bool.false_or, Bool.or_false, List.dropLast_concat]
  rw [if_neg]
  simpa using join_head hp hs
theorem below_ne {p q : List UInt8} (h : belowB p q = true) : p ≠ q := by
  intro e
  have := below_len h
  rw [e] at this
  omega
theorem after_of_VF {d : Nat} {p last : List UInt8} {r : List Node} (h : VF d p last r) : ∀ (k : Nat) (ab deep : Opens), ab.length + 1 + d = 6 → 0 < k → k + r.length ≤ 30 → p.head? ≠ some 47 → (∀ o ∈ deep, belowB o.1 p = true) →
    ∃ (l' : List UInt8) (deep' : Opens), afterGo r k (ab ++ (p, last) :: deep) = some (ab ++ (p, l') :: deep') ∧ ∀ o ∈ deep', belowB o.1 p = true := by
  induction h with
  | nil d p last => intro k ab deep _ _ _ _ hd; exact ⟨last, deep, rfl, hd⟩
  | leaf d p last s y r h1 h2 h3 h4 h5 h6 ih =>
    intro k ab deep hab hk hkl hp hd
    simp only [List.length_cons] at hkl
    have hc := come_deep (ab := ab) (fun o ho => below_ne (hd o ho)) hp h2 h3
    rw [← h1] at hc
    have hok : nodeOk k y (ab ++ (p, last) :: deep) = some (ab ++ [(p, s)]) := by
      unfold nodeOk
      rw [hc, if_neg (by rintro (e | e); omega; rw [h5] at e; cases e), if_neg (by omega), if_pos ⟨rfl, by simp; omega⟩]
    unfold afterGo
    rw [hok]
    simp only
    rw [pushD, if_neg h4]
    exact ih (k + 1) ab [] hab (by omega) (by omega) hp (by simp)
  | dir d p last s y sub r h1 h2 h3 h4 h5 h6 h7 ih1 ih2 =>
    intro k ab deep hab hk hkl hp hd
    simp only [List.length_cons, List.length_append] at hkl
    have hc := come_deep (ab := ab) (fun o ho => below_ne (hd o ho)) hp h2 h3
    rw [← h1] at hc
    have hok : nodeOk k y (ab ++ (p, last) :: deep) = some (ab ++ [(p, s)]) := by
      unfold nodeOk
      rw [hc, if_neg (by rintro (e | e); omega; rw [h4, h5] at e; simp [dataB] at e), if_neg (by omega), if_pos ⟨rfl, by simp; omega⟩]
    unfold afterGo
    rw [hok]
    simp only
    rw [pushD, if_pos h4, afterGo_append, h1]
    obtain ⟨l1, dp1, ha1, hd1⟩ := ih1 (k + 1) (ab ++ [(p, s)]) [] (by simp; omega) (by omega) (by omega) (join_head hp h2) (by simp)
    rw [ha1]
    simp only [Option.bind_some]
    rw [List.append_assoc]
    obtain ⟨l2, dp2, ha2, hd2⟩ := ih2 (k + 1 + sub.length) ab ((joinP p s, l1) :: dp1) hab (by omega) (by omega) hp (by
      intro o ho
      rcases List.mem_cons.1 ho with rfl | ho
      · exact below_join p s (nameB_ne h2)
      · exact below_trans (hd1 o ho) (below_join p s (nameB_ne h2)))
    exact ⟨l2, dp2, ha2, hd2⟩
theorem VF_of_after : ∀ (n : Nat) (r : List Node), r.length ≤ n → ∀ (d : Nat) (p last : List UInt8) (k : Nat) (ab deep st' : Opens), ab.length + 1 + d = 6 → 0 < k → p.head? ≠ some 47 → (∀ o ∈ deep, belowB o.1 p = true) →
    (∀ z t, r = z :: t → (dirOf z.path).1 = p ∨ ∀ o ∈ deep, (dirOf z.path).1 ≠ o.1) → afterGo r k (ab ++ (p, last) :: deep) = some st' →
    ∃ (r1 r2 : List Node) (l' : List UInt8) (deep' : Opens), r = r1 ++ r2 ∧ VF d p last r1 ∧ (∀ o ∈ deep', belowB o.1 p = true) ∧ afterGo r2 (k + r1.length) (ab ++ (p, l') :: deep') = some st' ∧ (∀ z t, r2 = z :: t → (dirOf z.path).1 ≠ p ∧ ∀ o ∈ deep', (dirOf z.path).1 ≠ o.1)
  | _, [], _, d, p, last, k, ab, deep, st', _, _, _, hd, _, ha => ⟨[], [], last, deep, rfl, .nil _ _ _, hd, ha, fun z t e => by cases e⟩
  | 0, _ :: _, hn, _, _, _, _, _, _, _, _, _, _, _, _, _ => by simp at hn
  | n + 1, z :: t, hn, d, p, last, k, ab, deep, st', hab, hk, hp, hd, hz, ha => by
    simp only [List.length_cons] at hn
    by_cases hdir : (dirOf z.path).1 = p
    · unfold afterGo at ha
      cases hok : nodeOk k z (ab ++ (p, last) :: deep) with
      | none => rw [hok] at ha; cases ha
      | some st2 =>
        rw [hok] at ha
        simp only at ha
        unfold nodeOk at hok
        by_cases h0 : k = 30 ∨ dataB z.kind z.data = false
        · rw [if_pos h0] at hok; cases hok
        rw [if_neg h0, if_neg (show ¬ k = 0 by omega)] at hok
        by_cases hc : (comeB z.path (ab ++ (p, last) :: deep)).1 = true ∧ (comeB z.path (ab ++ (p, last) :: deep)).2.length ≤ 5
        · rw [if_pos hc] at hok
          obtain rfl := Option.some.inj hok
          have hda : dataB z.kind z.data = true := by simpa using fun e => h0 (.inr e)
          have hcb : comeB z.path (ab ++ (p, last) :: deep) = if !nameB (dirOf z.path).2 || z.path.head? == some 47 || leS (dirOf z.path).2 last then (false, ab ++ [(p, last)]) else (true, ab ++ [(p, (dirOf z.path).2)]) := by
            unfold comeB
            rw [hdir, popTo_deep p last ab deep (fun o ho => below_ne (hd o ho))]
            simp only [List.getLast?_concat, List.dropLast_concat]
          rw [hcb] at hc ha
          by_cases hcond : (!nameB (dirOf z.path).2 || z.path.head? == some 47 || leS (dirOf z.path).2 last) = true
          · rw [if_pos hcond] at hc; cases hc.1
          rw [if_neg hcond] at hc ha
          simp only [Bool.or_eq_true, not_or, Bool.not_eq_true', beq_iff_eq] at hcond
          obtain ⟨⟨c1, c2⟩, c3⟩ := hcond
          have hnm : nameB (dirOf z.path).2 = true := by simpa using c1
          have hle : leS (dirOf z.path).2 last = false := by simpa using c3
          have hzp : z.path = joinP p (dirOf z.path).2 := by
            have := (join_dirOf z.path c2).1
            rwa [hdir] at this
          generalize hs : (dirOf z.path).2 = s at *
          have hlen := hc.2
          simp only [List.length_append, List.length_cons, List.length_nil] at hlen
          obtain ⟨d', rfl⟩ : ∃ d', d = d' + 1 := ⟨d - 1, by omega⟩
          by_cases h4 : z.kind = 4
          · have hdata : z.data = [] := by
              rw [h4] at hda
              simpa [dataB] using hda
            rw [pushD, if_pos h4, List.append_assoc, hzp] at ha
            obtain ⟨sub, t2, l1, dp1, rfl, hv1, hd1, ha1, hh1⟩ := VF_of_after n t (by omega) d' (joinP p s) [] (k + 1) (ab ++ [(p, s)]) [] st' (by simp; omega) (by omega) (join_head hp hnm) (by simp) (by intro z' t' e; right; simp) (by rw [List.append_assoc]; exact ha)
            rw [List.append_assoc] at ha1
            simp only [List.length_append] at hn
            obtain ⟨r1, r2, l2, dp2, rfl, hv2, hd2, ha2, hh2⟩ := VF_of_after n t2 (by omega) (d' + 1) p s (k + 1 + sub.length) ab ((joinP p s, l1) :: dp1) st' hab (by omega) hp (by
              intro o ho
              rcases List.mem_cons.1 ho with rfl | ho
              · exact below_join p _ (nameB_ne hnm)
              · exact below_trans (hd1 o ho) (below_join p _ (nameB_ne hnm))) (by
              intro z' t' e
              right
              intro o ho
              obtain ⟨q1, q2⟩ := hh1 z' t' e
              rcases List.mem_cons.1 ho with rfl | ho
              · exact q1
              · exact q2 o ho) ha1
            refine ⟨z :: (sub ++ r1), r2, l2, dp2, by simp, .dir d' p last _ z sub r1 hzp hnm hle h4 hdata hv1 hv2, hd2, ?_, hh2⟩
            rw [show k + (z :: (sub ++ r1)).length = k + 1 + sub.length + r1.length by simp; omega]
            exact ha2
          · rw [pushD, if_neg h4] at ha
            obtain ⟨r1, r2, l2, dp2, rfl, hv2, hd2, ha2, hh2⟩ := VF_of_after n t (by omega) (d' + 1) p s (k + 1) ab [] st' hab (by omega) hp (by simp) (by intro z' t' e; right; simp) ha
            refine ⟨z :: r1, r2, l2, dp2, by simp, .leaf d' p last _ z r1 hzp hnm hle h4 hda hv2, hd2, ?_, hh2⟩
            rw [show k + (z :: r1).length = k + 1 + r1.length by simp; omega]
            exact ha2
        · rw [if_neg hc] at hok; cases hok
    · refine ⟨[], z :: t, last, deep, rfl, .nil _ _ _, hd, ha, fun z' t' e => ?_⟩
      cases e
      exact ⟨hdir, (hz z t rfl).resolve_left hdir⟩
theorem after_len : ∀ (r : List Node) (k : Nat) (st st' : Opens), afterGo r k st = some st' → k ≤ 30 → k + r.length ≤ 30
  | [], k, _, _, _, h => by simpa using h
  | n :: r, k, st, st', ha, h => by
    unfold afterGo at ha
    cases hok : nodeOk k n st with
    | none => rw [hok] at ha; cases ha
    | some s2 =>
      rw [hok] at ha
      have hk : k ≠ 30 := by
        rintro rfl
        unfold nodeOk at hok
        rw [if_pos (.inl rfl)] at hok
        cases hok
      have := after_len r (k + 1) _ _ ha (by omega)
      simp only [List.length_cons]
      omega
/-- what is right is a tree of the shape -/
theorem VN_of_wrong {l : List Node} (h : wrongL l = -1) : ∃ x r, l = x :: r ∧ VN 5 [] x r ∧ l.length ≤ 30 := by
  have hne : l ≠ [] := by rintro rfl; simp [wrongL] at h
  have ha := (wrongL_after hne).1 h
  obtain ⟨st', ha⟩ := Option.isSome_iff_exists.1 ha
  have hlen := after_len _ _ _ _ ha (by omega)
  obtain ⟨x, r, rfl⟩ := List.exists_cons_of_ne_nil hne
  refine ⟨x, r, rfl, ?_, by omega⟩
  unfold afterGo at ha
  cases hok : nodeOk 0 x [] with
  | none => rw [hok] at ha; cases ha
  | some st2 =>
    rw [hok] at ha
    simp only at ha
    unfold nodeOk at hok
    by_cases h0 : 0 = 30 ∨ dataB x.kind x.data = false
    · rw [if_pos h0] at hok; cases hok
    rw [if_neg h0, if_pos rfl] at hok
    have hda : dataB x.kind x.data = true := by simpa using fun e => h0 (.inr e)
    by_cases hp : x.path = [] ∧ ([] : Opens).length ≤ 5
    · rw [if_pos hp] at hok
      obtain rfl := Option.some.inj hok
      refine ⟨hp.1, ?_⟩
      by_cases h4 : x.kind = 4
      · right
        have hdata : x.data = [] := by rw [h4] at hda; simpa [dataB] using hda
        rw [pushD, if_pos h4, hp.1] at ha
        obtain ⟨r1, r2, l2, dp2, hr, hv, hd2, ha2, hh2⟩ := VF_of_after r.length r (Nat.le_refl _) 5 [] [] 1 [] [] st' rfl (by omega) (by simp) (by simp) (by intro z t e; right; simp) ha
        cases r2 with
        | nil =>
          rw [List.append_nil] at hr
          subst hr
          exact ⟨h4, hdata, hv⟩
        | cons z t =>
          exfalso
          obtain ⟨q1, q2⟩ := hh2 z t rfl
          unfold afterGo at ha2
          have hcn : comeB z.path ([] ++ (([] : List UInt8), l2) :: dp2) = (false, []) := comeB_nil (popTo_none _ _ (by
            intro o ho
            rcases List.mem_cons.1 ho with rfl | ho
            · exact fun e => q1 e.symm
            · exact fun e => q2 o ho e.symm))
          have hno : nodeOk (1 + r1.length) z ([] ++ (([] : List UInt8), l2) :: dp2) = none := by
            unfold nodeOk
            split
            · rfl
            · rw [if_neg (by omega), hcn, if_neg (by rintro ⟨e, -⟩; cases e)]
          rw [hno] at ha2
          cases ha2
      · left
        refine ⟨h4, ?_, hda⟩
        rw [pushD, if_neg h4] at ha
        cases r with
        | nil => rfl
        | cons z t =>
          exfalso
          unfold afterGo at ha
          have hcn : comeB z.path [] = (false, []) := comeB_nil rfl
          have hno : nodeOk 1 z [] = none := by
            unfold nodeOk
            split
            · rfl
            · rw [if_neg (by omega), hcn, if_neg (by rintro ⟨e, -⟩; cases e)]
          rw [hno] at ha
          cases ha
    · rw [if_neg hp] at hok; cases hok
theorem wrong_of_VN {x : Node} {r : List Node} (h : VN 5 [] x r) (hl : (x :: r).length ≤ 30) : wrongL (x :: r) = -1 := by
  obtain ⟨hp, h2⟩ := h
  rw [wrongL_after (by simp)]
  simp only [List.length_cons] at hl
  have hda : dataB x.kind x.data = true := by
    rcases h2 with ⟨_, _, h⟩ | ⟨h4, hd, _⟩
    · exact h
    · rw [h4, hd]; simp [dataB]
  have hok : nodeOk 0 x [] = some [] := by
    unfold nodeOk
    rw [if_neg (by rintro (e | e); omega; rw [hda] at e; cases e), if_pos rfl, if_pos ⟨hp, by simp⟩]
  unfold afterGo
  rw [hok]
  simp only
  rcases h2 with ⟨h4, rfl, _⟩ | ⟨h4, hd, hv⟩
  · rfl
  · rw [pushD, if_pos h4, hp]
    obtain ⟨l', dp, ha, -⟩ := after_of_VF hv 1 [] [] rfl (by omega) (by omega) (by simp) (by simp)
    rw [show ([] : Opens) ++ [([], [])] = [] ++ (([] : List UInt8), ([] : List UInt8)) :: [] from rfl, ha]
    rfl
/-- a tree's bytes read as that tree -/
theorem read_pack {l : List Node} (h : wrongL l = -1) : readL (packP l) = (l, 0, 0) := by
  obtain ⟨x, r, rfl, hv, hl⟩ := VN_of_wrong h
  rw [pack_ref h]
  unfold readL rTree
  rw [rWord_of (ρ := ⟨_, 0, []⟩) (s := wNar) (R := refPackL (x :: r)) rfl (by decide) (by simp)]
  simp only [Except.bind]
  obtain ⟨a, ha⟩ := node_of (e := 5) (path := []) (x := x) (r := r) (R := []) (ρ := ⟨refPackL (x :: r), 0 + (putL wNar).length, []⟩) hv (by rw [List.append_nil]; rfl) (by simp only [List.length_cons, List.length_nil] at hl ⊢; omega) (fun h4 f ρ hr hf hn => by
    rcases hv.2 with ⟨k, _⟩ | ⟨_, _, hvf⟩
    · exact absurd h4 k
    · exact dirF_of hvf [] f ρ hr hf hn)
  rw [ha]
  rfl
/-- bytes that read as a tree are the bytes of that tree -/
theorem pack_read {S : List UInt8} {l : List Node} {b : Int} (h : readL S = (l, 0, b)) : wrongL l = -1 ∧ packP l = S := by
  unfold readL rTree at h
  cases hw : rWord [wNar] ⟨S, 0, []⟩ with
  | error e =>
    rw [hw] at h
    simp only [Except.bind] at h
    have := rWord_ne hw
    simp only [Prod.mk.injEq] at h
    rw [h.2] at this
    exact absurd rfl this
  | ok x =>
    rw [hw] at h
    simp only [Except.bind] at h
    obtain ⟨r1, m1, n1, -⟩ := rWord_put hw
    cases hn : rNode 6 [] x.2 with
    | error e =>
      rw [hn] at h
      simp only [Prod.mk.injEq] at h
      have := rNode_ne 6 _ _ _ hn
      rw [h.2] at this
      exact absurd rfl this
    | ok ρ =>
      rw [hn] at h
      simp only at h
      obtain ⟨e, nd, r, he, hv, r2, n2, l2⟩ := sound_node 6 _ _ _ hn (by rw [n1]; simp)
      obtain rfl : e = 5 := by omega
      by_cases hr : ρ.rest = []
      · rw [if_pos hr] at h
        cases h
        rw [n1] at n2
        simp only [List.nil_append] at n2
        rw [n2] at l2 ⊢
        have hw2 := wrong_of_VN hv l2
        refine ⟨hw2, ?_⟩
        rw [pack_ref hw2]
        simp only [List.mem_singleton] at m1
        rw [hr, List.append_nil] at r2
        simp only at r1
        rw [r1, m1, r2]
        rfl
      · rw [if_neg hr] at h
        simp only [Prod.mk.injEq] at h
        exact absurd h.2.1 (by decide)
end Go.Proofs.YtflkafnhhadphaaDoor
