/- Plain: trees that are grown out of bytes, and a node of them changed. No program in sight. -/
import Derived.Test.YtdkogijdfgfpeaaGreatDoorVRead
set_option linter.unusedVariables false
namespace Go.Proofs.YtdkogijdfgfpeaaGreatDoor
open Go Go.RowKit
def afterGo : List Node → Nat → Opens → Option Opens
 | [], _, st => some st
 | n :: r, k, st => match nodeOk k n st with
   | none => none
   | some st' => afterGo r (k + 1) (pushD n st')
theorem wrongGo_after : ∀ (r : List Node) (k : Nat) (st : Opens), wrongGo r k st = -1 ↔ (afterGo r k st).isSome = true
 | [], _, _ => by simp [wrongGo, afterGo]
 | n :: r, k, st => by
   unfold wrongGo afterGo
   cases nodeOk k n st with
   | none => simp only [Option.isSome_none]; constructor <;> intro h <;> first | omega | cases h
   | some st' => exact wrongGo_after r (k + 1) _
theorem afterGo_append : ∀ (a b : List Node) (k : Nat) (st : Opens), afterGo (a ++ b) k st = (afterGo a k st).bind fun st' => afterGo b (k + a.length) st'
 | [], b, k, st => by simp [afterGo]
 | n :: a, b, k, st => by
   simp only [List.cons_append, afterGo]
   cases nodeOk k n st with
   | none => rfl
   | some st' =>
     simp only
     rw [afterGo_append a b (k + 1), List.length_cons, show k + 1 + a.length = k + (a.length + 1) by omega]
theorem after_inv : ∀ (r ys : List Node) (k : Nat) (st st' : Opens), 0 < k → Inv ys st.reverse → afterGo r k st = some st' → Inv (ys ++ r) st'.reverse
 | [], ys, k, st, st', _, h, ha => by simp [afterGo] at ha; subst ha; simpa using h
 | n :: r, ys, k, st, st', hk, h, ha => by
   unfold afterGo at ha
   cases ho : nodeOk k n st with
   | none => rw [ho] at ha; cases ha
   | some s2 =>
     rw [ho] at ha
     simp only at ha
     have hs : (comeB n.path st).1 = true ∧ s2 = (comeB n.path st).2 := by
      unfold nodeOk at ho
      by_cases h0 : k = 30 ∨ dataB n.kind n.data = false
      ·rw [if_pos h0] at ho; cases ho
      ·rw [if_neg h0, if_neg (show ¬ k = 0 by omega)] at ho
       by_cases hc : (comeB n.path st).1 = true ∧ (comeB n.path st).2.length ≤ 5
       ·rw [if_pos hc] at ho; exact ⟨hc.1, (Option.some.inj ho).symm⟩
       ·rw [if_neg hc] at ho; cases ho
     obtain ⟨h1, rfl⟩ := hs
     have := after_inv r (ys ++ [n]) (k + 1) _ st' (by omega) (h.come h1) ha
     simpa using this
theorem after_whole {l : List Node} {st : Opens} (hl : l ≠ []) (h : afterGo l 0 [] = some st) : Inv l st.reverse := by
 obtain ⟨x, r, rfl⟩ := List.exists_cons_of_ne_nil hl
 unfold afterGo at h
 cases ho : nodeOk 0 x [] with
 | none => rw [ho] at h; cases h
 | some s2 =>
   rw [ho] at h
   simp only at h
   unfold nodeOk at ho
   by_cases h0 : 0 = 30 ∨ dataB x.kind x.data = false
   ·rw [if_pos h0] at ho; cases ho
   ·rw [if_neg h0, if_pos rfl] at ho
    by_cases hp : x.path = [] ∧ ([] : Opens).length ≤ 5
    ·rw [if_pos hp] at ho
     obtain rfl := (Option.some.inj ho).symm
     exact after_inv r [x] 1 _ st (by omega) (Inv.root x hp.1) h
    ·rw [if_neg hp] at ho; cases ho
theorem wrongL_after {l : List Node} (hl : l ≠ []) : wrongL l = -1 ↔ (afterGo l 0 []).isSome = true := by
 unfold wrongL; rw [if_neg hl]; exact wrongGo_after l 0 []
def LastOk (q : List UInt8) (z : Int) : Prop := (q = [] ∧ z = -1) ∨ (∃ (n : Nat) (suf : List UInt8), z = n ∧ n ≤ 25 ∧ q = UInt8.ofNat (97 + n) :: suf)
def Sec (p : List UInt8) : Prop := p = [] ∨ (∃ a, p = [a]) ∨ ∃ a b r, p = a :: b :: r ∧ (b = 47 ∨ b = 206)
structure GInv (l : List Node) (above : List (List UInt8)) (last : List Int) (st : Opens) : Prop where
 ne : l ≠ []
 after : afterGo l 0 [] = some st
 len : above.length = last.length
 pos : 0 < above.length
 le5 : above.length ≤ 5
 le : above.length ≤ st.length
 at' : ∀ (i : Nat) (h : i < above.length) (h2 : i < last.length) (h3 : i < st.length), st[i].1 = above[i] ∧ LastOk st[i].2 last[i]
 nul : ∀ (i : Nat) (h : i < above.length), (0 : UInt8) ∉ above[i] ∧ above[i].length ≤ 6 * i ∧ Sec above[i] ∧ above[i].head? ≠ some 47
 secs : ∀ x ∈ l, Sec x.path
 short : ∀ x ∈ l, x.data.length ≤ 100 ∧ x.path.length ≤ 36
theorem GInv.root (k : Int) (d : List UInt8) (hk : k = 4) (hd : d = []) : GInv [⟨[], k, d⟩] [[]] [-1] [([], [])] := by
 subst hk hd
 refine ⟨by simp, by simp [afterGo, nodeOk, pushD, dataB], rfl, by simp, by simp, by simp, ?_, ?_, ?_, ?_⟩
 ·intro i h h2 h3
  obtain rfl : i = 0 := by simp at h; omega
  exact ⟨rfl, .inl ⟨rfl, rfl⟩⟩
 ·intro i h
  obtain rfl : i = 0 := by simp at h; omega
  exact ⟨by simp, by simp, .inl rfl, by simp⟩
 ·intro x hx; simp at hx; subst hx; exact .inl rfl
 ·intro x hx; simp at hx; subst hx; simp
theorem GInv.pop {l : List Node} {above : List (List UInt8)} {last : List Int} {st : Opens} (h : GInv l above last st) (h1 : 1 < above.length) : GInv l (above.take (above.length - 1)) (last.take (above.length - 1)) st := by
 have hl := h.len
 have h5 := h.le5
 have hs := h.le
 refine ⟨h.ne, h.after, by simp; omega, by simp; omega, by simp; omega, by simp; omega, ?_, ?_, h.secs, h.short⟩
 ·intro i hi h2 h3
  simp only [List.length_take] at hi h2
  rw [List.getElem_take, List.getElem_take]
  exact h.at' i (by omega) (by omega) h3
 ·intro i hi
  simp only [List.length_take] at hi
  rw [List.getElem_take]
  exact h.nul i (by omega)
theorem ofNat_lt {a b : Nat} (h : a < b) (hb : b < 256) : UInt8.ofNat a < UInt8.ofNat b := by
 rw [UInt8.lt_iff_toNat_lt]
 simp only [UInt8.toNat_ofNat']
 omega
theorem last_lt {q : List UInt8} {z : Int} {n : Nat} {suf : List UInt8} (h : LastOk q z) (hz : z < n) (hn : n ≤ 25) : q < UInt8.ofNat (97 + n) :: suf := by
 rcases h with ⟨rfl, _⟩ | ⟨m, sf, rfl, hm, rfl⟩
 ·exact nil_lt (by simp)
 ·rw [List.cons_lt_cons_iff]
  exact .inl (ofNat_lt (by omega) (by omega))
theorem sec_join {d : List UInt8} {n : Nat} {suf : List UInt8} (hd : Sec d) (hs : suf = [] ∨ suf = [206, 177, 32, 120]) : Sec (joinP d (UInt8.ofNat (97 + n) :: suf)) := by
 unfold joinP
 split
 ·rcases hs with rfl | rfl
  ·exact .inr (.inl ⟨_, rfl⟩)
  ·exact .inr (.inr ⟨_, _, _, rfl, .inr rfl⟩)
 ·rename_i hne
  rcases hd with rfl | ⟨a, rfl⟩ | ⟨a, b, r, rfl, hb⟩
  ·exact absurd rfl hne
  ·exact .inr (.inr ⟨a, 47, _, rfl, .inl rfl⟩)
  ·exact .inr (.inr ⟨a, b, _, rfl, hb⟩)
theorem GInv.step {l : List Node} {above : List (List UInt8)} {last : List Int} {st : Opens} (h : GInv l above last st) (t : Nat) (ht : t + 1 = above.length) (ht2 : t < last.length) (n : Nat) (suf : List UInt8)
 (hlt : last[t] < n) (hn : n ≤ 25) (hs : suf = [] ∨ suf = [206, 177, 32, 120]) (hname : nameB (UInt8.ofNat (97 + n) :: suf) = true) (kd : Int) (da : List UInt8) (hk4 : kd = 4 → above.length ≤ 4) (hd : dataB kd da = true) (hd100 : da.length ≤ 100) (hl30 : l.length < 30) :
 ∃ st', GInv (l ++ [⟨joinP (above[t]'(by omega)) (UInt8.ofNat (97 + n) :: suf), kd, da⟩]) (if kd = 4 then above ++ [joinP (above[t]'(by omega)) (UInt8.ofNat (97 + n) :: suf)] else above) (if kd = 4 then last.set t n ++ [-1] else last.set t n) st' := by
 have hl := h.len
 have h5 := h.le5
 have hle := h.le
 have hinv := after_whole h.ne h.after
 obtain ⟨e1, hlo⟩ := h.at' t (by omega) ht2 (by omega)
 obtain ⟨hn0, hpl, hsec, hh47⟩ := h.nul t (by omega)
 have hname47 : (47 : UInt8) ∉ UInt8.ofNat (97 + n) :: suf := by
  simp only [List.mem_cons, not_or]
  refine ⟨?_, by rcases hs with rfl | rfl <;> decide⟩
  intro e
  have := congrArg UInt8.toNat e
  simp at this
  omega
 have hname0 : (0 : UInt8) ∉ UInt8.ofNat (97 + n) :: suf := by
  simp only [List.mem_cons, not_or]
  refine ⟨?_, by rcases hs with rfl | rfl <;> decide⟩
  intro e
  have := congrArg UInt8.toNat e
  simp at this
  omega
 have hnl : (UInt8.ofNat (97 + n) :: suf).length ≤ 5 := by rcases hs with rfl | rfl <;> simp
 have hsj := sec_join (n := n) hsec hs
 have hlast := last_lt (suf := suf) hlo hlt hn
 have hhead : (UInt8.ofNat (97 + n) :: suf).head? ≠ some 47 := by
  intro e
  simp only [List.head?_cons, Option.some.injEq] at e
  exact hname47 (by rw [e]; simp)
 have hph : (joinP above[t] (UInt8.ofNat (97 + n) :: suf)).head? ≠ some 47 := by
  unfold joinP
  split
  ·exact hhead
  ·rename_i hne
   cases ha : above[t] with
   | nil => exact absurd ha hne
   | cons a r => rw [ha] at hh47; simpa using hh47
 have hdo := dirOf_join above[t] _ hname47
 generalize hpth : joinP above[t] (UInt8.ofNat (97 + n) :: suf) = pth at *
 -- the stack behind it
 have hmem : (above[t], st[t].2) ∈ st.reverse := by
  rw [List.mem_reverse, ← e1]
  exact List.getElem_mem (by omega)
 have hrev : st.reverse = (st.drop (t + 1)).reverse ++ (above[t], st[t].2) :: (st.take t).reverse := by
  have e2 : st = st.take t ++ (st[t] :: st.drop (t + 1)) := by
   rw [← List.drop_eq_getElem_cons (by omega), List.take_append_drop]
  conv => lhs; rw [e2]
  rw [List.reverse_append, List.reverse_cons, List.append_assoc, List.singleton_append]
  rw [show (above[t], st[t].2) = st[t] from Prod.ext e1.symm rfl]
 obtain ⟨pre, r, hrs, hpre, hf⟩ := hinv.chain.find hmem
 have hr : r = (st.take t).reverse := by
  -- the directory stands there once
  have hc := hinv.chain
  rw [hrev] at hc hf
  have hb : ∀ o ∈ (st.drop (t + 1)).reverse, belowB o.1 above[t] = true := by
   intro o ho
   obtain ⟨p1, p2, he⟩ := List.append_of_mem ho
   rw [he, List.append_assoc] at hc
   exact ChainR.below hc.drop (above[t], st[t].2) (by simp)
  rw [List.dropWhile_append_of_pos (fun o ho => by
   have := below_len (hb o ho)
   simp only [bne_iff_ne, ne_eq]
   intro e
   rw [e] at this
   omega), List.dropWhile_cons] at hf
  simp only [bne_self_eq_false, Bool.false_eq_true, if_false] at hf
  exact (List.cons.inj hf).2.symm
 subst hr
 have hstep : Step pth st.reverse st[t].2 (st.take t).reverse := ⟨by rw [hdo]; exact hf, by rw [hdo]; exact hname, hph, by rw [hdo]; exact hlast⟩
 have hcome := come_step.2 ⟨_, _, hstep⟩
 have hsnd := come_snd hcome hstep.find
 rw [hdo] at hsnd
 simp only [List.reverse_cons, List.reverse_reverse] at hsnd
 have hlen2 : (comeB pth st).2.length = t + 1 := by rw [hsnd]; simp; omega
 have hok : nodeOk l.length ⟨pth, kd, da⟩ st = some (comeB pth st).2 := by
  unfold nodeOk
  have h0 : 0 < l.length := List.length_pos_iff.2 h.ne
  rw [if_neg (by rw [hd]; simp; omega), if_neg (by omega), if_pos ⟨hcome, by rw [hlen2]; omega⟩]
 have hgo : afterGo (l ++ [⟨pth, kd, da⟩]) 0 [] = some (pushD ⟨pth, kd, da⟩ (comeB pth st).2) := by
  rw [afterGo_append, h.after]
  simp only [Option.bind_some, Nat.zero_add, afterGo, hok]
 have hpl2 : pth.length ≤ 6 * t + 6 ∧ (0 : UInt8) ∉ pth := by
  rw [← hpth]
  unfold joinP
  split
  ·exact ⟨by omega, hname0⟩
  ·simp only [List.length_append, List.length_cons, List.mem_append, List.mem_cons, not_or] at hnl hname0 ⊢
   exact ⟨by omega, hn0, by decide, hname0⟩
 have hst2 : (comeB pth st).2 = st.take t ++ [(above[t], UInt8.ofNat (97 + n) :: suf)] := hsnd
 -- the parts that hold whether it is a directory or not
 have hat : ∀ (i : Nat) (hi : i < above.length) (h2 : i < (last.set t (n : Int)).length) (h3 : i < (comeB pth st).2.length), (comeB pth st).2[i].1 = above[i] ∧ LastOk (comeB pth st).2[i].2 (last.set t (n : Int))[i] := by
  intro i hi h2 h3
  simp only [hst2]
  rw [List.getElem_set]
  by_cases e : i = t
  ·subst e
   rw [List.getElem_append_right (by simp; omega)]
   simp only [List.length_take]
   simp only [show i - min i st.length = 0 by omega, List.getElem_cons_zero]
   exact ⟨trivial, .inr ⟨n, suf, rfl, hn, rfl⟩⟩
  ·rw [List.getElem_append_left (by simp; omega), if_neg (fun h => e h.symm)]
   rw [List.getElem_take]
   exact h.at' i hi (by simpa using h2) (by omega)
 have hse : ∀ x ∈ l ++ [⟨pth, kd, da⟩], Sec x.path := by
  intro x hx
  rcases List.mem_append.1 hx with hx | hx
  ·exact h.secs x hx
  ·obtain rfl := List.mem_singleton.1 hx
   exact hsj
 have hsh : ∀ x ∈ l ++ [⟨pth, kd, da⟩], x.data.length ≤ 100 ∧ x.path.length ≤ 36 := by
  intro x hx
  rcases List.mem_append.1 hx with hx | hx
  ·exact h.short x hx
  ·obtain rfl := List.mem_singleton.1 hx
   exact ⟨hd100, by have := hpl2.1; simp only; omega⟩
 by_cases h4 : kd = 4
 ·have ha4 := hk4 h4
  rw [if_pos h4, if_pos h4]
  have hpush : pushD ⟨pth, kd, da⟩ (comeB pth st).2 = (comeB pth st).2 ++ [(pth, [])] := by unfold pushD; rw [if_pos h4]
  rw [hpush] at hgo
  refine ⟨_, by simp, hgo, by simp; omega, by simp, by simp; omega, by simp; omega, ?_, ?_, hse, hsh⟩
  ·intro i hi h2 h3
   simp only [List.length_append, List.length_singleton, List.length_set] at hi h2 h3
   by_cases hit : i < above.length
   ·rw [List.getElem_append_left (by omega), List.getElem_append_left hit, List.getElem_append_left (by simp; omega)]
    exact hat i hit (by simp; omega) (by omega)
   ·have e : i = above.length := by omega
    rw [List.getElem_append_right (by omega), List.getElem_append_right (by omega), List.getElem_append_right (by simp; omega)]
    simp only [List.length_set]
    simp only [show i - above.length = 0 by omega, show i - last.length = 0 by omega, show i - (comeB pth st).2.length = 0 by omega, List.getElem_cons_zero]
    exact ⟨trivial, .inl ⟨rfl, rfl⟩⟩
  ·intro i hi
   simp only [List.length_append, List.length_singleton] at hi
   by_cases hit : i < above.length
   ·rw [List.getElem_append_left hit]; exact h.nul i hit
   ·rw [List.getElem_append_right (by omega)]
    simp only [show i - above.length = 0 by omega, List.getElem_cons_zero]
    exact ⟨hpl2.2, by have := hpl2.1; omega, hsj, hph⟩
 ·rw [if_neg h4, if_neg h4]
  have hpush : pushD ⟨pth, kd, da⟩ (comeB pth st).2 = (comeB pth st).2 := by unfold pushD; rw [if_neg h4]
  rw [hpush] at hgo
  exact ⟨_, by simp, hgo, by simpa using hl, h.pos, h5, by omega, hat, h.nul, hse, hsh⟩
structure Grown (l : List Node) : Prop where
 ne : l ≠ []
 good : wrongL l = -1
 secs : ∀ x ∈ l, Sec x.path
 short : ∀ x ∈ l, x.data.length ≤ 100 ∧ x.path.length ≤ 36
 root : ∀ d : List UInt8, 2 < d.length → l ≠ [⟨[], 1, d⟩]
theorem GInv.grown {l : List Node} {above : List (List UInt8)} {last : List Int} {st : Opens} (h : GInv l above last st) : Grown l :=
 ⟨h.ne, (wrongL_after h.ne).2 (by rw [h.after]; rfl), h.secs, h.short, fun d hd e => by
  have h1 := h.after
  have h2 := h.le
  have h3 := h.pos
  rw [e] at h1
  have h4 : st = [] := by
   simp [afterGo, nodeOk, pushD] at h1
   cases hdb : dataB 1 d with
   | false => rw [hdb] at h1; simp at h1
   | true =>
     rw [hdb] at h1
     simp at h1
     first | exact h1 | exact h1.symm
  rw [h4, List.length_nil] at h2
  omega⟩
theorem Grown.leaf (d : List UInt8) (h2 : d.length ≤ 2) : Grown [⟨[], 1, d⟩] := by
 have h : d.length ≤ 100 := by omega
 refine ⟨by simp, ?_, fun x hx => ?_, fun x hx => ?_, fun d' hd e => ?_⟩
 ·simp [wrongL, wrongGo, nodeOk, dataB, h]
 ·simp at hx; subst hx; exact .inl rfl
 ·simp at hx; subst hx; exact ⟨h, by simp⟩
 ·simp at e; rw [← e] at hd; omega
theorem Grown.at {l : List Node} (h : Grown l) {k : Nat} (hk : k < l.length) : ∃ st, afterGo (l.take k) 0 [] = some st ∧ (0 < k → Inv (l.take k) st.reverse) ∧ nodeOk k l[k] st ≠ none := by
 have hg := (wrongL_after h.ne).1 h.good
 have hs : l = l.take k ++ (l[k] :: l.drop (k + 1)) := by rw [← List.drop_eq_getElem_cons hk, List.take_append_drop]
 rw [hs, afterGo_append] at hg
 cases ha : afterGo (l.take k) 0 [] with
 | none => rw [ha] at hg; cases hg
 | some st =>
   rw [ha] at hg
   simp only [Option.bind_some, Nat.zero_add, afterGo, List.length_take, Nat.min_eq_left (Nat.le_of_lt hk)] at hg
   refine ⟨st, rfl, fun h0 => after_whole ?_ ha, ?_⟩
   ·intro e
    have := congrArg List.length e
    rw [List.length_take, List.length_nil, Nat.min_eq_left (Nat.le_of_lt hk)] at this
    omega
   ·intro hn
    rw [hn] at hg
    cases hg
theorem cont_no47 : ∀ (m : Nat) (r : List UInt8) (c c' : Nat), contC m r c = some c' → (47 : UInt8) ∉ r.take m
 | 0, r, c, c', h => by simp
 | m + 1, [], c, c', h => by simp
 | m + 1, b :: r, c, c', h => by
   unfold contC at h
   by_cases hb : b.toNat < 128 ∨ 191 < b.toNat
   ·rw [if_pos hb] at h; cases h
   ·rw [if_neg hb] at h
    have := cont_no47 m r _ _ h
    rw [List.take_succ_cons, List.mem_cons, not_or]
    refine ⟨?_, this⟩
    intro e
    rw [← e] at hb
    exact hb (.inl (by decide))
theorem letter_no47 {l : List UInt8} {k : Nat} (h : letter l = some k) : (47 : UInt8) ∉ l.take k := by
 cases l with
 | nil => simp
 | cons b r =>
   cases hl : leadM b.toNat with
   | none => rw [letter_bad hl] at h; cases h
   | some mc =>
     obtain ⟨m, c⟩ := mc
     cases hc : contC m r c with
     | none => rw [letter_none hl hc] at h; cases h
     | some c' =>
       rw [letter_some hl hc] at h
       split at h
       ·cases h
       ·obtain rfl := Option.some.inj h
        rw [Nat.add_comm, List.take_succ_cons, List.mem_cons, not_or]
        refine ⟨?_, cont_no47 m r c c' hc⟩
        intro e
        rw [← e] at hl
        simp [leadM] at hl
theorem letters_no47 : ∀ (f : Nat) (l : List UInt8) (n : Nat), l.length ≤ f → (47 : UInt8) ∈ l → lettersOf l n = none
 | 0, l, n, hf, h => by
   obtain rfl : l = [] := List.eq_nil_of_length_eq_zero (by omega)
   simp at h
 | f + 1, l, n, hf, h => by
   have hne : l ≠ [] := by rintro rfl; simp at h
   rw [lettersOf_step l n hne]
   cases hl : letter l with
   | none => rfl
   | some k =>
     have hk := letter_pos hl
     refine letters_no47 f _ _ (by rw [List.length_drop]; omega) ?_
     rw [← List.take_append_drop k l, List.mem_append] at h
     exact h.resolve_left (letter_no47 hl)
theorem name_no47 {n : List UInt8} (h : nameB n = true) : (47 : UInt8) ∉ n := by
 intro hm
 rw [← refName_eq, refName, letters_no47 n.length n 0 (Nat.le_refl _) hm] at h
 cases h
theorem letter_le {l : List UInt8} {k : Nat} (h : letter l = some k) : k ≤ 4 := by
 cases l with
 | nil => cases h
 | cons b r =>
   cases hl : leadM b.toNat with
   | none => rw [letter_bad hl] at h; cases h
   | some mc =>
     obtain ⟨m, c⟩ := mc
     have hm : m ≤ 3 := by
      unfold leadM at hl
      split at hl
      ·cases hl
      ·split at hl
       ·cases hl; omega
       ·split at hl
        ·cases hl; omega
        ·split at hl
         ·cases hl; omega
         ·split at hl
          ·cases hl; omega
          ·cases hl
     cases hc : contC m r c with
     | none => rw [letter_none hl hc] at h; cases h
     | some c' =>
       rw [letter_some hl hc] at h
       split at h
       ·cases h
       ·obtain rfl := Option.some.inj h
        omega
theorem letters_len : ∀ (f : Nat) (l : List UInt8) (n m : Nat), l.length ≤ f → lettersOf l n = some m → l.length + 4 * n ≤ 4 * m
 | 0, l, n, m, hf, h => by
   obtain rfl : l = [] := List.eq_nil_of_length_eq_zero (by omega)
   have : some n = some m := h
   cases this
   simp
 | f + 1, l, n, m, hf, h => by
   by_cases hne : l = []
   ·subst hne
    have : some n = some m := h
    cases this
    simp
   ·rw [lettersOf_step l n hne] at h
    cases hl : letter l with
    | none => rw [hl] at h; cases h
    | some k =>
      rw [hl] at h
      have hk := letter_pos hl
      have hk4 := letter_le hl
      have hpos := List.length_pos_iff.2 hne
      have := letters_len f (l.drop k) (n + 1) m (by rw [List.length_drop]; omega) h
      rw [List.length_drop] at this
      omega
theorem name_len {n : List UInt8} (h : nameB n = true) : n.length ≤ 48 := by
 rw [← refName_eq, refName] at h
 cases hl : lettersOf n 0 with
 | none => rw [hl] at h; cases h
 | some m =>
   rw [hl] at h
   simp only [Bool.and_eq_true, decide_eq_true_eq] at h
   have := letters_len n.length n 0 m (Nat.le_refl _) hl
   omega
theorem le8_num64 (l : List UInt8) (h : l.length = 8) : le8 (num64 l) = l := by
 obtain ⟨a, b, c, d, e, f, g, i, rfl⟩ : ∃ a b c d e f g i, l = [a, b, c, d, e, f, g, i] := by
  match l, h with
  | [a, b, c, d, e, f, g, i], _ => exact ⟨a, b, c, d, e, f, g, i, rfl⟩
 have ha := UInt8.toNat_lt a
 have hb := UInt8.toNat_lt b
 have hc := UInt8.toNat_lt c
 have hd := UInt8.toNat_lt d
 have he := UInt8.toNat_lt e
 have hf := UInt8.toNat_lt f
 have hg := UInt8.toNat_lt g
 have hi := UInt8.toNat_lt i
 simp only [le8, List.range, List.range.loop, List.map, leB, num64, List.cons.injEq, and_true]
 refine ⟨?_, ?_, ?_, ?_, ?_, ?_, ?_, ?_⟩ <;> (apply UInt8.toNat_inj.1; rw [UInt8.toNat_ofNat']; omega)
theorem zeros_of {l : List UInt8} (h : ¬ l.any (· != 0) = true) : l = List.replicate l.length 0 := by
 rw [List.eq_replicate_iff]
 refine ⟨rfl, fun x hx => ?_⟩
 rw [List.any_eq_true] at h
 exact Classical.byContradiction fun e => h ⟨x, hx, by simpa using e⟩
theorem rNext_put {m : Nat} {ρ : RS} {x : List UInt8 × RS} (h : rNext m ρ = .ok x) : ρ.rest = putL x.1 ++ x.2.rest ∧ x.1.length ≤ m ∧ x.2.nodes = ρ.nodes ∧ x.2.at' = ρ.at' + (putL x.1).length := by
 unfold rNext at h
 split at h
 ·cases h
 ·split at h
  ·cases h
  ·split at h
   ·cases h
   ·split at h
    ·cases h
    ·rename_i h1 h2 h3 h4
     cases h
     simp only
     have h8 : (ρ.rest.take 8).length = 8 := by rw [List.length_take]; omega
     generalize hn : num64 (ρ.rest.take 8) = n at *
     have hle : le8 n = ρ.rest.take 8 := by rw [← hn]; exact le8_num64 _ h8
     have hsl : ((ρ.rest.drop 8).take n).length = n := by rw [List.length_take, List.length_drop]; omega
     have hz := zeros_of h4
     rw [List.length_take, List.length_drop, Nat.min_eq_left (by omega)] at hz
     have hput : putL ((ρ.rest.drop 8).take n) = ρ.rest.take (8 + n + padN n) := by
      unfold putL
      rw [hsl, hle, ← hz]
      have e1 : ρ.rest.take 8 ++ (ρ.rest.drop 8).take n = ρ.rest.take (8 + n) := (List.take_add).symm
      rw [e1]
      exact (List.take_add).symm
     refine ⟨?_, by rw [hsl]; omega, rfl, ?_⟩
     ·rw [hput]
      exact (List.take_append_drop _ _).symm
     ·rw [hput]
      show ρ.at' + _ = _
      rw [List.length_take, Nat.min_eq_left (by omega)]
theorem rWord_put {may : List (List UInt8)} {ρ : RS} {x : List UInt8 × RS} (h : rWord may ρ = .ok x) : ρ.rest = putL x.1 ++ x.2.rest ∧ x.1 ∈ may ∧ x.2.nodes = ρ.nodes ∧ x.2.at' = ρ.at' + (putL x.1).length := by
 obtain ⟨h1, h2⟩ := rWord_ok h
 obtain ⟨q1, q2, q3, q4⟩ := rNext_put h1
 exact ⟨q1, h2, q3, q4⟩
inductive VF : Nat → List UInt8 → List UInt8 → List Node → Prop where
 | nil (d : Nat) (p last : List UInt8) : VF d p last []
 | leaf (d : Nat) (p last s : List UInt8) (y : Node) (r : List Node) : y.path = joinP p s → nameB s = true → leS s last = false → y.kind ≠ 4 → dataB y.kind y.data = true → VF (d + 1) p s r → VF (d + 1) p last (y :: r)
 | dir (d : Nat) (p last s : List UInt8) (y : Node) (sub r : List Node) : y.path = joinP p s → nameB s = true → leS s last = false → y.kind = 4 → y.data = [] → VF d (joinP p s) [] sub → VF (d + 1) p s r → VF (d + 1) p last (y :: (sub ++ r))
def VN (d : Nat) (path : List UInt8) (x : Node) (r : List Node) : Prop :=
 x.path = path ∧ ((x.kind ≠ 4 ∧ r = [] ∧ dataB x.kind x.data = true) ∨ (x.kind = 4 ∧ x.data = [] ∧ VF d path [] r))
theorem VF.under {d : Nat} {p last : List UInt8} {r : List Node} (h : VF d p last r) : ∀ z ∈ r, belowB z.path p = true := by
 induction h with
 | nil => intro z hz; cases hz
 | leaf d p last s y r h1 h2 h3 h4 h5 h6 ih =>
   intro z hz
   rcases List.mem_cons.1 hz with rfl | hz
   ·rw [h1]; exact below_join _ _ (nameB_ne h2)
   ·exact ih z hz
 | dir d p last s y sub r h1 h2 h3 h4 h5 h6 h7 ih1 ih2 =>
   intro z hz
   rcases List.mem_cons.1 hz with rfl | hz
   ·rw [h1]; exact below_join _ _ (nameB_ne h2)
   ·rcases List.mem_append.1 hz with hz | hz
    ·exact below_trans (ih1 z hz) (below_join _ _ (nameB_ne h2))
    ·exact ih2 z hz
theorem VF.head {d : Nat} {p s : List UInt8} {z : Node} {r : List Node} (h : VF d p s (z :: r)) (hs : nameB s = true) : belowB z.path (joinP p s) = false := by
 have key : ∀ t : List UInt8, nameB t = true → leS t s = false → belowB (joinP p t) (joinP p s) = false := by
  intro t ht hl
  rw [Bool.eq_false_iff]
  intro hb
  rw [join_below p t _ (nameB_ne ht) (name_no47 ht) (join_ne p s (nameB_ne hs))] at hb
  have hbs := below_len (below_join p s (nameB_ne hs))
  rcases hb with e | e
  ·rw [e] at hbs; omega
  ·have := below_len e; omega
 cases h with
 | leaf d _ _ t _ _ h1 h2 h3 _ _ _ => rw [h1]; exact key t h2 h3
 | dir d _ _ t _ _ _ h1 h2 h3 _ _ _ _ => rw [h1]; exact key t h2 h3
theorem tw_split {p : Node → Bool} : ∀ (a b : List Node), (∀ z ∈ a, p z = true) → (∀ z r, b = z :: r → p z = false) → (a ++ b).takeWhile p = a ∧ (a ++ b).dropWhile p = b
 | [], b, _, hb => by
   cases b with
   | nil => exact ⟨rfl, rfl⟩
   | cons z r =>
     have := hb z r rfl
     exact ⟨List.takeWhile_cons_of_neg (by simp [this]), List.dropWhile_cons_of_neg (by simp [this])⟩
 | x :: a, b, ha, hb => by
   have h := tw_split a b (fun z hz => ha z (List.mem_cons_of_mem _ hz)) hb
   have hx := ha x (List.mem_cons_self ..)
   rw [List.cons_append, List.takeWhile_cons_of_pos hx, List.dropWhile_cons_of_pos hx, h.1, h.2]
   exact ⟨rfl, rfl⟩
theorem forest_leaf {d : Nat} {p s : List UInt8} {y : Node} {r : List Node} (h1 : y.path = joinP p s) (h2 : nameB s = true) (h : VF d p s r) : forest (y :: r) = entryT y ++ (nodeR y (forest []) ++ (putL [41] ++ forest r)) := by
 rw [forest_cons]
 have := tw_split (p := fun z : Node => belowB z.path y.path) [] r (by simp) (fun z t e => by subst e; show belowB z.path y.path = false; rw [h1]; exact h.head h2)
 rw [List.nil_append] at this
 rw [this.1, this.2]
theorem forest_dir {d d' : Nat} {p s : List UInt8} {y : Node} {sub r : List Node} (h1 : y.path = joinP p s) (h2 : nameB s = true) (hs : VF d' (joinP p s) [] sub) (h : VF d p s r) : forest (y :: (sub ++ r)) = entryT y ++ (nodeR y (forest sub) ++ (putL [41] ++ forest r)) := by
 rw [forest_cons]
 have := tw_split (p := fun z : Node => belowB z.path y.path) sub r (fun z hz => by show belowB z.path y.path = true; rw [h1]; exact hs.under z hz) (fun z t e => by subst e; show belowB z.path y.path = false; rw [h1]; exact h.head h2)
 rw [this.1, this.2]
theorem entry_name {p s : List UInt8} {y : Node} (h1 : y.path = joinP p s) (h2 : nameB s = true) : entryT y = putL wEntry ++ (putL wOpen ++ (putL wName ++ (putL s ++ putL wNode))) := by
 unfold entryT
 rw [h1, dirOf_join p s (name_no47 h2)]
 simp [putAll]
theorem nodeR_text (x : Node) (kids : List UInt8) : nodeR x kids = putL wOpen ++ (putL wType ++ ((if x.kind = 1 ∨ x.kind = 2 ∨ x.kind = 3 then leafR x.kind x.data else putL wDir ++ kids) ++ putL wShut)) := by
 unfold nodeR
 simp [putAll]
def SNode (d : Nat) : Prop := ∀ (path : List UInt8) (ρ ρ' : RS), rNode d path ρ = .ok ρ' → ρ.nodes.length ≤ 30 →
 ∃ (e : Nat) (x : Node) (r : List Node), d = e + 1 ∧ VN e path x r ∧ ρ.rest = nodeR x (forest r) ++ ρ'.rest ∧ ρ'.nodes = ρ.nodes ++ x :: r ∧ ρ'.nodes.length ≤ 30
theorem sound_dirF {d : Nat} (hN : SNode d) (p : List UInt8) : ∀ (f : Nat) (last : List UInt8) (ρ ρ' : RS), rDirF (rNode d) p f last ρ = .ok ρ' → ρ.rest.length < f → ρ.nodes.length ≤ 30 →
 ∃ r, VF d p last r ∧ ρ.rest = forest r ++ (putL wShut ++ ρ'.rest) ∧ ρ'.nodes = ρ.nodes ++ r ∧ ρ'.nodes.length ≤ 30
 | 0, _, _, _, _, h, _ => absurd h (by omega)
 | f + 1, last, ρ, ρ', h, hf, hl => by
   unfold rDirF at h
   obtain ⟨x, h1, h⟩ := bind_ok h
   obtain ⟨r1, m1, n1, -⟩ := rWord_put h1
   have l1 := rWord_le h1
   by_cases hs : x.1 = wShut
   ·rw [if_pos hs] at h
    cases h
    refine ⟨[], .nil _ _ _, ?_, by rw [n1, List.append_nil], by rw [n1]; exact hl⟩
    rw [r1, hs]; rfl
   ·rw [if_neg hs] at h
    have he : x.1 = wEntry := by
     simp only [List.mem_cons, List.not_mem_nil, or_false] at m1
     exact m1.resolve_right hs
    obtain ⟨a, h2, h⟩ := bind_ok h
    obtain ⟨r2, m2, n2, -⟩ := rWord_put h2
    have l2 := rWord_le h2
    obtain ⟨y, h3, h⟩ := bind_ok h
    obtain ⟨r3, m3, n3, -⟩ := rWord_put h3
    have l3 := rWord_le h3
    obtain ⟨c, h4, h⟩ := bind_ok h
    obtain ⟨r4, -, n4, -⟩ := rNext_put h4
    have l4 := rNext_le h4
    by_cases hnm : nameB c.1 = false
    ·rw [if_pos hnm] at h; cases h
    rw [if_neg hnm] at h
    by_cases hle : leS c.1 last = true
    ·rw [if_pos hle] at h; cases h
    rw [if_neg hle] at h
    obtain ⟨z, h5, h⟩ := bind_ok h
    obtain ⟨r5, m5, n5, -⟩ := rWord_put h5
    have l5 := rWord_le h5
    obtain ⟨ρ2, h6, h⟩ := bind_ok h
    have hzl : z.2.nodes.length ≤ 30 := by rw [n5, n4, n3, n2, n1]; exact hl
    obtain ⟨e, nd, sub, rfl, ⟨v1, v2⟩, r6, n6, len6⟩ := hN _ _ _ h6 hzl
    have l6 := rNode_le _ _ _ _ h6
    obtain ⟨z2, h7, h⟩ := bind_ok h
    obtain ⟨r7, m7, n7, -⟩ := rWord_put h7
    have l7 := rWord_le h7
    obtain ⟨r, hv, r8, n8, len8⟩ := sound_dirF hN p f c.1 z2.2 ρ' h (by omega) (by rw [n7]; exact len6)
    have hnm2 : nameB c.1 = true := by simpa using hnm
    have hle2 : leS c.1 last = false := by simpa using hle
    have hm : ∀ {t u : List UInt8}, t ∈ [u] → t = u := fun h => by simpa using h
    have htext : ∀ T : List UInt8, entryT nd ++ (nodeR nd (forest sub) ++ (putL [41] ++ forest r)) ++ (putL wShut ++ ρ'.rest) = ρ.rest := by
     intro _
     rw [r1, he, r2, hm m2, r3, hm m3, r4, r5, hm m5, r6, r7, hm m7, r8, entry_name v1 hnm2]
     simp only [List.append_assoc]
    rcases v2 with ⟨k4, rfl, hd⟩ | ⟨k4, kd, hvs⟩
    ·refine ⟨nd :: r, .leaf e p last c.1 nd r v1 hnm2 hle2 k4 hd hv, ?_, ?_, len8⟩
     ·rw [forest_leaf v1 hnm2 hv, htext []]
     ·rw [n8, n7, n6, n5, n4, n3, n2, n1]; simp
    ·refine ⟨nd :: (sub ++ r), .dir e p last c.1 nd sub r v1 hnm2 hle2 k4 kd hvs hv, ?_, ?_, len8⟩
     ·rw [forest_dir v1 hnm2 hvs hv, htext []]
     ·rw [n8, n7, n6, n5, n4, n3, n2, n1]; simp
theorem sound_node : ∀ d : Nat, SNode d
 | 0 => by
   intro path ρ ρ' h _
   unfold rNode at h
   obtain ⟨x, h1, h⟩ := bind_ok h
   cases h
 | d + 1 => by
   intro path ρ ρ' h hl
   have hm : ∀ {t u : List UInt8}, t ∈ [u] → t = u := fun h => by simpa using h
   unfold rNode at h
   obtain ⟨x, h1, h⟩ := bind_ok h
   obtain ⟨r1, m1, n1, -⟩ := rWord_put h1
   by_cases h30 : x.2.nodes.length = 30
   ·rw [if_pos h30] at h; cases h
   rw [if_neg h30] at h
   obtain ⟨y, h2, h⟩ := bind_ok h
   obtain ⟨r2, m2, n2, -⟩ := rWord_put h2
   obtain ⟨z, h3, h⟩ := bind_ok h
   obtain ⟨r3, m3, n3, -⟩ := rWord_put h3
   rw [n1] at h30
   have hlt : ρ.nodes.length < 30 := by omega
   refine ⟨d, ?_⟩
   by_cases hF : z.1 = wFile
   ·rw [if_pos hF] at h
    unfold rFile at h
    obtain ⟨a, h4, h⟩ := bind_ok h
    obtain ⟨r4, m4, n4, -⟩ := rWord_put h4
    by_cases hx : a.1 = wExec
    ·rw [if_pos hx] at h
     obtain ⟨b1, h5, h⟩ := bind_ok h
     obtain ⟨r5, m5, n5, -⟩ := rWord_put h5
     obtain ⟨b2, h6, h⟩ := bind_ok h
     obtain ⟨r6, m6, n6, -⟩ := rWord_put h6
     obtain ⟨b3, h7, h⟩ := bind_ok h
     obtain ⟨r7, len7, n7, -⟩ := rNext_put h7
     obtain ⟨b4, h8, h⟩ := bind_ok h
     obtain ⟨r8, m8, n8, -⟩ := rWord_put h8
     cases h
     simp only [RS.add] at r8 n8
     refine ⟨⟨path, 2, b3.1⟩, [], rfl, ⟨rfl, .inl ⟨by simp, rfl, by simp [dataB]; exact len7⟩⟩, ?_, ?_, ?_⟩
     ·rw [r1, hm m1, r2, hm m2, r3, hF, r4, hx, r5, hm m5, r6, hm m6, r7, r8, hm m8, nodeR_text]
      simp [leafR, putAll]
     ·rw [n8, n7, n6, n5, n4, n3, n2, n1]
     ·rw [n8, n7, n6, n5, n4, n3, n2, n1]; simp; omega
    ·rw [if_neg hx] at h
     have hda : a.1 = wData := by
      simp only [List.mem_cons, List.not_mem_nil, or_false] at m4
      exact m4.resolve_left hx
     obtain ⟨b3, h7, h⟩ := bind_ok h
     obtain ⟨r7, len7, n7, -⟩ := rNext_put h7
     obtain ⟨b4, h8, h⟩ := bind_ok h
     obtain ⟨r8, m8, n8, -⟩ := rWord_put h8
     cases h
     simp only [RS.add] at r8 n8
     refine ⟨⟨path, 1, b3.1⟩, [], rfl, ⟨rfl, .inl ⟨by simp, rfl, by simp [dataB]; exact len7⟩⟩, ?_, ?_, ?_⟩
     ·rw [r1, hm m1, r2, hm m2, r3, hF, r4, hda, r7, r8, hm m8, nodeR_text]
      simp [leafR, putAll]
     ·rw [n8, n7, n4, n3, n2, n1]
     ·rw [n8, n7, n4, n3, n2, n1]; simp; omega
   rw [if_neg hF] at h
   by_cases hL : z.1 = wLink
   ·rw [if_pos hL] at h
    unfold rLink at h
    obtain ⟨a, h4, h⟩ := bind_ok h
    obtain ⟨r4, m4, n4, -⟩ := rWord_put h4
    obtain ⟨b3, h7, h⟩ := bind_ok h
    obtain ⟨r7, len7, n7, -⟩ := rNext_put h7
    by_cases hd : dataB 3 b3.1 = true
    ·rw [if_pos hd] at h
     obtain ⟨b4, h8, h⟩ := bind_ok h
     obtain ⟨r8, m8, n8, -⟩ := rWord_put h8
     cases h
     simp only [RS.add] at r8 n8
     refine ⟨⟨path, 3, b3.1⟩, [], rfl, ⟨rfl, .inl ⟨by simp, rfl, hd⟩⟩, ?_, ?_, ?_⟩
     ·rw [r1, hm m1, r2, hm m2, r3, hL, r4, hm m4, r7, r8, hm m8, nodeR_text]
      simp [leafR, putAll]
     ·rw [n8, n7, n4, n3, n2, n1]
     ·rw [n8, n7, n4, n3, n2, n1]; simp; omega
    ·rw [if_neg hd] at h; cases h
   rw [if_neg hL] at h
   have hD : z.1 = wDir := by
    simp only [List.mem_cons, List.not_mem_nil, or_false] at m3
    rcases m3 with h | h | h
    ·exact absurd h hF
    ·exact absurd h hL
    ·exact h
   obtain ⟨r, hv, r8, n8, len8⟩ := sound_dirF (sound_node d) path _ _ _ _ h (by simp only [RS.add]; omega) (by simp only [RS.add, List.length_append, List.length_cons, List.length_nil, n3, n2, n1]; omega)
   simp only [RS.add] at r8 n8
   refine ⟨⟨path, 4, []⟩, r, rfl, ⟨rfl, .inr ⟨rfl, rfl, hv⟩⟩, ?_, ?_, len8⟩
   ·rw [r1, hm m1, r2, hm m2, r3, hD, r8, nodeR_text]
    simp
   ·rw [n8, n3, n2, n1]; simp
end Go.Proofs.YtdkogijdfgfpeaaGreatDoor
