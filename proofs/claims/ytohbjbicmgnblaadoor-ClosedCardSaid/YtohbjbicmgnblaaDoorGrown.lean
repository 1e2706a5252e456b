/- Plain: trees that are grown out of bytes, and a node of them changed. No program in sight. -/
import Derived.Test.YtohbjbicmgnblaaDoorChecked
import Derived.Test.YtohbjbicmgnblaaDoorLaw
namespace Go.Proofs.YtohbjbicmgnblaaDoor
open Go Go.RowKit
set_option linter.unusedVariables false

/- names -/
theorem cont_no10 : ∀ (m : Nat) (r : List UInt8) (c c' : Nat), contC m r c = some c' → (10 : UInt8) ∉ r.take m
  | 0, r, c, c', h => by simp
  | m + 1, [], c, c', h => by simp
  | m + 1, b :: r, c, c', h => by
    unfold contC at h
    by_cases hb : b.toNat < 128 ∨ 191 < b.toNat
    · rw [if_pos hb] at h; cases h
    · rw [if_neg hb] at h
      have := cont_no10 m r _ _ h
      rw [List.take_succ_cons, List.mem_cons, not_or]
      refine ⟨?_, this⟩
      intro e
      rw [← e] at hb
      exact hb (.inl (by decide))
theorem letter_no10 {l : List UInt8} {k : Nat} (h : letter l = some k) : (10 : UInt8) ∉ l.take k := by
  cases l with
  | nil => simp
  | cons b r =>
    cases hl : leadM b.toNat with
    | none => rw [letter_bad hl] at h; cases h
    | some mc =>
      obtain ⟨m, c⟩ := mc
      cases hc : contC m r c with
      | none => rw [letter_none hl hc] at h; cases h
      | some c' =>
        rw [letter_some hl hc] at h
        split at h
        · cases h
        · obtain rfl := Option.some.inj h
          rw [Nat.add_comm, List.take_succ_cons, List.mem_cons, not_or]
          refine ⟨?_, cont_no10 m r c c' hc⟩
          intro e
          rw [← e] at hl
          simp [leadM] at hl
theorem letters_no10 : ∀ (f : Nat) (l : List UInt8) (n : Nat), l.length ≤ f → (10 : UInt8) ∈ l → lettersOf l n = none
  | 0, l, n, hf, h => by
    obtain rfl : l = [] := List.eq_nil_of_length_eq_zero (by omega)
    simp at h
  | f + 1, l, n, hf, h => by
    have hne : l ≠ [] := by rintro rfl; simp at h
    rw [lettersOf_step l n hne]
    cases hl : letter l with
    | none => rfl
    | some k =>
      have hk := letter_pos hl
      refine letters_no10 f _ _ (by rw [List.length_drop]; omega) ?_
      rw [← List.take_append_drop k l, List.mem_append] at h
      exact h.resolve_left (letter_no10 hl)
theorem nameB_ctl {n : List UInt8} (h : (10 : UInt8) ∈ n) : nameB n = false := by
  rw [← refName_eq, refName, letters_no10 n.length n 0 (Nat.le_refl _) h]
theorem name_grown (n : Nat) (hn : n ≤ 25) (suf : List UInt8) (hs : suf = [] ∨ suf = [206, 177, 32, 120]) : nameB (UInt8.ofNat (97 + n) :: suf) = true := by
  rw [← refName_eq]
  have h1 : ∀ n : Fin 26, refName (UInt8.ofNat (97 + n.val) :: []) = true ∧ refName (UInt8.ofNat (97 + n.val) :: [206, 177, 32, 120]) = true := by decide
  rcases hs with rfl | rfl
  · exact (h1 ⟨n, by omega⟩).1
  · exact (h1 ⟨n, by omega⟩).2
/- a tree out of bytes: what holds all along -/
/-- the open directories behind some nodes, if all are right -/
def afterGo : List Node → Nat → Opens → Option Opens
  | [], _, st => some st
  | n :: r, k, st => match nodeOk k n st with
    | none => none
    | some st' => afterGo r (k + 1) (pushD n st')
theorem wrongGo_after : ∀ (r : List Node) (k : Nat) (st : Opens), wrongGo r k st = -1 ↔ (afterGo r k st).isSome = true
  | [], _, _ => by simp [wrongGo, afterGo]
  | n :: r, k, st => by
    unfold wrongGo afterGo
    cases nodeOk k n st with
    | none => simp only [Option.isSome_none]; constructor <;> intro h <;> first | omega | cases h
    | some st' => exact wrongGo_after r (k + 1) _
theorem afterGo_append : ∀ (a b : List Node) (k : Nat) (st : Opens), afterGo (a ++ b) k st = (afterGo a k st).bind fun st' => afterGo b (k + a.length) st'
  | [], b, k, st => by simp [afterGo]
  | n :: a, b, k, st => by
    simp only [List.cons_append, afterGo]
    cases nodeOk k n st with
    | none => rfl
    | some st' =>
      simp only
      rw [afterGo_append a b (k + 1), List.length_cons, show k + 1 + a.length = k + (a.length + 1) by omega]
theorem wrongGo_append : ∀ (a b : List Node) (k : Nat) (st st' : Opens), afterGo a k st = some st' → wrongGo (a ++ b) k st = wrongGo b (k + a.length) st'
  | [], b, k, st, st', h => by simp [afterGo] at h; simp [h]
  | n :: a, b, k, st, st', h => by
    unfold afterGo at h
    simp only [List.cons_append, wrongGo]
    cases ho : nodeOk k n st with
    | none => rw [ho] at h; cases h
    | some s2 =>
      rw [ho] at h
      simp only at h ⊢
      rw [wrongGo_append a b (k + 1) _ _ h, List.length_cons, show k + 1 + a.length = k + (a.length + 1) by omega]
theorem after_inv : ∀ (r ys : List Node) (k : Nat) (st st' : Opens), 0 < k → Inv ys st.reverse → afterGo r k st = some st' → Inv (ys ++ r) st'.reverse
  | [], ys, k, st, st', _, h, ha => by simp [afterGo] at ha; subst ha; simpa using h
  | n :: r, ys, k, st, st', hk, h, ha => by
    unfold afterGo at ha
    cases ho : nodeOk k n st with
    | none => rw [ho] at ha; cases ha
    | some s2 =>
      rw [ho] at ha
      simp only at ha
      have hs : (comeB n.path st).1 = true ∧ s2 = (comeB n.path st).2 := by
        unfold nodeOk at ho
        by_cases h0 : k = 30 ∨ dataB n.kind n.data = false
        · rw [if_pos h0] at ho; cases ho
        · rw [if_neg h0, if_neg (show ¬ k = 0 by omega)] at ho
          by_cases hc : (comeB n.path st).1 = true ∧ (comeB n.path st).2.length ≤ 5
          · rw [if_pos hc] at ho; exact ⟨hc.1, (Option.some.inj ho).symm⟩
          · rw [if_neg hc] at ho; cases ho
      obtain ⟨h1, rfl⟩ := hs
      have := after_inv r (ys ++ [n]) (k + 1) _ st' (by omega) (h.come h1) ha
      simpa using this
/-- the whole list: its first node is the root -/
theorem after_whole {l : List Node} {st : Opens} (hl : l ≠ []) (h : afterGo l 0 [] = some st) : Inv l st.reverse := by
  obtain ⟨x, r, rfl⟩ := List.exists_cons_of_ne_nil hl
  unfold afterGo at h
  cases ho : nodeOk 0 x [] with
  | none => rw [ho] at h; cases h
  | some s2 =>
    rw [ho] at h
    simp only at h
    unfold nodeOk at ho
    by_cases h0 : 0 = 30 ∨ dataB x.kind x.data = false
    · rw [if_pos h0] at ho; cases ho
    · rw [if_neg h0, if_pos rfl] at ho
      by_cases hp : x.path = [] ∧ ([] : Opens).length ≤ 5
      · rw [if_pos hp] at ho
        obtain rfl := (Option.some.inj ho).symm
        exact after_inv r [x] 1 _ st (by omega) (Inv.root x hp.1) h
      · rw [if_neg hp] at ho; cases ho
theorem wrongL_after {l : List Node} (hl : l ≠ []) : wrongL l = -1 ↔ (afterGo l 0 []).isSome = true := by
  unfold wrongL; rw [if_neg hl]; exact wrongGo_after l 0 []
/-- a node behind others is wrong -/
theorem wrong_at {a b : List Node} {x : Node} {st : Opens} (ha : afterGo a 0 [] = some st) (hx : nodeOk a.length x st = none) : wrongL (a ++ x :: b) = a.length := by
  unfold wrongL
  rw [if_neg (by simp), wrongGo_append a (x :: b) 0 [] st ha, wrongGo, Nat.zero_add, hx]
/-- what has the text last says of a directory -/
def LastOk (q : List UInt8) (z : Int) : Prop := (q = [] ∧ z = -1) ∨ (∃ (n : Nat) (suf : List UInt8), z = n ∧ n ≤ 25 ∧ q = UInt8.ofNat (97 + n) :: suf)
/-- the second byte of a path, if it has one, is a stroke or the first of a letter of two bytes -/
def Sec (p : List UInt8) : Prop := p = [] ∨ (∃ a, p = [a]) ∨ ∃ a b r, p = a :: b :: r ∧ (b = 47 ∨ b = 206)
structure GInv (l : List Node) (above : List (List UInt8)) (last : List Int) (st : Opens) : Prop where
  ne : l ≠ []
  after : afterGo l 0 [] = some st
  len : above.length = last.length
  pos : 0 < above.length
  le5 : above.length ≤ 5
  le : above.length ≤ st.length
  at' : ∀ (i : Nat) (h : i < above.length) (h2 : i < last.length) (h3 : i < st.length), st[i].1 = above[i] ∧ LastOk st[i].2 last[i]
  nul : ∀ (i : Nat) (h : i < above.length), (0 : UInt8) ∉ above[i] ∧ above[i].length ≤ 6 * i ∧ Sec above[i] ∧ above[i].head? ≠ some 47
  secs : ∀ x ∈ l, Sec x.path
  short : ∀ x ∈ l, x.data.length ≤ 100 ∧ x.path.length ≤ 36
theorem GInv.root (k : Int) (d : List UInt8) (hk : k = 4) (hd : d = []) : GInv [⟨[], k, d⟩] [[]] [-1] [([], [])] := by
  subst hk hd
  refine ⟨by simp, by simp [afterGo, nodeOk, pushD, dataB], rfl, by simp, by simp, by simp, ?_, ?_, ?_, ?_⟩
  · intro i h h2 h3
    obtain rfl : i = 0 := by simp at h; omega
    exact ⟨rfl, .inl ⟨rfl, rfl⟩⟩
  · intro i h
    obtain rfl : i = 0 := by simp at h; omega
    exact ⟨by simp, by simp, .inl rfl, by simp⟩
  · intro x hx; simp at hx; subst hx; exact .inl rfl
  · intro x hx; simp at hx; subst hx; simp
theorem GInv.pop {l : List Node} {above : List (List UInt8)} {last : List Int} {st : Opens} (h : GInv l above last st) (h1 : 1 < above.length) : GInv l (above.take (above.length - 1)) (last.take (above.length - 1)) st := by
  have hl := h.len
  have h5 := h.le5
  have hs := h.le
  refine ⟨h.ne, h.after, by simp; omega, by simp; omega, by simp; omega, by simp; omega, ?_, ?_, h.secs, h.short⟩
  · intro i hi h2 h3
    simp only [List.length_take] at hi h2
    rw [List.getElem_take, List.getElem_take]
    exact h.at' i (by omega) (by omega) h3
  · intro i hi
    simp only [List.length_take] at hi
    rw [List.getElem_take]
    exact h.nul i (by omega)
theorem ofNat_lt {a b : Nat} (h : a < b) (hb : b < 256) : UInt8.ofNat a < UInt8.ofNat b := by
  rw [UInt8.lt_iff_toNat_lt]
  simp only [UInt8.toNat_ofNat']
  omega
theorem last_lt {q : List UInt8} {z : Int} {n : Nat} {suf : List UInt8} (h : LastOk q z) (hz : z < n) (hn : n ≤ 25) : q < UInt8.ofNat (97 + n) :: suf := by
  rcases h with ⟨rfl, _⟩ | ⟨m, sf, rfl, hm, rfl⟩
  · exact nil_lt (by simp)
  · rw [List.cons_lt_cons_iff]
    exact .inl (ofNat_lt (by omega) (by omega))
theorem sec_join {d : List UInt8} {n : Nat} {suf : List UInt8} (hd : Sec d) (hs : suf = [] ∨ suf = [206, 177, 32, 120]) : Sec (joinP d (UInt8.ofNat (97 + n) :: suf)) := by
  unfold joinP
  split
  · rcases hs with rfl | rfl
    · exact .inr (.inl ⟨_, rfl⟩)
    · exact .inr (.inr ⟨_, _, _, rfl, .inr rfl⟩)
  · rename_i hne
    rcases hd with rfl | ⟨a, rfl⟩ | ⟨a, b, r, rfl, hb⟩
    · exact absurd rfl hne
    · exact .inr (.inr ⟨a, 47, _, rfl, .inl rfl⟩)
    · exact .inr (.inr ⟨a, b, _, rfl, hb⟩)
/-- a node more -/
theorem GInv.step {l : List Node} {above : List (List UInt8)} {last : List Int} {st : Opens} (h : GInv l above last st) (t : Nat) (ht : t + 1 = above.length) (ht2 : t < last.length) (n : Nat) (suf : List UInt8)
    (hlt : last[t] < n) (hn : n ≤ 25) (hs : suf = [] ∨ suf = [206, 177, 32, 120]) (hname : nameB (UInt8.ofNat (97 + n) :: suf) = true) (kd : Int) (da : List UInt8) (hk4 : kd = 4 → above.length ≤ 4) (hd : dataB kd da = true) (hd100 : da.length ≤ 100) (hl30 : l.length < 30) :
    ∃ st', GInv (l ++ [⟨joinP (above[t]'(by omega)) (UInt8.ofNat (97 + n) :: suf), kd, da⟩]) (if kd = 4 then above ++ [joinP (above[t]'(by omega)) (UInt8.ofNat (97 + n) :: suf)] else above) (if kd = 4 then last.set t n ++ [-1] else last.set t n) st' := by
  have hl := h.len
  have h5 := h.le5
  have hle := h.le
  have hinv := after_whole h.ne h.after
  obtain ⟨e1, hlo⟩ := h.at' t (by omega) ht2 (by omega)
  obtain ⟨hn0, hpl, hsec, hh47⟩ := h.nul t (by omega)
  have hname47 : (47 : UInt8) ∉ UInt8.ofNat (97 + n) :: suf := by
    simp only [List.mem_cons, not_or]
    refine ⟨?_, by rcases hs with rfl | rfl <;> decide⟩
    intro e
    have := congrArg UInt8.toNat e
    simp at this
    omega
  have hname0 : (0 : UInt8) ∉ UInt8.ofNat (97 + n) :: suf := by
    simp only [List.mem_cons, not_or]
    refine ⟨?_, by rcases hs with rfl | rfl <;> decide⟩
    intro e
    have := congrArg UInt8.toNat e
    simp at this
    omega
  have hnl : (UInt8.ofNat (97 + n) :: suf).length ≤ 5 := by rcases hs with rfl | rfl <;> simp
  have hsj := sec_join (n := n) hsec hs
  have hlast := last_lt (suf := suf) hlo hlt hn
  have hhead : (UInt8.ofNat (97 + n) :: suf).head? ≠ some 47 := by
    intro e
    simp only [List.head?_cons, Option.some.injEq] at e
    exact hname47 (by rw [e]; simp)
  have hph : (joinP above[t] (UInt8.ofNat (97 + n) :: suf)).head? ≠ some 47 := by
    unfold joinP
    split
    · exact hhead
    · rename_i hne
      cases ha : above[t] with
      | nil => exact absurd ha hne
      | cons a r => rw [ha] at hh47; simpa using hh47
  have hdo := dirOf_join above[t] _ hname47
  generalize hpth : joinP above[t] (UInt8.ofNat (97 + n) :: suf) = pth at *
  -- the stack behind it
  have hmem : (above[t], st[t].2) ∈ st.reverse := by
    rw [List.mem_reverse, ← e1]
    exact List.getElem_mem (by omega)
  have hrev : st.reverse = (st.drop (t + 1)).reverse ++ (above[t], st[t].2) :: (st.take t).reverse := by
    have e2 : st = st.take t ++ (st[t] :: st.drop (t + 1)) := by
      rw [← List.drop_eq_getElem_cons (by omega), List.take_append_drop]
    conv => lhs; rw [e2]
    rw [List.reverse_append, List.reverse_cons, List.append_assoc, List.singleton_append]
    rw [show (above[t], st[t].2) = st[t] from Prod.ext e1.symm rfl]
  obtain ⟨pre, r, hrs, hpre, hf⟩ := hinv.chain.find hmem
  have hr : r = (st.take t).reverse := by
    -- the directory stands there once
    have hc := hinv.chain
    rw [hrev] at hc hf
    have hb : ∀ o ∈ (st.drop (t + 1)).reverse, belowB o.1 above[t] = true := by
      intro o ho
      obtain ⟨p1, p2, he⟩ := List.append_of_mem ho
      rw [he, List.append_assoc] at hc
      exact ChainR.below hc.drop (above[t], st[t].2) (by simp)
    rw [List.dropWhile_append_of_pos (fun o ho => by
      have := below_len (hb o ho)
      simp only [bne_iff_ne, ne_eq]
      intro e
      rw [e] at this
      omega), List.dropWhile_cons] at hf
    simp only [bne_self_eq_false, Bool.false_eq_true, if_false] at hf
    exact (List.cons.inj hf).2.symm
  subst hr
  have hstep : Step pth st.reverse st[t].2 (st.take t).reverse := ⟨by rw [hdo]; exact hf, by rw [hdo]; exact hname, hph, by rw [hdo]; exact hlast⟩
  have hcome := come_step.2 ⟨_, _, hstep⟩
  have hsnd := come_snd hcome hstep.find
  rw [hdo] at hsnd
  simp only [List.reverse_cons, List.reverse_reverse] at hsnd
  have hlen2 : (comeB pth st).2.length = t + 1 := by rw [hsnd]; simp; omega
  have hok : nodeOk l.length ⟨pth, kd, da⟩ st = some (comeB pth st).2 := by
    unfold nodeOk
    have h0 : 0 < l.length := List.length_pos_iff.2 h.ne
    rw [if_neg (by rw [hd]; simp; omega), if_neg (by omega), if_pos ⟨hcome, by rw [hlen2]; omega⟩]
  have hgo : afterGo (l ++ [⟨pth, kd, da⟩]) 0 [] = some (pushD ⟨pth, kd, da⟩ (comeB pth st).2) := by
    rw [afterGo_append, h.after]
    simp only [Option.bind_some, Nat.zero_add, afterGo, hok]
  have hpl2 : pth.length ≤ 6 * t + 6 ∧ (0 : UInt8) ∉ pth := by
    rw [← hpth]
    unfold joinP
    split
    · exact ⟨by omega, hname0⟩
    · simp only [List.length_append, List.length_cons, List.mem_append, List.mem_cons, not_or] at hnl hname0 ⊢
      exact ⟨by omega, hn0, by decide, hname0⟩
  have hst2 : (comeB pth st).2 = st.take t ++ [(above[t], UInt8.ofNat (97 + n) :: suf)] := hsnd
  -- the parts that hold whether it is a directory or not
  have hat : ∀ (i : Nat) (hi : i < above.length) (h2 : i < (last.set t (n : Int)).length) (h3 : i < (comeB pth st).2.length), (comeB pth st).2[i].1 = above[i] ∧ LastOk (comeB pth st).2[i].2 (last.set t (n : Int))[i] := by
    intro i hi h2 h3
    simp only [hst2]
    rw [List.getElem_set]
    by_cases e : i = t
    · subst e
      rw [List.getElem_append_right (by simp; omega)]
      simp only [List.length_take]
      simp only [show i - min i st.length = 0 by omega, List.getElem_cons_zero]
      exact ⟨trivial, .inr ⟨n, suf, rfl, hn, rfl⟩⟩
    · rw [List.getElem_append_left (by simp; omega), if_neg (fun h => e h.symm)]
      rw [List.getElem_take]
      exact h.at' i hi (by simpa using h2) (by omega)
  have hse : ∀ x ∈ l ++ [⟨pth, kd, da⟩], Sec x.path := by
    intro x hx
    rcases List.mem_append.1 hx with hx | hx
    · exact h.secs x hx
    · obtain rfl := List.mem_singleton.1 hx
      exact hsj
  have hsh : ∀ x ∈ l ++ [⟨pth, kd, da⟩], x.data.length ≤ 100 ∧ x.path.length ≤ 36 := by
    intro x hx
    rcases List.mem_append.1 hx with hx | hx
    · exact h.short x hx
    · obtain rfl := List.mem_singleton.1 hx
      exact ⟨hd100, by have := hpl2.1; simp only; omega⟩
  by_cases h4 : kd = 4
  · have ha4 := hk4 h4
    rw [if_pos h4, if_pos h4]
    have hpush : pushD ⟨pth, kd, da⟩ (comeB pth st).2 = (comeB pth st).2 ++ [(pth, [])] := by unfold pushD; rw [if_pos h4]
    rw [hpush] at hgo
    refine ⟨_, by simp, hgo, by simp; omega, by simp, by simp; omega, by simp; omega, ?_, ?_, hse, hsh⟩
    · intro i hi h2 h3
      simp only [List.length_append, List.length_singleton, List.length_set] at hi h2 h3
      by_cases hit : i < above.length
      · rw [List.getElem_append_left (by omega), List.getElem_append_left hit, List.getElem_append_left (by simp; omega)]
        exact hat i hit (by simp; omega) (by omega)
      · have e : i = above.length := by omega
        rw [List.getElem_append_right (by omega), List.getElem_append_right (by omega), List.getElem_append_right (by simp; omega)]
        simp only [List.length_set]
        simp only [show i - above.length = 0 by omega, show i - last.length = 0 by omega, show i - (comeB pth st).2.length = 0 by omega, List.getElem_cons_zero]
        exact ⟨trivial, .inl ⟨rfl, rfl⟩⟩
    · intro i hi
      simp only [List.length_append, List.length_singleton] at hi
      by_cases hit : i < above.length
      · rw [List.getElem_append_left hit]; exact h.nul i hit
      · rw [List.getElem_append_right (by omega)]
        simp only [show i - above.length = 0 by omega, List.getElem_cons_zero]
        exact ⟨hpl2.2, by have := hpl2.1; omega, hsj, hph⟩
  · rw [if_neg h4, if_neg h4]
    have hpush : pushD ⟨pth, kd, da⟩ (comeB pth st).2 = (comeB pth st).2 := by unfold pushD; rw [if_neg h4]
    rw [hpush] at hgo
    exact ⟨_, by simp, hgo, by simpa using hl, h.pos, h5, by omega, hat, h.nul, hse, hsh⟩
/-- a tree that was grown out of bytes -/
structure Grown (l : List Node) : Prop where
  ne : l ≠ []
  good : wrongL l = -1
  secs : ∀ x ∈ l, Sec x.path
  short : ∀ x ∈ l, x.data.length ≤ 100 ∧ x.path.length ≤ 36
theorem GInv.grown {l : List Node} {above : List (List UInt8)} {last : List Int} {st : Opens} (h : GInv l above last st) : Grown l :=
  ⟨h.ne, (wrongL_after h.ne).2 (by rw [h.after]; rfl), h.secs, h.short⟩
theorem Grown.leaf (d : List UInt8) (h : d.length ≤ 100) : Grown [⟨[], 1, d⟩] := by
  refine ⟨by simp, ?_, fun x hx => ?_, fun x hx => ?_⟩
  · simp [wrongL, wrongGo, nodeOk, dataB, h]
  · simp at hx; subst hx; exact .inl rfl
  · simp at hx; subst hx; exact ⟨h, by simp⟩
theorem come_false {p : List UInt8} {st : Opens} (h : ∀ l r, Step p st.reverse l r → False) : (comeB p st).1 = false := by
  rw [Bool.eq_false_iff]
  intro hc
  obtain ⟨l, r, hs⟩ := come_step.1 hc
  exact h l r hs
theorem nodeOk_none {k : Nat} {x : Node} {st : Opens} (h0 : k = 0 → x.path ≠ []) (h1 : 0 < k → (comeB x.path st).1 = false) : nodeOk k x st = none := by
  unfold nodeOk
  split
  · rfl
  · split
    · rename_i hk; rw [if_neg (fun h => h0 hk h.1)]
    · rename_i hk; rw [if_neg (by rw [h1 (by omega)]; simp)]
/-- a node of a tree, and what stands ahead of it -/
theorem Grown.at {l : List Node} (h : Grown l) {k : Nat} (hk : k < l.length) : ∃ st, afterGo (l.take k) 0 [] = some st ∧ (0 < k → Inv (l.take k) st.reverse) ∧ nodeOk k l[k] st ≠ none := by
  have hg := (wrongL_after h.ne).1 h.good
  have hs : l = l.take k ++ (l[k] :: l.drop (k + 1)) := by rw [← List.drop_eq_getElem_cons hk, List.take_append_drop]
  rw [hs, afterGo_append] at hg
  cases ha : afterGo (l.take k) 0 [] with
  | none => rw [ha] at hg; cases hg
  | some st =>
    rw [ha] at hg
    simp only [Option.bind_some, Nat.zero_add, afterGo, List.length_take, Nat.min_eq_left (Nat.le_of_lt hk)] at hg
    refine ⟨st, rfl, fun h0 => after_whole ?_ ha, ?_⟩
    · intro e
      have := congrArg List.length e
      rw [List.length_take, List.length_nil, Nat.min_eq_left (Nat.le_of_lt hk)] at this
      omega
    · intro hn
      rw [hn] at hg
      cases hg
theorem Grown.set_wrong {l : List Node} (h : Grown l) {k : Nat} (hk : k < l.length) (x : Node) (hx : ∀ st, afterGo (l.take k) 0 [] = some st → (0 < k → Inv (l.take k) st.reverse) → nodeOk k x st = none) : wrongL (l.set k x) = k := by
  obtain ⟨st, ha, hi, -⟩ := h.at hk
  have hs : l.set k x = l.take k ++ (x :: l.drop (k + 1)) := by rw [List.set_eq_take_append_cons_drop, if_pos hk]
  have hl : (l.take k).length = k := by rw [List.length_take]; omega
  have := wrong_at (b := l.drop (k + 1)) ha (x := x) (by rw [hl]; exact hx st ha hi)
  rw [← hs, hl] at this
  exact this
/-- what becomes of a node -/
def brk (h : Nat) (prev x : Node) : Node :=
  if h = 0 then ⟨x.path ++ [47], x.kind, x.data⟩
  else if h = 1 then ⟨x.path ++ [10], x.kind, x.data⟩
  else if h = 2 then ⟨x.path, 5, x.data⟩
  else if h = 3 then ⟨x.path, 0, x.data⟩
  else if h = 4 then ⟨[110, 111, 119, 104, 101, 114, 101, 47] ++ x.path, x.kind, x.data⟩
  else if h = 5 then ⟨[47] ++ x.path, x.kind, x.data⟩
  else ⟨prev.path, x.kind, x.data⟩
theorem last_in (p d n : List UInt8) (c : UInt8) (hc : c ≠ 47) (h : p ++ [c] = d ++ 47 :: n) : c ∈ n := by
  have h1 := congrArg List.getLast? h
  rw [List.getLast?_append, List.getLast?_append] at h1
  cases n with
  | nil => simp at h1; exact absurd h1 hc
  | cons a r =>
    have : (47 :: a :: r : List UInt8).getLast? = (a :: r).getLast? := by rw [List.getLast?_cons_cons]
    rw [this] at h1
    have h2 : (a :: r : List UInt8).getLast? = some c := by
      cases hg : (a :: r : List UInt8).getLast? with
      | none => simp at hg
      | some z => rw [hg] at h1; simp at h1; rw [h1]
    exact List.mem_of_getLast? h2
theorem Grown.broken {l : List Node} (h : Grown l) {k : Nat} (hk : k < l.length) (b : Nat) (hb : b ≤ 6) (h6 : b = 6 → 0 < k) (prev : Node) (hprev : b = 6 → l[k - 1]? = some prev) : wrongL (l.set k (brk b prev l[k])) = k := by
  refine h.set_wrong hk _ fun st ha hi => ?_
  generalize l[k] = x
  have hkind : ∀ z : Int, dataB z x.data = false → nodeOk k ⟨x.path, z, x.data⟩ st = none := by
    intro z hz
    unfold nodeOk
    rw [if_pos (.inr hz)]
  rcases (by omega : b = 0 ∨ b = 1 ∨ b = 2 ∨ b = 3 ∨ b = 4 ∨ b = 5 ∨ b = 6) with rfl | rfl | rfl | rfl | rfl | rfl | rfl
  · refine nodeOk_none (fun _ => by simp [brk]) fun h0 => come_false fun l' r hs => ?_
    have e : dirOf (x.path ++ [47]) = (x.path, []) := dirOf_append _ _ (by simp)
    have := hs.name
    simp only [brk, if_pos] at this
    rw [e, nameB_nil] at this
    cases this
  · refine nodeOk_none (fun _ => by simp [brk]) fun h0 => come_false fun l' r hs => ?_
    have h1 := hs.name
    simp only [brk, Nat.one_ne_zero, if_false, if_true] at h1
    rw [nameB_ctl] at h1
    · cases h1
    · rcases dirOf_spec (x.path ++ [10]) with ⟨h2, _⟩ | ⟨h2, _⟩
      · rw [h2]; simp
      · exact last_in _ _ _ 10 (by decide) h2
  · exact hkind 5 rfl
  · exact hkind 0 rfl
  · refine nodeOk_none (fun _ => by simp [brk]) fun h0 => come_false fun l' r hs => ?_
    have hp : (brk 4 prev x).path = [110, 111, 119, 104, 101, 114, 101, 47] ++ x.path := rfl
    rw [hp] at hs
    have hm : ((dirOf ([110, 111, 119, 104, 101, 114, 101, 47] ++ x.path)).1, l') ∈ st.reverse := (List.dropWhile_sublist _).subset (by rw [hs.find]; simp)
    obtain ⟨y, hy, hyp, _⟩ := (hi h0).mem _ hm
    have hsec := h.secs y (List.mem_of_mem_take hy)
    rw [hyp] at hsec
    simp only at hsec
    rcases dirOf_spec ([110, 111, 119, 104, 101, 114, 101, 47] ++ x.path) with ⟨_, h2⟩ | ⟨h2, _⟩
    · exact absurd (by simp) h2
    · generalize (dirOf ([110, 111, 119, 104, 101, 114, 101, 47] ++ x.path)).1 = d at *
      generalize (dirOf ([110, 111, 119, 104, 101, 114, 101, 47] ++ x.path)).2 = n at *
      rcases hsec with rfl | ⟨a, rfl⟩ | ⟨a, c, q, rfl, hc⟩
      · simp at h2
      · simp at h2
      · simp only [List.cons_append, List.cons.injEq] at h2
        rw [← h2.2.1] at hc
        rcases hc with hc | hc <;> exact absurd hc (by decide)
  · refine nodeOk_none (fun _ => by simp [brk]) fun h0 => come_false fun l' r hs => ?_
    exact hs.head (by simp [brk])
  · have hk0 := h6 rfl
    have hpr := hprev rfl
    refine nodeOk_none (fun e => by omega) fun h0 => come_false fun l' r hs => ?_
    have hp : (brk 6 prev x).path = prev.path := rfl
    rw [hp] at hs
    have hinv := hi h0
    obtain ⟨hne, hj, h47, hn, hm, -⟩ := hs.facts hinv.chain
    have hmem : prev ∈ l.take k := by
      rw [List.getElem?_eq_some_iff] at hpr
      obtain ⟨h1, h2⟩ := hpr
      rw [← h2, List.mem_take_iff_getElem]
      exact ⟨k - 1, by omega, rfl⟩
    have h1 := hinv.dead prev hmem hne
    rw [(hinv.ina _ _ hn).2 ⟨l', by rw [List.mem_reverse]; exact hm, hs.lt⟩] at h1
    cases h1
end Go.Proofs.YtohbjbicmgnblaaDoor
