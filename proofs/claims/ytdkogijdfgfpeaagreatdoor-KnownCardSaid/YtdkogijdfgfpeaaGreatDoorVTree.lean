/- Plain: the program's answer is the reference's: which node is wrong first; the bytes of a tree. No program in sight. -/
import Derived.Test.YtdkogijdfgfpeaaGreatDoorVRefA
import Derived.Test.YtdkogijdfgfpeaaGreatDoorVMem
set_option linter.unusedVariables false
namespace Go.Proofs.YtdkogijdfgfpeaaGreatDoor
open Go Go.RowKit
theorem nameB_nil : nameB [] = false := by simp [nameB, scanOf, scanN]
theorem lastAt_spec (l : List UInt8) (c : UInt8) : ∀ k : Nat, (lastAt l c k < 0 ∧ ∀ i, i < k → l[i]? ≠ some c) ∨ (∃ j : Nat, lastAt l c k = j ∧ j < k ∧ l[j]? = some c ∧ ∀ i, j < i → i < k → l[i]? ≠ some c)
 | 0 => .inl ⟨by simp [lastAt], fun i h => by omega⟩
 | k + 1 => by
   unfold lastAt
   split
   ·rename_i h
    exact .inr ⟨k, rfl, by omega, h, fun i h1 h2 => by omega⟩
   ·rename_i h
    rcases lastAt_spec l c k with ⟨h1, h2⟩ | ⟨j, h1, h2, h3, h4⟩
    ·refine .inl ⟨h1, fun i hi => ?_⟩
     by_cases e : i = k
     ·rw [e]; exact h
     ·exact h2 i (by omega)
    ·refine .inr ⟨j, h1, by omega, h3, fun i h5 h6 => ?_⟩
     by_cases e : i = k
     ·rw [e]; exact h
     ·exact h4 i h5 (by omega)
theorem dirOf_spec (p : List UInt8) : ((dirOf p) = ([], p) ∧ (47 : UInt8) ∉ p) ∨ (p = (dirOf p).1 ++ 47 :: (dirOf p).2 ∧ (47 : UInt8) ∉ (dirOf p).2) := by
 unfold dirOf lastIdx
 rcases lastAt_spec p 47 p.length with ⟨h1, h2⟩ | ⟨j, h1, h2, h3, h4⟩
 ·left
  rw [if_neg (by omega)]
  refine ⟨rfl, fun hm => ?_⟩
  obtain ⟨i, hi, he⟩ := List.getElem_of_mem hm
  exact h2 i hi (by rw [List.getElem?_eq_getElem hi, he])
 ·right
  rw [h1, if_pos (by omega)]
  simp only [Int.toNat_natCast]
  refine ⟨?_, fun hm => ?_⟩
  ·have e : p[j] = 47 := by
    rw [List.getElem?_eq_getElem h2] at h3; exact Option.some.inj h3
   conv => lhs; rw [← List.take_append_drop j p, List.drop_eq_getElem_cons h2, e]
  ·obtain ⟨i, hi, he⟩ := List.getElem_of_mem hm
   rw [List.length_drop] at hi
   refine h4 (j + 1 + i) (by omega) (by omega) ?_
   rw [List.getElem_drop] at he
   rw [List.getElem?_eq_getElem (by omega), he]
theorem dirOf_append (d n : List UInt8) (h : (47 : UInt8) ∉ n) : dirOf (d ++ 47 :: n) = (d, n) := by
 rcases dirOf_spec (d ++ 47 :: n) with ⟨_, h2⟩ | ⟨h1, h2⟩
 ·exact absurd (by simp) h2
 ·generalize hg : dirOf (d ++ 47 :: n) = q at *
  obtain ⟨d', n'⟩ := q
  simp only at h1 h2
  have key : ∀ (d d' n n' : List UInt8), (47 : UInt8) ∉ n → (47 : UInt8) ∉ n' → d ++ 47 :: n = d' ++ 47 :: n' → d = d' ∧ n = n' := by
   intro d
   induction d with
   | nil =>
     intro d' n n' h h2 he
     cases d' with
     | nil => simp at he; exact ⟨rfl, he⟩
     | cons x r =>
       simp at he
       exact absurd (by rw [he.2]; simp) h
   | cons x r ih =>
     intro d' n n' h h2 he
     cases d' with
     | nil =>
       simp at he
       exact absurd (by rw [← he.2]; simp) h2
     | cons y r' =>
       simp at he
       obtain ⟨e1, e2⟩ := ih r' n n' h h2 he.2
       exact ⟨by rw [he.1, e1], e2⟩
  obtain ⟨e1, e2⟩ := key d d' n n' h h2 h1
  rw [e1, e2]
theorem dirOf_name (n : List UInt8) (h : (47 : UInt8) ∉ n) : dirOf n = ([], n) := by
 rcases dirOf_spec n with ⟨h1, _⟩ | ⟨h1, h2⟩
 ·exact h1
 ·exact absurd (by rw [h1]; simp) h
theorem dirOf_join (d n : List UInt8) (h : (47 : UInt8) ∉ n) : dirOf (joinP d n) = (d, n) := by
 unfold joinP
 split
 ·rename_i e; rw [e]; exact dirOf_name n h
 ·exact dirOf_append d n h
theorem join_dirOf (p : List UInt8) (h : p.head? ≠ some 47) : p = joinP (dirOf p).1 (dirOf p).2 ∧ (47 : UInt8) ∉ (dirOf p).2 := by
 rcases dirOf_spec p with ⟨h1, h2⟩ | ⟨h1, h2⟩
 ·rw [h1]; exact ⟨rfl, h2⟩
 ·refine ⟨?_, h2⟩
  unfold joinP
  rw [if_neg]
  ·exact h1
  ·intro e
   rw [e] at h1
   rw [h1] at h
   exact h rfl
theorem join_ne (d n : List UInt8) (h : n ≠ []) : joinP d n ≠ [] := by
 unfold joinP; split
 ·exact h
 ·simp
theorem depth_join (d n : List UInt8) (hn : n ≠ []) (h : (47 : UInt8) ∉ n) : depthL (joinP d n) = depthL d + 1 := by
 have h0 : n.countP (· == 47) = 0 := by rw [List.countP_eq_zero]; intro x hx e; rw [beq_iff_eq] at e; exact h (e ▸ hx)
 unfold depthL
 rw [if_neg (join_ne d n hn)]
 unfold joinP
 split
 ·simp [h0]
 ·rw [List.countP_append, List.countP_cons, h0]; simp; omega
theorem below_iff (p d : List UInt8) : belowB p d = true ↔ (d = [] ∧ p ≠ []) ∨ (d ≠ [] ∧ ∃ r, p = d ++ 47 :: r) := by
 unfold belowB
 by_cases h : d = []
 ·simp [h]
 ·simp only [h, if_false, false_and, false_or, ne_eq, not_false_eq_true, true_and]
  simp only [Bool.and_eq_true, decide_eq_true_eq, beq_iff_eq]
  constructor
  ·rintro ⟨h1, h2⟩
   refine ⟨p.drop (d.length + 1), ?_⟩
   conv => lhs; rw [← List.take_append_drop (d.length + 1) p, h2]
   simp
  ·rintro ⟨r, rfl⟩
   refine ⟨by simp, ?_⟩
   rw [List.take_append, List.take_of_length_le (by omega)]
   simp
theorem below_join (d n : List UInt8) (hn : n ≠ []) : belowB (joinP d n) d = true := by
 rw [below_iff]
 unfold joinP
 by_cases h : d = []
 ·simp [h, hn]
 ·simp only [h, if_false]; exact .inr ⟨h, n, rfl⟩
theorem below_trans {a b c : List UInt8} (h1 : belowB a b = true) (h2 : belowB b c = true) : belowB a c = true := by
 rw [below_iff] at *
 rcases h1 with ⟨rfl, h1⟩ | ⟨h1, r, rfl⟩
 ·rcases h2 with ⟨_, h2⟩ | ⟨h2, r, h3⟩
  ·exact absurd rfl h2
  ·simp at h3
 ·rcases h2 with ⟨rfl, h2⟩ | ⟨h2, q, rfl⟩
  ·exact .inl ⟨rfl, by simp⟩
  ·exact .inr ⟨h2, q ++ 47 :: r, by simp⟩
theorem below_len {p d : List UInt8} (h : belowB p d = true) : d.length < p.length := by
 rw [below_iff] at h
 rcases h with ⟨rfl, h⟩ | ⟨_, r, rfl⟩
 ·exact List.length_pos_iff.2 h
 ·simp
theorem join_below (d n q : List UInt8) (hn : n ≠ []) (h47 : (47 : UInt8) ∉ n) (hq : q ≠ []) : belowB (joinP d n) q = true ↔ q = d ∨ belowB d q = true := by
 constructor
 ·intro h
  rw [below_iff] at h
  rcases h with ⟨h, _⟩ | ⟨_, r, hr⟩
  ·exact absurd h hq
  ·by_cases h2 : (47 : UInt8) ∈ r
   ·right
    -- r has a stroke: q/../n
    have e : dirOf (joinP d n) = (q ++ 47 :: (dirOf r).1, (dirOf r).2) := by
     rcases dirOf_spec r with ⟨_, h3⟩ | ⟨h3, h4⟩
     ·exact absurd h2 h3
     ·rw [hr]
      conv => lhs; rw [h3]
      rw [show q ++ 47 :: ((dirOf r).1 ++ 47 :: (dirOf r).2) = (q ++ 47 :: (dirOf r).1) ++ 47 :: (dirOf r).2 by simp]
      exact dirOf_append _ _ h4
    rw [dirOf_join d n h47] at e
    rw [below_iff]
    exact .inr ⟨hq, (dirOf r).1, (Prod.mk.inj e).1⟩
   ·left
    have e : dirOf (joinP d n) = (q, r) := by rw [hr]; exact dirOf_append q r h2
    rw [dirOf_join d n h47] at e
    exact (Prod.mk.inj e).1.symm
 ·rintro (rfl | h)
  ·exact below_join _ _ hn
  ·exact below_trans (below_join d n hn) h
theorem bytesLess_lt : ∀ (x y : List UInt8), Op.bytesLess x y = decide (x < y)
 | [], [] => by simp [Op.bytesLess]
 | _ :: _, [] => by simp [Op.bytesLess]
 | [], _ :: _ => by simp [Op.bytesLess]
 | a :: x, b :: y => by
   simp only [Op.bytesLess, bytesLess_lt x y]
   rw [Bool.eq_iff_iff]
   simp [List.cons_lt_cons_iff]
theorem leS_false {a b : List UInt8} : leS a b = false ↔ b < a := by
 unfold leS
 rw [bytesLess_lt]
 by_cases h : b < a
 ·have h1 : ¬ a < b := List.lt_asymm h
  have h2 : ¬ a = b := fun e => by rw [e] at h; exact List.lt_irrefl _ h
  simp [h, h1, h2]
 ·simp only [h, iff_false]
  simp only [Bool.or_eq_false_iff, decide_eq_false_iff_not, beq_eq_false_iff_ne, not_and, ne_eq, Decidable.not_not]
  intro h1
  exact List.le_antisymm (List.not_lt.1 h) (List.not_lt.1 h1)
theorem leS_true {a b : List UInt8} : leS a b = true ↔ ¬ b < a := by
 rw [← leS_false]; cases leS a b <;> simp
theorem nil_lt {n : List UInt8} (h : n ≠ []) : [] < n := by
 cases n with
 | nil => exact absurd rfl h
 | cons a r => exact List.nil_lt_cons ..
def seen1 (dir name : List UInt8) (o : Option Bool) (y : Node) : Option Bool :=
 match o with
 | none => none
 | some i => if y.path = dir ∧ y.kind = 4 then some true
   else if i = false then some false
   else if belowB y.path dir = false then none
   else if (dirOf y.path).1 = dir ∧ leS name (dirOf y.path).2 = true then none
   else some true
def seen (dir name : List UInt8) (ys : List Node) : Option Bool := ys.foldl (seen1 dir name) (some false)
theorem seen1_some (dir name : List UInt8) (i : Bool) (y : Node) : seen1 dir name (some i) y = if y.path = dir ∧ y.kind = 4 then some true
 else if i = false then some false
 else if belowB y.path dir = false then none
 else if (dirOf y.path).1 = dir ∧ leS name (dirOf y.path).2 = true then none
 else some true := rfl
theorem seen_snoc (dir name : List UInt8) (ys : List Node) (x : Node) : seen dir name (ys ++ [x]) = seen1 dir name (seen dir name ys) x := by
 unfold seen; rw [List.foldl_append]; rfl
def ChainR : Opens → Prop
 | [] => True
 | [o] => o.1 = []
 | o :: e :: r => (∃ n, n ≠ [] ∧ (47 : UInt8) ∉ n ∧ o.1 = joinP e.1 n) ∧ ChainR (e :: r)
theorem ChainR.tail {o : List UInt8 × List UInt8} {r : Opens} (h : ChainR (o :: r)) : ChainR r := by
 cases r with
 | nil => trivial
 | cons e r => exact h.2
theorem ChainR.drop {a r : Opens} (h : ChainR (a ++ r)) : ChainR r := by
 induction a with
 | nil => exact h
 | cons o a ih => exact ih h.tail
theorem ChainR.below {o : List UInt8 × List UInt8} : ∀ {r : Opens}, ChainR (o :: r) → ∀ e ∈ r, belowB o.1 e.1 = true
 | [], _, e, h => by simp at h
 | e :: r, h, e', h' => by
   obtain ⟨⟨n, hn, _, ho⟩, h2⟩ := h
   have hb : belowB o.1 e.1 = true := by rw [ho]; exact below_join _ _ hn
   rcases List.mem_cons.1 h' with rfl | h'
   ·exact hb
   ·exact below_trans hb (ChainR.below h2 e' h')
theorem ChainR.depth : ∀ {o : List UInt8 × List UInt8} {r : Opens}, ChainR (o :: r) → depthL o.1 = r.length
 | o, [], h => by rw [show o.1 = [] from h]; rfl
 | o, e :: r, h => by
   obtain ⟨⟨n, hn, h4, ho⟩, h2⟩ := h
   rw [ho, depth_join _ _ hn h4, ChainR.depth h2]; rfl
theorem ChainR.last {o p : List UInt8 × List UInt8} {r : Opens} (h : ChainR (o :: r)) (e : p.1 = o.1) : ChainR (p :: r) := by
 cases r with
 | nil => exact e.trans h
 | cons q r => exact ⟨by rw [e]; exact h.1, h.2⟩
theorem ChainR.find {rs : Opens} {d l : List UInt8} (h : ChainR rs) (hm : (d, l) ∈ rs) : ∃ pre r, rs = pre ++ (d, l) :: r ∧ (∀ o ∈ pre, belowB o.1 d = true) ∧ rs.dropWhile (fun o => o.1 != d) = (d, l) :: r := by
 obtain ⟨pre, r, rfl⟩ := List.append_of_mem hm
 have hb : ∀ o ∈ pre, belowB o.1 d = true := by
  intro o ho
  obtain ⟨p1, p2, rfl⟩ := List.append_of_mem ho
  rw [List.append_assoc] at h
  exact ChainR.below h.drop (d, l) (by simp)
 refine ⟨pre, r, rfl, hb, ?_⟩
 rw [List.dropWhile_append_of_pos]
 ·rw [List.dropWhile_cons]; simp
 ·intro o ho
  have := below_len (hb o ho)
  simp only [bne_iff_ne, ne_eq]
  intro e
  rw [e] at this
  omega
theorem come_iff (p : List UInt8) (st : Opens) : (comeB p st).1 = true ↔ ∃ l r, st.reverse.dropWhile (fun o => o.1 != (dirOf p).1) = ((dirOf p).1, l) :: r ∧ nameB (dirOf p).2 = true ∧ p.head? ≠ some 47 ∧ (dirOf p).2 > l := by
 unfold comeB popTo
 simp only [List.getLast?_reverse]
 cases hd : st.reverse.dropWhile (fun o => o.1 != (dirOf p).1) with
 | nil => simp
 | cons o r =>
   have ho : o.1 = (dirOf p).1 := by
    have := List.head_dropWhile_not (fun o : List UInt8 × List UInt8 => o.1 != (dirOf p).1) (l := st.reverse) (by rw [hd]; simp)
    simp only [hd, List.head_cons] at this
    simpa using this
   simp only [List.head?_cons]
   by_cases hc : (!nameB (dirOf p).2 || p.head? == some 47 || leS (dirOf p).2 o.2) = true
   ·rw [if_pos hc]
    simp only [Bool.false_eq_true, false_iff, not_exists, not_and]
    intro l r' he h1 h2 h3
    cases he
    simp only [Bool.or_eq_true, Bool.not_eq_true', beq_iff_eq] at hc
    rcases hc with (hc | hc) | hc
    ·rw [h1] at hc; cases hc
    ·exact h2 hc
    ·rw [leS_true] at hc; exact hc h3
   ·rw [if_neg hc]
    simp only [true_iff]
    simp only [Bool.or_eq_true, Bool.not_eq_true', beq_iff_eq, not_or, Bool.not_eq_false, Bool.not_eq_true] at hc
    exact ⟨o.2, r, by rw [← ho], hc.1.1, hc.1.2, leS_false.1 hc.2⟩
theorem come_snd {p : List UInt8} {st : Opens} (h : (comeB p st).1 = true) {l : List UInt8} {r : Opens} (hd : st.reverse.dropWhile (fun o => o.1 != (dirOf p).1) = ((dirOf p).1, l) :: r) : (comeB p st).2 = (((dirOf p).1, (dirOf p).2) :: r).reverse := by
 unfold comeB popTo at h ⊢
 simp only [List.getLast?_reverse, hd, List.head?_cons] at h ⊢
 split
 ·rename_i hc; rw [if_pos hc] at h; cases h
 ·simp
structure Inv (ys : List Node) (rs : Opens) : Prop where
 chain : ChainR rs
 ina : ∀ d n, n ≠ [] → (seen d n ys = some true ↔ ∃ l, (d, l) ∈ rs ∧ l < n)
 out : ∀ d n, seen d n ys = some false ↔ ∀ y ∈ ys, ¬ (y.path = d ∧ y.kind = 4)
 mem : ∀ o ∈ rs, ∃ y ∈ ys, y.path = o.1 ∧ y.kind = 4
 dead : ∀ y ∈ ys, y.path ≠ [] → seen (dirOf y.path).1 (dirOf y.path).2 ys = none
theorem seen1_ne (d n : List UInt8) (o : Option Bool) (y : Node) (h : o ≠ some false) : seen1 d n o y ≠ some false := by
 unfold seen1
 match o, h with
 | none, _ => simp
 | some false, h => exact absurd rfl h
 | some true, _ => simp only; split <;> (try simp)
theorem out_step {ys : List Node} (h : ∀ d n, seen d n ys = some false ↔ ∀ y ∈ ys, ¬ (y.path = d ∧ y.kind = 4)) (x : Node) (d n : List UInt8) : seen d n (ys ++ [x]) = some false ↔ ∀ y ∈ ys ++ [x], ¬ (y.path = d ∧ y.kind = 4) := by
 rw [seen_snoc]
 constructor
 ·intro hs y hy
  have h0 : seen d n ys = some false := by
   apply Decidable.byContradiction
   intro hc
   exact seen1_ne d n _ x hc hs
  rcases List.mem_append.1 hy with hy | hy
  ·exact (h d n).1 h0 y hy
  ·obtain rfl := List.mem_singleton.1 hy
   rw [h0, seen1_some] at hs
   intro hc
   rw [if_pos hc] at hs
   cases hs
 ·intro hs
  rw [(h d n).2 (fun y hy => hs y (List.mem_append_left _ hy)), seen1_some, if_neg (hs x (by simp)), if_pos rfl]
theorem Inv.root (x : Node) (hx : x.path = []) : Inv [x] (pushD x []).reverse := by
 refine ⟨?_, ?_, out_step (ys := []) (fun d n => by simp [seen]) x, ?_, ?_⟩
 ·unfold pushD; split <;> simp [ChainR, hx]
 ·intro d n hn
  show seen1 d n (some false) x = some true ↔ _
  rw [seen1_some]
  by_cases h4 : x.kind = 4
  ·unfold pushD
   rw [if_pos h4]
   simp only [hx, h4, and_true, List.nil_append, List.reverse_singleton, List.mem_singleton, Prod.mk.injEq]
   constructor
   ·intro h
    split at h
    ·rename_i e
     exact ⟨[], ⟨e.symm, rfl⟩, nil_lt hn⟩
    ·simp at h
   ·rintro ⟨l, ⟨rfl, rfl⟩, _⟩
    simp
  ·unfold pushD
   rw [if_neg h4]
   simp [h4]
 ·unfold pushD
  split
  ·rename_i h4; simp [hx, h4]
  ·simp
 ·intro y hy hne
  obtain rfl := List.mem_singleton.1 hy
  exact absurd hx hne
structure Step (p : List UInt8) (rs : Opens) (l : List UInt8) (r : Opens) : Prop where
 find : rs.dropWhile (fun o => o.1 != (dirOf p).1) = ((dirOf p).1, l) :: r
 name : nameB (dirOf p).2 = true
 head : p.head? ≠ some 47
 lt : l < (dirOf p).2
theorem nameB_ne {n : List UInt8} (h : nameB n = true) : n ≠ [] := by
 rintro rfl; rw [nameB_nil] at h; cases h
theorem Inv.step {ys : List Node} {rs : Opens} (h : Inv ys rs) {x : Node} {l : List UInt8} {r : Opens} (hs : Step x.path rs l r) :
 Inv (ys ++ [x]) ((if x.kind = 4 then [(x.path, [])] else []) ++ ((dirOf x.path).1, (dirOf x.path).2) :: r) := by
 obtain ⟨hj, h47⟩ := join_dirOf x.path hs.head
 have hn := nameB_ne hs.name
 have hdm : ((dirOf x.path).1, l) ∈ rs := by
  have := hs.find
  exact (List.dropWhile_sublist _).subset (by rw [this]; simp)
 obtain ⟨pre, r', hrs, hpre, hf⟩ := h.chain.find hdm
 obtain rfl : r' = r := by rw [hs.find] at hf; exact (List.cons.inj hf).2.symm
 have hxne : x.path ≠ [] := by rw [hj]; exact join_ne _ _ hn
 have hin : seen (dirOf x.path).1 (dirOf x.path).2 ys = some true := (h.ina _ _ hn).2 ⟨l, hdm, hs.lt⟩
 have hchain : ChainR (((dirOf x.path).1, (dirOf x.path).2) :: r') := by
  have : ChainR (((dirOf x.path).1, l) :: r') := by
   have := h.chain
   rw [hrs] at this
   exact this.drop
  exact this.last rfl
 have hlt := hs.lt
 have hnodir : ∀ y ∈ ys, y.path ≠ x.path := by
  intro y hy e
  have := h.dead y hy (by rw [e]; exact hxne)
  rw [e, hin] at this
  cases this
 generalize hD : dirOf x.path = D at *
 obtain ⟨dir, name⟩ := D
 simp only at *
 refine ⟨?_, ?_, out_step h.out x, ?_, ?_⟩
 ·split
  ·exact ⟨⟨name, hn, h47, hj⟩, hchain⟩
  ·exact hchain
 ·intro d' n' hn'
  rw [seen_snoc]
  by_cases hpush : x.path = d' ∧ x.kind = 4
  ·-- it was out
   have ho : seen d' n' ys = some false := (h.out d' n').2 (fun y hy hc => hnodir y hy (by rw [hc.1, hpush.1]))
   rw [ho, seen1_some, if_pos hpush]
   simp only [true_iff]
   refine ⟨[], ?_, nil_lt hn'⟩
   rw [if_pos hpush.2, hpush.1]
   simp
  ·-- what stands on the new stack under d' stood on the old one, with a name that is not above
   have hold : (∃ l', (d', l') ∈ (if x.kind = 4 then [(x.path, ([] : List UInt8))] else []) ++ (dir, name) :: r' ∧ l' < n') ↔ (d' = dir ∧ name < n') ∨ (∃ l', (d', l') ∈ r' ∧ l' < n') := by
    constructor
    ·rintro ⟨l', hm, hl⟩
     rcases List.mem_append.1 hm with hm | hm
     ·split at hm
      ·rename_i h4
       have := List.mem_singleton.1 hm
       cases this
       exact absurd ⟨rfl, h4⟩ hpush
      ·simp at hm
     ·rcases List.mem_cons.1 hm with hm | hm
      ·cases hm; exact .inl ⟨rfl, hl⟩
      ·exact .inr ⟨l', hm, hl⟩
    ·rintro (⟨rfl, hl⟩ | ⟨l', hm, hl⟩)
     ·exact ⟨name, by simp, hl⟩
     ·exact ⟨l', by simp [hm], hl⟩
   rw [hold]
   have himp : ((d' = dir ∧ name < n') ∨ (∃ l', (d', l') ∈ r' ∧ l' < n')) → seen d' n' ys = some true := by
    rintro (⟨rfl, hl⟩ | ⟨l', hm, hl⟩)
    ·exact (h.ina _ _ hn').2 ⟨l, hdm, List.lt_trans hlt hl⟩
    ·exact (h.ina _ _ hn').2 ⟨l', by rw [hrs]; simp [hm], hl⟩
   cases hse : seen d' n' ys with
   | none =>
     constructor
     ·intro hc; cases hc
     ·intro hc; rw [himp hc] at hse; cases hse
   | some i =>
     rw [seen1_some, if_neg hpush]
     cases i with
     | false =>
       constructor
       ·intro hc; simp at hc
       ·intro hc; rw [himp hc] at hse; cases hse
     | true =>
       rw [if_neg (by decide)]
       obtain ⟨l0, hm0, hl0⟩ := (h.ina _ _ hn').1 hse
       rw [hrs] at hm0
       rcases List.mem_append.1 hm0 with hm0 | hm0
       ·-- it is over
        have hb : belowB d' dir = true := hpre _ hm0
        have hd' : d' ≠ [] := by
         intro e; rw [e] at hb; have := below_len hb; simp at this
        have hnb : belowB x.path d' = false := by
         rw [Bool.eq_false_iff]
         intro hc
         rw [hj, join_below dir name d' hn h47 hd'] at hc
         rcases hc with rfl | hc
         ·exact absurd (below_len hb) (by omega)
         ·have h1 := below_len hb
          have h2 := below_len hc
          omega
        rw [if_pos hnb]
        constructor
        ·intro hc; cases hc
        ·rintro (⟨rfl, hl⟩ | ⟨l', hm, hl⟩)
         ·exact absurd (below_len hb) (by omega)
         ·have h2 := ChainR.below hchain (d', l') hm
          have h1 := below_len hb
          have h2 := below_len h2
          simp only at h2
          omega
       ·have hbel : belowB x.path d' = true := by
         rw [hj]
         rcases List.mem_cons.1 hm0 with hm0 | hm0
         ·cases hm0; exact below_join _ _ hn
         ·exact below_trans (below_join _ _ hn) (ChainR.below hchain (d', l0) hm0)
        rw [if_neg (by rw [hbel]; decide), hD]
        simp only
        rcases List.mem_cons.1 hm0 with hm0 | hm0
        ·cases hm0
         have hnr : ¬ ∃ l', (dir, l') ∈ r' ∧ l' < n' := by
          rintro ⟨l', hm, _⟩
          have := below_len (ChainR.below hchain (dir, l') hm)
          simp only at this
          omega
         simp only [hnr, or_false, true_and]
         by_cases hle : leS n' name = true
         ·rw [if_pos hle]
          constructor
          ·intro hc; cases hc
          ·intro hc; exact absurd hc (leS_true.1 hle)
         ·rw [if_neg hle]
          simp only [true_iff]
          exact leS_false.1 (by simpa using hle)
        ·have hne : dir ≠ d' := by
          intro e
          have := below_len (ChainR.below hchain (d', l0) hm0)
          simp only at this
          rw [e] at this
          omega
         rw [if_neg (fun hc => hne hc.1)]
         simp only [true_iff]
         exact .inr ⟨l0, hm0, hl0⟩
 ·intro o ho
  rcases List.mem_append.1 ho with ho | ho
  ·split at ho
   ·rename_i h4
    obtain rfl := List.mem_singleton.1 ho
    exact ⟨x, by simp, rfl, h4⟩
   ·simp at ho
  ·have : ∃ l', (o.1, l') ∈ rs := by
    rcases List.mem_cons.1 ho with rfl | ho
    ·exact ⟨l, by rw [hrs]; simp⟩
    ·exact ⟨o.2, by rw [hrs]; simp [ho]⟩
   obtain ⟨l', hm⟩ := this
   obtain ⟨y, hy, he⟩ := h.mem _ hm
   exact ⟨y, by simp [hy], he⟩
 ·intro y hy hne
  rcases List.mem_append.1 hy with hy | hy
  ·rw [seen_snoc, h.dead y hy hne]; rfl
  ·obtain rfl := List.mem_singleton.1 hy
   rw [hD]
   simp only
   rw [seen_snoc, hin, seen1_some]
   have h1 : ¬ (y.path = dir ∧ y.kind = 4) := by
    rintro ⟨e, _⟩
    have h1 := below_len (below_join dir name hn)
    rw [← hj, e] at h1
    omega
   rw [if_neg h1, if_neg (by decide)]
   split
   ·rfl
   ·rw [if_pos]
    rw [hD]
    exact ⟨rfl, leS_true.2 (List.lt_irrefl _)⟩
theorem come_step {p : List UInt8} {st : Opens} : (comeB p st).1 = true ↔ ∃ l r, Step p st.reverse l r := by
 rw [come_iff]
 constructor
 ·rintro ⟨l, r, h1, h2, h3, h4⟩; exact ⟨l, r, h1, h2, h3, h4⟩
 ·rintro ⟨l, r, h1, h2, h3, h4⟩; exact ⟨l, r, h1, h2, h3, h4⟩
theorem push_rev (x : Node) (st : Opens) (q : List UInt8 × List UInt8) (r : Opens) : (pushD x ((q :: r).reverse)).reverse = (if x.kind = 4 then [(x.path, [])] else []) ++ q :: r := by
 unfold pushD; split <;> simp
theorem Inv.come {ys : List Node} {st : Opens} (h : Inv ys st.reverse) {x : Node} (hc : (comeB x.path st).1 = true) : Inv (ys ++ [x]) (pushD x (comeB x.path st).2).reverse := by
 obtain ⟨l, r, hs⟩ := come_step.1 hc
 rw [come_snd hc hs.find, push_rev _ st]
 exact h.step hs
def Leafy : List Node → Prop
 | y :: z :: r => (y.kind ≠ 4 → belowB z.path y.path = false) ∧ Leafy (z :: r)
 | _ => True
def KindOk (x : Node) : Prop := x.kind = 1 ∨ x.kind = 2 ∨ x.kind = 3 ∨ x.kind = 4
theorem dataB_kind {k : Int} {s : List UInt8} (h : dataB k s = true) : k = 1 ∨ k = 2 ∨ k = 3 ∨ k = 4 := by
 unfold dataB at h
 by_cases h3 : k = 3
 ·omega
 ·rw [if_neg h3] at h
  by_cases h4 : k = 4
  ·omega
  ·rw [if_neg h4] at h
   by_cases h1 : k = 1 ∨ k = 2
   ·omega
   ·rw [if_neg h1] at h; cases h
theorem Step.facts {p : List UInt8} {st : Opens} {l : List UInt8} {r : Opens} (hs : Step p st.reverse l r) (hch : ChainR st.reverse) :
 p ≠ [] ∧ p = joinP (dirOf p).1 (dirOf p).2 ∧ (47 : UInt8) ∉ (dirOf p).2 ∧ (dirOf p).2 ≠ [] ∧ ((dirOf p).1, l) ∈ st ∧ ChainR (((dirOf p).1, l) :: r) := by
 obtain ⟨hj, h47⟩ := join_dirOf p hs.head
 have hn := nameB_ne hs.name
 have hdm : ((dirOf p).1, l) ∈ st.reverse := by
  have := hs.find
  exact (List.dropWhile_sublist _).subset (by rw [this]; simp)
 obtain ⟨pre, r', hrs, hpre, hf⟩ := hch.find hdm
 obtain rfl : r' = r := by have := hs.find; rw [hf] at this; exact (List.cons.inj this).2
 refine ⟨by rw [hj]; exact join_ne _ _ hn, hj, h47, hn, List.mem_reverse.1 hdm, ?_⟩
 rw [hrs] at hch
 exact hch.drop
theorem wrong_leafy : ∀ (r ys : List Node) (k : Nat) (st : Opens) (y : Node), wrongGo r k st = -1 → 0 < k → Inv ys st.reverse → (y.kind ≠ 4 → ∀ o ∈ st, belowB y.path o.1 = true) →
 Leafy (y :: r) ∧ ∀ z ∈ r, z.path ≠ [] ∧ KindOk z
 | [], _, _, _, _, _, _, _, _ => ⟨trivial, by simp⟩
 | z :: r, ys, k, st, y, hw, hk, hi, hy => by
   unfold wrongGo at hw
   cases ho : nodeOk k z st with
   | none => rw [ho] at hw; simp only at hw; omega
   | some st' =>
     rw [ho] at hw
     simp only at hw
     unfold nodeOk at ho
     by_cases h0 : k = 30 ∨ dataB z.kind z.data = false
     ·rw [if_pos h0] at ho; cases ho
     ·rw [if_neg h0, if_neg (show ¬ k = 0 by omega)] at ho
      by_cases hc : (comeB z.path st).1 = true ∧ (comeB z.path st).2.length ≤ 5
      ·rw [if_pos hc] at ho
       obtain rfl : (comeB z.path st).2 = st' := Option.some.inj ho
       have hi2 := hi.come hc.1
       obtain ⟨l, q, hs⟩ := come_step.1 hc.1
       obtain ⟨hne, hj, h47, hn, hm, hch⟩ := hs.facts hi.chain
       have hkind : KindOk z := dataB_kind (s := z.data) (by cases hd : dataB z.kind z.data with
        | true => rfl
        | false => exact absurd (.inr hd) h0)
       have ih := wrong_leafy r (ys ++ [z]) (k + 1) (pushD z (comeB z.path st).2) z hw (by omega) hi2 (by
        intro h4 o ho
        have : pushD z (comeB z.path st).2 = (comeB z.path st).2 := by unfold pushD; rw [if_neg h4]
        rw [this, come_snd hc.1 hs.find, List.mem_reverse] at ho
        rw [hj]
        rcases List.mem_cons.1 ho with rfl | ho
        ·exact below_join _ _ hn
        ·exact below_trans (below_join _ _ hn) (hch.below o ho))
       refine ⟨⟨fun h4 => ?_, ih.1⟩, ?_⟩
       ·have hb := hy h4 _ hm
        simp only at hb
        have hy0 : y.path ≠ [] := by
         intro e; rw [e] at hb
         have := below_len hb
         simp at this
        rw [Bool.eq_false_iff]
        intro hc2
        rw [hj, join_below _ _ _ hn h47 hy0] at hc2
        rcases hc2 with e | hc2
        ·rw [← e] at hb; exact absurd (below_len hb) (by omega)
        ·have h1 := below_len hb
         have h2 := below_len hc2
         omega
       ·intro z' hz'
        rcases List.mem_cons.1 hz' with rfl | hz'
        ·exact ⟨hne, hkind⟩
        ·exact ih.2 z' hz'
      ·rw [if_neg hc] at ho; cases ho
structure Treeish (x : Node) (r : List Node) : Prop where
 root : x.path = []
 kind : KindOk x
 leafy : Leafy (x :: r)
 rest : ∀ z ∈ r, z.path ≠ [] ∧ KindOk z
theorem wrong_tree {l : List Node} (h : wrongL l = -1) : ∃ x r, l = x :: r ∧ Treeish x r := by
 unfold wrongL at h
 cases l with
 | nil => simp at h
 | cons x r =>
   rw [if_neg (by simp)] at h
   unfold wrongGo at h
   cases ho : nodeOk 0 x [] with
   | none => rw [ho] at h; simp at h
   | some st' =>
     rw [ho] at h
     simp only at h
     unfold nodeOk at ho
     by_cases h0 : 0 = 30 ∨ dataB x.kind x.data = false
     ·rw [if_pos h0] at ho; cases ho
     ·rw [if_neg h0, if_pos rfl] at ho
      by_cases hp : x.path = [] ∧ ([] : Opens).length ≤ 5
      ·rw [if_pos hp] at ho
       obtain rfl : [] = st' := Option.some.inj ho
       have hl := wrong_leafy r [x] 1 (pushD x []) x h (by omega) (Inv.root x hp.1) (by
        intro h4 o ho
        have : pushD x [] = [] := by unfold pushD; rw [if_neg h4]
        rw [this] at ho
        simp at ho)
       exact ⟨x, r, rfl, hp.1, dataB_kind (s := x.data) (by cases hd : dataB x.kind x.data with
        | true => rfl
        | false => exact absurd (.inr hd) h0), hl.1, hl.2⟩
      ·rw [if_neg hp] at ho; cases ho
theorem under_below (p d : List UInt8) : underB p d = belowB p d := by
 unfold underB belowB preB
 by_cases h : d = []
 ·subst h
  cases p <;> simp
 ·rw [if_neg h]
  have hd : d.isEmpty = false := by cases d <;> simp at h ⊢
  rw [hd]
  simp only [Bool.false_or, List.length_append, List.length_cons, List.length_nil, Nat.zero_add]
  by_cases h2 : p.take (d.length + 1) = d ++ [47]
  ·have hl : d.length < p.length := by
    have := congrArg List.length h2
    simp at this
    omega
   have hne : p ≠ d := by intro e; rw [e] at hl; omega
   simp [h2, hl, hne]
  ·have h3 : (p.take (d.length + 1) == d ++ [47]) = false := by rw [beq_eq_false_iff_ne]; exact h2
   rw [h3, Bool.and_false, Bool.and_false]
theorem base_dir (p : List UInt8) : baseL p = (dirOf p).2 := by
 unfold baseL dirOf lastIdx
 rcases lastAt_spec p 47 p.length with ⟨h1, h2⟩ | ⟨j, h1, h2, h3, h4⟩
 ·rw [if_neg (by omega), show (lastAt p 47 p.length + 1).toNat = 0 by omega]; rfl
 ·rw [h1, if_pos (by omega)]
  rfl
theorem unwind_not {p d : List UInt8} {st : List (List UInt8)} (h : belowB p d = false) : unwind p (d :: st) = (closeT st ++ (unwind p st).1, (unwind p st).2) := by
 rw [unwind, under_below, h]; rfl
theorem unwind_yes {p d : List UInt8} {st : List (List UInt8)} (h : belowB p d = true) : unwind p (d :: st) = ([], d :: st) := by
 rw [unwind, under_below, h]; rfl
section
variable {α : Type} (p q : α → Bool) (hpq : ∀ x, p x = true → q x = true)
theorem tw_tw : ∀ l : List α, (∀ x, p x = true → q x = true) → (l.takeWhile q).takeWhile p = l.takeWhile p
 | [], _ => rfl
 | x :: r, h => by
   by_cases hp : p x = true
   ·rw [List.takeWhile_cons_of_pos (h x hp), List.takeWhile_cons_of_pos hp, List.takeWhile_cons_of_pos hp, tw_tw r h]
   ·rw [List.takeWhile_cons_of_neg hp]
    by_cases hq : q x = true
    ·rw [List.takeWhile_cons_of_pos hq, List.takeWhile_cons_of_neg hp]
    ·rw [List.takeWhile_cons_of_neg hq]; rfl
theorem dw_tw : ∀ l : List α, (∀ x, p x = true → q x = true) → (l.takeWhile q).dropWhile p = (l.dropWhile p).takeWhile q
 | [], _ => rfl
 | x :: r, h => by
   by_cases hp : p x = true
   ·rw [List.takeWhile_cons_of_pos (h x hp), List.dropWhile_cons_of_pos hp, List.dropWhile_cons_of_pos hp, dw_tw r h]
   ·rw [List.dropWhile_cons_of_neg hp]
    by_cases hq : q x = true
    ·rw [List.takeWhile_cons_of_pos hq, List.dropWhile_cons_of_neg hp]
    ·rw [List.takeWhile_cons_of_neg hq]; rfl
theorem dw_dw : ∀ l : List α, (∀ x, p x = true → q x = true) → (l.dropWhile p).dropWhile q = l.dropWhile q
 | [], _ => rfl
 | x :: r, h => by
   by_cases hp : p x = true
   ·rw [List.dropWhile_cons_of_pos hp, List.dropWhile_cons_of_pos (h x hp), dw_dw r h]
   ·rw [List.dropWhile_cons_of_neg hp]
end
theorem tw_all {α : Type} (p : α → Bool) : ∀ l : List α, (∀ x ∈ l, p x = true) → l.takeWhile p = l
 | [], _ => rfl
 | x :: r, h => by rw [List.takeWhile_cons_of_pos (h x (by simp)), tw_all p r fun y hy => h y (by simp [hy])]
theorem dw_all {α : Type} (p : α → Bool) : ∀ l : List α, (∀ x ∈ l, p x = true) → l.dropWhile p = []
 | [], _ => rfl
 | x :: r, h => by rw [List.dropWhile_cons_of_pos (h x (by simp)), dw_all p r fun y hy => h y (by simp [hy])]
theorem Leafy.tail {y : Node} {r : List Node} (h : Leafy (y :: r)) : Leafy r := by
 cases r with
 | nil => trivial
 | cons z r => exact h.2
theorem Leafy.drop {a r : List Node} (h : Leafy (a ++ r)) : Leafy r := by
 induction a with
 | nil => exact h
 | cons x a ih => exact ih (Leafy.tail h)
theorem dw_suffix {α : Type} (p : α → Bool) (l : List α) : ∃ a, l = a ++ l.dropWhile p := ⟨l.takeWhile p, List.takeWhile_append_dropWhile.symm⟩
theorem Leafy.dw {r : List Node} (p : Node → Bool) (h : Leafy r) : Leafy (r.dropWhile p) := by
 obtain ⟨a, ha⟩ := dw_suffix p r
 rw [ha] at h
 exact h.drop
theorem putAll_one (s : List UInt8) : putAll [s] = putL s := by simp [putAll]
theorem leaf_eq (kd : Int) (da : List UInt8) (h : kd = 1 ∨ kd = 2 ∨ kd = 3) : leafT kd da = leafR kd da ++ putL [41] := by
 unfold leafT leafR
 rcases h with rfl | rfl | rfl <;> simp [putAll]
theorem packGo_k : ∀ (r : List Node) (k j : Nat) (st : List (List UInt8)), 0 < k → 0 < j → packGo r k st = packGo r j st
 | [], _, _, _, _, _ => rfl
 | n :: r, k, j, st, hk, hj => by
   rw [packGo, packGo]
   have h1 : headT k n.path = headT j n.path := by unfold headT; rw [if_neg (by omega), if_neg (by omega)]
   have h2 : tailT k = tailT j := by unfold tailT; rw [if_neg (by omega), if_neg (by omega)]
   rw [h1, h2, packGo_k r (k + 1) (j + 1) _ (by omega) (by omega), packGo_k r (k + 1) (j + 1) _ (by omega) (by omega)]
theorem pack_forest : ∀ (m : Nat) (r : List Node) (k : Nat) (d : List UInt8) (st : List (List UInt8)), r.length ≤ m → 0 < k → Leafy r → (∀ z ∈ r, KindOk z) →
 packGo r k (d :: st) = forest (r.takeWhile fun z => belowB z.path d) ++ (closeT st ++ packGo (r.dropWhile fun z => belowB z.path d) k st)
 | _, [], k, d, st, _, _, _, _ => rfl
 | 0, _ :: _, _, _, _, hm, _, _, _ => by simp at hm
 | m + 1, n :: r, k, d, st, hm, hk, hl, hko => by
   simp only [List.length_cons] at hm
   cases hb : belowB n.path d with
   | false =>
     rw [List.takeWhile_cons_of_neg (by simp [hb]), List.dropWhile_cons_of_neg (by simp [hb])]
     show packGo (n :: r) k (d :: st) = closeT st ++ packGo (n :: r) k st
     rw [packGo, packGo, unwind_not hb]
     simp
   | true =>
     have htr : ∀ z : Node, belowB z.path n.path = true → belowB z.path d = true := fun z h => below_trans h hb
     rw [List.takeWhile_cons_of_pos (by simp [hb]), List.dropWhile_cons_of_pos (by simp [hb]), forest_cons, packGo, unwind_yes hb]
     rw [tw_tw _ _ _ htr, dw_tw _ _ _ htr]
     have hh : headT k n.path = entryT n := by unfold headT entryT; rw [if_neg (by omega), base_dir]
     have hko2 : ∀ z ∈ r.dropWhile (fun z => belowB z.path n.path), KindOk z := fun z hz => hko z (List.mem_cons_of_mem _ ((List.dropWhile_sublist _).subset hz))
     have hle := (List.dropWhile_sublist (l := r) (fun z => belowB z.path n.path)).length_le
     rw [hh]
     by_cases h4 : n.kind = 4
     ·rw [if_pos h4, pack_forest m r (k + 1) n.path (d :: st) (by omega) (by omega) hl.tail (fun z hz => hko z (List.mem_cons_of_mem _ hz)),
       pack_forest m (r.dropWhile fun z => belowB z.path n.path) (k + 1) d st (by omega) (by omega) (hl.tail.dw _) hko2, dw_dw _ _ _ htr]
      unfold nodeR typeT
      rw [if_neg (by omega)]
      rw [show closeT (d :: st) = putL [41] ++ putL [41] by simp [closeT, putAll_one]]
      rw [putAll_one]
      have hkk : packGo (r.dropWhile fun z => belowB z.path d) (k + 1) st = packGo (r.dropWhile fun z => belowB z.path d) k st := by
       exact packGo_k _ _ _ _ (by omega) hk
      rw [hkk]
      simp
     ·rw [if_neg h4]
      have hkd := hko n (List.mem_cons_self ..)
      have hkd : n.kind = 1 ∨ n.kind = 2 ∨ n.kind = 3 := by rcases hkd with h | h | h | h <;> omega
      have htw : r.takeWhile (fun z => belowB z.path n.path) = [] := by
       cases r with
       | nil => rfl
       | cons z r => rw [List.takeWhile_cons_of_neg (by simp [hl.1 h4])]
      have hdw : r.dropWhile (fun z => belowB z.path n.path) = r := by
       have := List.takeWhile_append_dropWhile (p := fun z : Node => belowB z.path n.path) (l := r)
       rw [htw] at this
       exact this
      rw [hdw, pack_forest m r (k + 1) d st (by omega) (by omega) hl.tail (fun z hz => hko z (List.mem_cons_of_mem _ hz))]
      have hkk : packGo (r.dropWhile fun z => belowB z.path d) (k + 1) st = packGo (r.dropWhile fun z => belowB z.path d) k st := by
       exact packGo_k _ _ _ _ (by omega) hk
      rw [hkk]
      unfold nodeR typeT tailT
      rw [if_pos hkd, if_neg (by omega), leaf_eq _ _ hkd, putAll_one]
      simp
theorem pack_ref {l : List Node} (h : wrongL l = -1) : packP l = putL [110, 97, 114, 45, 49] ++ refPackL l := by
 obtain ⟨x, r, rfl, ht⟩ := wrong_tree h
 unfold packP refPackL
 rw [putAll_one, packGo]
 congr 1
 have hall : ∀ z ∈ r, belowB z.path x.path = true := by
  intro z hz
  rw [ht.root, below_iff]
  exact .inl ⟨rfl, (ht.rest z hz).1⟩
 by_cases h4 : x.kind = 4
 ·rw [if_pos h4]
  have h2 : (unwind x.path []) = ([], []) := rfl
  rw [h2]
  simp only
  rw [pack_forest r.length r 1 x.path [] (Nat.le_refl _) (by omega) ht.leafy.tail (fun z hz => (ht.rest z hz).2)]
  have e1 : r.takeWhile (fun z => belowB z.path x.path) = r := tw_all _ _ hall
  have e2 : r.dropWhile (fun z => belowB z.path x.path) = [] := dw_all _ _ hall
  rw [e1, e2]
  unfold nodeR typeT
  rw [if_neg (by omega)]
  simp [headT, closeT, packGo, unwindAll, putAll_one]
 ·rw [if_neg h4]
  have hr : r = [] := by
   cases r with
   | nil => rfl
   | cons z r =>
     have := ht.leafy.1 h4
     rw [hall z (by simp)] at this
     cases this
  subst hr
  have hkd : x.kind = 1 ∨ x.kind = 2 ∨ x.kind = 3 := by rcases ht.kind with h | h | h | h <;> omega
  show _ = nodeR x (forest [])
  unfold nodeR typeT
  rw [if_pos hkd, leaf_eq _ _ hkd]
  simp [headT, tailT, packGo, unwindAll, unwind]
end Go.Proofs.YtdkogijdfgfpeaaGreatDoor
