/- Plain: what paths lead to, in order: complete, each once, references ahead. -/
import Derived.Test.YtdkogijdfgfpeaaGreatDoorVPackw
import Derived.Test.YtdkogijdfgfpeaaGreatDoorVMap
set_option linter.unusedVariables false
namespace Go.Proofs.YtdkogijdfgfpeaaGreatDoor
open Go Go.RowKit
theorem closF_same {L : Ents} {a b : List (List UInt8)} (h : ∀ p, a.contains p = b.contains p) : ∀ (f : Nat) (out : List (List UInt8)), closF L a f out = closF L b f out
 | 0, _ => rfl
 | f + 1, out => by
   have hr : readyB L a out = readyB L b out := by
    funext e
    unfold readyB
    rw [h]
   unfold closF
   rw [hr]
   cases L.find? (readyB L b out) with
   | none => rfl
   | some e => exact closF_same h f _
theorem ready_iff {L : Ents} {all out : List (List UInt8)} {e : Ent} : readyB L all out e = true ↔ e.path ∈ all ∧ e.path ∉ out ∧ ∀ r ∈ e.refs, r = e.path ∨ r ∈ out := by
 unfold readyB
 simp only [Bool.and_eq_true, Bool.not_eq_true', List.all_eq_true, Bool.or_eq_true, beq_iff_eq, List.contains_iff_mem]
 constructor
 ·rintro ⟨⟨h1, h2⟩, h3⟩
  exact ⟨h1, by simpa using h2, h3⟩
 ·rintro ⟨h1, h2, h3⟩
  exact ⟨⟨h1, by simpa using h2⟩, h3⟩
structure Told (L : Ents) (all out : List (List UInt8)) : Prop where
 once : out.Nodup
 all : ∀ p ∈ out, p ∈ all
 ahead : ∀ a p b, out = a ++ p :: b → ∃ e ∈ L, e.path = p ∧ ∀ r ∈ e.refs, r = p ∨ r ∈ a
theorem Told.nil (L : Ents) (all : List (List UInt8)) : Told L all [] := ⟨by simp, by simp, fun a p b h => by simp at h⟩
theorem snoc_split {α : Type} {out a b : List α} {x p : α} (h : out ++ [x] = a ++ p :: b) : (∃ b', out = a ++ p :: b') ∨ (out = a ∧ x = p) := by
 rcases List.eq_nil_or_concat b with rfl | ⟨b', y, rfl⟩
 ·right
  have := List.append_inj' h (by simp)
  exact ⟨this.1, by simpa using this.2⟩
 ·left
  rw [List.concat_eq_append] at h
  have e : out ++ [x] = (a ++ p :: b') ++ [y] := by simpa using h
  exact ⟨b', (List.append_inj' e (by simp)).1⟩
theorem Told.step {L : Ents} {all out : List (List UInt8)} (h : Told L all out) {e : Ent} (he : e ∈ L) (hr : readyB L all out e = true) : Told L all (out ++ [e.path]) := by
 obtain ⟨h1, h2, h3⟩ := ready_iff.1 hr
 refine ⟨?_, fun p hp => ?_, fun a p b hs => ?_⟩
 ·rw [List.nodup_append]
  exact ⟨h.once, by simp, fun a ha b hb e2 => h2 (by rw [List.mem_singleton] at hb; rw [← hb, ← e2]; exact ha)⟩
 ·rcases List.mem_append.1 hp with hp | hp
  ·exact h.all p hp
  ·obtain rfl := List.mem_singleton.1 hp
   exact h1
 ·rcases snoc_split hs with ⟨b', hb⟩ | ⟨rfl, rfl⟩
  ·exact h.ahead a p b' hb
  ·exact ⟨e, he, rfl, h3⟩
theorem nodup_len {α : Type} [DecidableEq α] : ∀ (a l : List α), a.Nodup → (∀ x ∈ a, x ∈ l) → a.length ≤ l.length
 | [], _, _, _ => Nat.zero_le _
 | x :: a, l, hn, hs => by
   obtain ⟨h1, h2⟩ := List.nodup_cons.1 hn
   have hx := hs x (List.mem_cons_self ..)
   have := nodup_len a (l.erase x) h2 fun y hy => by
    have hne : y ≠ x := fun e => h1 (by rw [← e]; exact hy)
    exact (List.mem_erase_of_ne hne).2 (hs y (List.mem_cons_of_mem _ hy))
   rw [List.length_erase_of_mem hx] at this
   have hpos := List.length_pos_of_mem hx
   simp only [List.length_cons]
   omega
theorem toldc_len {L : Ents} {all out : List (List UInt8)} (h : Told L all out) : out.length ≤ L.length := by
 have hsub : ∀ p ∈ out, p ∈ L.map Ent.path := fun p hp => by
  obtain ⟨a, b, hab⟩ := List.append_of_mem hp
  obtain ⟨e, he, hep, -⟩ := h.ahead a p b hab
  exact List.mem_map.2 ⟨e, he, hep⟩
 have := nodup_len _ _ h.once hsub
 simpa using this
theorem closF_told {L : Ents} {all : List (List UInt8)} : ∀ (f : Nat) (out : List (List UInt8)), Told L all out → Told L all (closF L all f out) ∧ (L.length < f + out.length → L.find? (readyB L all (closF L all f out)) = none)
 | 0, out, h => ⟨h, fun hl => by have := toldc_len h; omega⟩
 | f + 1, out, h => by
   unfold closF
   cases hf : L.find? (readyB L all out) with
   | none => exact ⟨h, fun _ => hf⟩
   | some e =>
     have hs := h.step (List.mem_of_find?_eq_some hf) (List.find?_some hf)
     obtain ⟨q1, q2⟩ := closF_told f _ hs
     exact ⟨q1, fun hl => q2 (by simp; omega)⟩
def closL (L : Ents) (all : List (List UInt8)) : List (List UInt8) := closF L all (L.length + 1) []
theorem closL_told (L : Ents) (all : List (List UInt8)) : Told L all (closL L all) := (closF_told _ _ (Told.nil _ _)).1
theorem getM_put (m : MapL) (k : List UInt8) (v : Value) (j : List UInt8) : getM (putM m k v) j = if j = k then some v else getM m j := by
 unfold putM
 cases hk : getM m k with
 | none =>
   simp only [Option.isSome_none, Bool.false_eq_true, if_false]
   unfold getM at *
   rw [List.find?_append]
   by_cases hj : j = k
   ·subst hj
    rw [if_pos rfl, Option.map_eq_none_iff.1 hk]
    simp
   ·rw [if_neg hj]
    have : ([(k, v)] : MapL).find? (fun x => x.1 == j) = none := by
     rw [List.find?_eq_none]
     simp
     exact fun e => hj e.symm
    rw [this]
    simp
 | some u =>
   simp only [Option.isSome_some, if_true]
   unfold setM
   unfold getM at *
   rw [List.find?_map, Option.map_map]
   have h1 : ((fun x : List UInt8 × Value => x.1 == j) ∘ fun x => if x.1 = k then (x.1, v) else x) = fun x => x.1 == j := by
    funext x
    simp only [Function.comp]
    split <;> rfl
   rw [h1]
   by_cases hj : j = k
   ·subst hj
    rw [if_pos rfl]
    cases hf : m.find? (fun x => x.1 == j) with
    | none => rw [hf] at hk; cases hk
    | some x =>
      have := List.find?_some hf
      simp only [beq_iff_eq] at this
      simp [this]
   ·rw [if_neg hj]
    cases hf : m.find? (fun x => x.1 == j) with
    | none => rfl
    | some x =>
      have := List.find?_some hf
      simp only [beq_iff_eq] at this
      have h2 : ¬ x.1 = k := fun e => hj (this.symm.trans e)
      simp [h2]
def ivn (n : Nat) : Value := .int .i64 n
def cntE (e : Ent) : Nat := (e.refs.filter fun r => r != e.path).length
def InM (N : MapL) (k : List UInt8) : Prop := ∃ v, getM N k = some v
theorem inM_none {N : MapL} {k : List UInt8} : getM N k = none ↔ ¬ InM N k := by
 unfold InM
 cases getM N k <;> simp
def ShutX (L : Ents) (X : List UInt8 → Prop) : Prop := ∀ e ∈ L, X e.path → ∀ r ∈ e.refs, X r
structure Grew (L : Ents) (name : List UInt8) (N N' : MapL) : Prop where
 old : ∀ k v, getM N k = some v → getM N' k = some v
 new : ∀ k, ¬ InM N k → InM N' k → ∃ e ∈ L, e.path = k ∧ getM N' k = some (ivn (cntE e)) ∧ ∀ r ∈ e.refs, InM N' r
 least : ∀ X, ShutX L X → X name → ∀ k, InM N' k → InM N k ∨ X k
 it : InM N' name
theorem Grew.same {L : Ents} {name : List UInt8} {N : MapL} (h : InM N name) : Grew L name N N := ⟨fun _ _ h => h, fun k h1 h2 => absurd h2 h1, fun _ _ _ k h => .inl h, h⟩
structure Going (L : Ents) (e : Ent) (N N2 : MapL) (j : Nat) : Prop where
 fresh : ¬ InM N e.path
 old : ∀ k v, getM N k = some v → getM N2 k = some v
 it : getM N2 e.path = some (ivn ((e.refs.take j).filter fun r => r != e.path).length)
 new : ∀ k, k ≠ e.path → ¬ InM N k → InM N2 k → ∃ x ∈ L, x.path = k ∧ getM N2 k = some (ivn (cntE x)) ∧ ∀ r ∈ x.refs, InM N2 r
 refs : ∀ r ∈ e.refs.take j, InM N2 r
 least : ∀ X, ShutX L X → X e.path → ∀ k, InM N2 k → InM N k ∨ X k
theorem Going.start {L : Ents} {e : Ent} {N : MapL} (h : getM N e.path = none) : Going L e N (putM N e.path (ivn 0)) 0 := by
 have hf := inM_none.1 h
 refine ⟨hf, fun k v hk => ?_, by rw [getM_put, if_pos rfl]; simp, fun k hk hn hi => ?_, by simp, fun X _ hX k hi => ?_⟩
 ·rw [getM_put, if_neg (fun e2 => by rw [e2, h] at hk; cases hk)]
  exact hk
 ·obtain ⟨v, hv⟩ := hi
  rw [getM_put, if_neg hk] at hv
  exact absurd ⟨v, hv⟩ hn
 ·by_cases hk : k = e.path
  ·rw [hk]; exact .inr hX
  ·obtain ⟨v, hv⟩ := hi
   rw [getM_put, if_neg hk] at hv
   exact .inl ⟨v, hv⟩
theorem Going.self {L : Ents} {e : Ent} {N N2 : MapL} {j : Nat} (h : Going L e N N2 j) (hr : e.refs[j]? = some e.path) : Going L e N N2 (j + 1) := by
 refine ⟨h.fresh, h.old, ?_, h.new, fun r hr2 => ?_, h.least⟩
 ·rw [h.it, List.take_add_one, hr]
  simp
 ·rw [List.take_add_one, hr, List.mem_append] at hr2
  rcases hr2 with hr2 | hr2
  ·exact h.refs r hr2
  ·simp only [Option.toList_some, List.mem_singleton] at hr2
   rw [hr2]
   exact ⟨_, h.it⟩
theorem Going.step {L : Ents} {e : Ent} {N N2 N4 : MapL} {j : Nat} {r : List UInt8} (h : Going L e N N2 j) (he : e ∈ L) (hr : e.refs[j]? = some r) (hne : r ≠ e.path)
 (hg : Grew L r (putM N2 e.path (ivn (((e.refs.take j).filter fun r => r != e.path).length + 1))) N4) : Going L e N N4 (j + 1) := by
 have hin : ∀ k, InM N2 k → InM N4 k := fun k hk => by
  by_cases hke : k = e.path
  ·exact ⟨_, hg.old k _ (by rw [getM_put, if_pos hke])⟩
  ·obtain ⟨v, hv⟩ := hk
   exact ⟨v, hg.old k v (by rw [getM_put, if_neg hke]; exact hv)⟩
 have hinp : ∀ k, InM (putM N2 e.path (ivn (((e.refs.take j).filter fun r => r != e.path).length + 1))) k → InM N2 k := fun k ⟨v, hv⟩ => by
  rw [getM_put] at hv
  by_cases hke : k = e.path
  ·rw [hke]; exact ⟨_, h.it⟩
  ·rw [if_neg hke] at hv
   exact ⟨v, hv⟩
 refine ⟨h.fresh, fun k v hk => ?_, ?_, fun k hk hn hi => ?_, fun q hq => ?_, fun X hs hX k hi => ?_⟩
 ·have hke : k ≠ e.path := fun e2 => h.fresh (by rw [← e2]; exact ⟨v, hk⟩)
  exact hg.old k v (by rw [getM_put, if_neg hke]; exact h.old k v hk)
 ·rw [hg.old e.path _ (by rw [getM_put, if_pos rfl]), List.take_add_one, hr]
  have : (r != e.path) = true := by simpa using hne
  simp [this]
 ·by_cases hk2 : InM N2 k
  ·obtain ⟨x, hx, hxp, hv, hxr⟩ := h.new k hk hn hk2
   exact ⟨x, hx, hxp, hg.old k _ (by rw [getM_put, if_neg hk]; exact hv), fun r hr => hin r (hxr r hr)⟩
  ·exact hg.new k (fun h => hk2 (hinp k h)) hi
 ·rw [List.take_add_one, hr, List.mem_append] at hq
  rcases hq with hq | hq
  ·exact hin q (h.refs q hq)
  ·simp only [Option.toList_some, List.mem_singleton] at hq
   rw [hq]
   exact hg.it
 ·have hXr : X r := hs e he hX r (List.mem_of_getElem? hr)
  rcases hg.least X hs hXr k hi with h1 | h1
  ·exact h.least X hs hX k (hinp k h1)
  ·exact .inr h1
theorem Going.done {L : Ents} {e : Ent} {N N2 : MapL} {j : Nat} (h : Going L e N N2 j) (he : e ∈ L) (hj : j = e.refs.length) : Grew L e.path N N2 := by
 subst hj
 have h1 := h.it
 have h2 := h.refs
 rw [List.take_length] at h1 h2
 refine ⟨h.old, fun k hn hi => ?_, h.least, ⟨_, h1⟩⟩
 by_cases hk : k = e.path
 ·subst hk
  exact ⟨e, he, rfl, h1, h2⟩
 ·exact h.new k hk hn hi
def freeN (L : Ents) (N : MapL) : Nat := L.countP fun e => (getM N e.path).isNone
theorem freeN_le {L : Ents} {N N' : MapL} (h : ∀ k v, getM N k = some v → InM N' k) : freeN L N' ≤ freeN L N := by
 unfold freeN
 refine List.countP_mono_left fun x _ hx => ?_
 cases hg : getM N x.path with
 | none => rfl
 | some v =>
   obtain ⟨u, hu⟩ := h _ _ hg
   rw [hu] at hx
   cases hx
theorem freeN_lt {L : Ents} {N N' : MapL} (h : ∀ k v, getM N k = some v → InM N' k) {e : Ent} (he : e ∈ L) (hn : getM N e.path = none) (hi : InM N' e.path) : freeN L N' + 1 ≤ freeN L N := by
 unfold freeN
 induction L with
 | nil => cases he
 | cons x r ih =>
   rw [List.countP_cons, List.countP_cons]
   have h1 : r.countP (fun e => (getM N' e.path).isNone) ≤ r.countP fun e => (getM N e.path).isNone := freeN_le h
   rcases List.mem_cons.1 he with rfl | he
   ·obtain ⟨v, hv⟩ := hi
    rw [hn, hv]
    simp
    omega
   ·have h2 := ih he
    have h3 : (if (getM N' x.path).isNone = true then 1 else 0) ≤ (if (getM N x.path).isNone = true then 1 else 0) := by
     cases hg : getM N x.path with
     | none => split <;> simp
     | some v =>
       obtain ⟨u, hu⟩ := h _ _ hg
       rw [hu]
       simp
    omega
def leT (a b : List UInt8) : Prop := Op.bytesLess b a = false
theorem leT_refl (a : List UInt8) : leT a a := bytesLess_irrefl a
theorem leT_of_less {a b : List UInt8} (h : Op.bytesLess a b = true) : leT a b := by
 unfold leT
 cases hb : Op.bytesLess b a with
 | false => rfl
 | true =>
   have := bytesLess_trans h hb
   rw [bytesLess_irrefl] at this
   cases this
theorem leT_trans {a b c : List UInt8} (h1 : leT a b) (h2 : leT b c) : leT a c := by
 unfold leT at *
 cases hc : Op.bytesLess c a with
 | false => rfl
 | true =>
   exfalso
   by_cases hab : a = b
   ·rw [hab, h2] at hc; cases hc
   ·have hab2 : Op.bytesLess a b = true := bytesLess_total h1 fun e => hab e.symm
    have := bytesLess_trans hc hab2
    rw [h2] at this
    cases this
def gT (l : List (List UInt8)) (k : Nat) : List UInt8 := l.getD k []
def swapT (l : List (List UInt8)) (i j : Nat) : List (List UInt8) := (l.set i (gT l j)).set j (gT l i)
theorem gT_at {l : List (List UInt8)} {k : Nat} (h : k < l.length) : gT l k = l[k] := by simp [gT, List.getD_eq_getElem?_getD, List.getElem?_eq_getElem h]
theorem swapT_length (l : List (List UInt8)) (i j : Nat) : (swapT l i j).length = l.length := by simp [swapT]
theorem gT_swap {l : List (List UInt8)} {i j : Nat} (hi : i < l.length) (hj : j < l.length) (k : Nat) : gT (swapT l i j) k = if k = j then gT l i else if k = i then gT l j else gT l k := by
 unfold gT swapT
 simp only [List.getD_eq_getElem?_getD, List.getElem?_set, List.length_set]
 by_cases h1 : k = j
 ·subst h1
  simp [hj, gT]
 ·by_cases h2 : k = i
  ·subst h2
   have : ¬ j = k := fun e => h1 e.symm
   simp [h1, this, hi, gT]
  ·have h3 : ¬ j = k := fun e => h1 e.symm
   have h4 : ¬ i = k := fun e => h2 e.symm
   simp [h1, h2, h3, h4]
theorem swapT_perm {l : List (List UInt8)} {i j : Nat} (hi : i < l.length) (hj : j < l.length) : (swapT l i j).Perm l := by
 have h := Array.swap_perm (xs := l.toArray) (i := i) (j := j) (by simpa using hi) (by simpa using hj)
 have h2 := Array.perm_iff_toList_perm.1 h
 have h3 : (l.toArray.swap i j (by simpa using hi) (by simpa using hj)).toList = swapT l i j := by
  unfold swapT
  rw [gT_at hi, gT_at hj]
  simp [Array.swap]
 rw [h3] at h2
 simpa using h2
def HeapN (l : List (List UInt8)) (n : Nat) : Prop := ∀ k, k < n → 0 < k → leT (gT l ((k - 1) / 2)) (gT l k)
def UpInv (l : List (List UInt8)) (n j : Nat) : Prop := (∀ k, k < n → 0 < k → k ≠ j → leT (gT l ((k - 1) / 2)) (gT l k)) ∧ ∀ c, c < n → 0 < c → (c - 1) / 2 = j → 0 < j → leT (gT l ((j - 1) / 2)) (gT l c)
theorem UpInv.zero {l : List (List UInt8)} {n : Nat} (h : UpInv l n 0) : HeapN l n := fun k hk h0 => h.1 k hk h0 (by omega)
theorem UpInv.done {l : List (List UInt8)} {n j : Nat} (h : UpInv l n j) (hl : Op.bytesLess (gT l j) (gT l ((j - 1) / 2)) = false) : HeapN l n := fun k hk h0 => by
 by_cases e : k = j
 ·subst e; exact hl
 ·exact h.1 k hk h0 e
theorem UpInv.step {l : List (List UInt8)} {j : Nat} (h : UpInv l l.length j) (hj : j < l.length) (h0 : 0 < j) (hl : Op.bytesLess (gT l j) (gT l ((j - 1) / 2)) = true) : UpInv (swapT l ((j - 1) / 2) j) l.length ((j - 1) / 2) := by
 obtain ⟨i, hi⟩ : ∃ i, i = (j - 1) / 2 := ⟨_, rfl⟩
 rw [← hi] at hl ⊢
 have hij : i < j := by omega
 have hs := gT_swap (l := l) (i := i) (j := j) (by omega) hj
 have hle := leT_of_less hl
 constructor
 ·intro k hk hk0 hki
  rw [hs, hs]
  by_cases e1 : k = j
  ·subst e1
   rw [if_pos rfl, ← hi, if_neg (by omega), if_pos rfl]
   exact hle
  ·rw [if_neg e1, if_neg hki]
   by_cases e2 : (k - 1) / 2 = j
   ·rw [if_pos e2]
    have := h.2 k hk hk0 e2 h0
    rw [← hi] at this
    exact this
   ·rw [if_neg e2]
    by_cases e3 : (k - 1) / 2 = i
    ·rw [if_pos e3]
     have := h.1 k hk hk0 e1
     rw [e3] at this
     exact leT_trans hle this
    ·rw [if_neg e3]
     exact h.1 k hk hk0 e1
 ·intro c hc hc0 hci hi0
  rw [hs, hs]
  rw [if_neg (by omega : ¬ (i - 1) / 2 = j), if_neg (by omega : ¬ (i - 1) / 2 = i)]
  have hii := h.1 i (by omega) hi0 (by omega)
  by_cases e1 : c = j
  ·rw [if_pos e1]
   exact hii
  ·rw [if_neg e1, if_neg (by omega : ¬ c = i)]
   have := h.1 c hc hc0 e1
   rw [hci] at this
   exact leT_trans hii this
theorem UpInv.snoc {l : List (List UInt8)} (h : HeapN l l.length) (x : List UInt8) : UpInv (l ++ [x]) (l ++ [x]).length l.length := by
 have hg : ∀ k, k < l.length → gT (l ++ [x]) k = gT l k := fun k hk => by
  simp [gT, List.getD_eq_getElem?_getD, List.getElem?_append_left hk]
 constructor
 ·intro k hk h0 hkl
  simp only [List.length_append, List.length_singleton] at hk
  rw [hg k (by omega), hg _ (by omega)]
  exact h k (by omega) h0
 ·intro c hc h0 hcl
  simp only [List.length_append, List.length_singleton] at hc
  omega
def DownInv (l : List (List UInt8)) (n i : Nat) : Prop := (∀ k, k < n → 0 < k → (k - 1) / 2 ≠ i → leT (gT l ((k - 1) / 2)) (gT l k)) ∧ ∀ k, k < n → 0 < k → (k - 1) / 2 = i → 0 < i → leT (gT l ((i - 1) / 2)) (gT l k)
theorem DownInv.leaf {l : List (List UInt8)} {n i : Nat} (h : DownInv l n i) (hi : n ≤ 2 * i + 1) : HeapN l n := fun k hk h0 => h.1 k hk h0 (by omega)
def LeastC (l : List (List UInt8)) (n i j : Nat) : Prop := (j = 2 * i + 1 ∨ j = 2 * i + 2) ∧ j < n ∧ ∀ k, k < n → 0 < k → (k - 1) / 2 = i → leT (gT l j) (gT l k)
theorem LeastC.one {l : List (List UInt8)} {n i : Nat} (h : 2 * i + 1 < n) (h2 : n ≤ 2 * i + 2) : LeastC l n i (2 * i + 1) := ⟨.inl rfl, h, fun k hk h0 hki => by
 have : k = 2 * i + 1 := by omega
 rw [this]; exact leT_refl _⟩
theorem LeastC.left {l : List (List UInt8)} {n i : Nat} (h : 2 * i + 2 < n) (hl : Op.bytesLess (gT l (2 * i + 2)) (gT l (2 * i + 1)) = false) : LeastC l n i (2 * i + 1) := ⟨.inl rfl, by omega, fun k hk h0 hki => by
 rcases (by omega : k = 2 * i + 1 ∨ k = 2 * i + 2) with e | e
 ·rw [e]; exact leT_refl _
 ·rw [e]; exact hl⟩
theorem LeastC.right {l : List (List UInt8)} {n i : Nat} (h : 2 * i + 2 < n) (hl : Op.bytesLess (gT l (2 * i + 2)) (gT l (2 * i + 1)) = true) : LeastC l n i (2 * i + 2) := ⟨.inr rfl, h, fun k hk h0 hki => by
 rcases (by omega : k = 2 * i + 1 ∨ k = 2 * i + 2) with e | e
 ·rw [e]; exact leT_of_less hl
 ·rw [e]; exact leT_refl _⟩
theorem DownInv.done {l : List (List UInt8)} {n i j : Nat} (h : DownInv l n i) (hc : LeastC l n i j) (hl : Op.bytesLess (gT l j) (gT l i) = false) : HeapN l n := fun k hk h0 => by
 by_cases e : (k - 1) / 2 = i
 ·rw [e]
  exact leT_trans hl (hc.2.2 k hk h0 e)
 ·exact h.1 k hk h0 e
theorem DownInv.step {l : List (List UInt8)} {n i j : Nat} (h : DownInv l n i) (hn : n ≤ l.length) (hc : LeastC l n i j) (hl : Op.bytesLess (gT l j) (gT l i) = true) : DownInv (swapT l i j) n j := by
 obtain ⟨hj, hjn, hmin⟩ := hc
 have hs := gT_swap (l := l) (i := i) (j := j) (by omega) (by omega)
 have hle := leT_of_less hl
 have hpj : (j - 1) / 2 = i := by omega
 constructor
 ·intro k hk h0 hkj
  rw [hs, hs, if_neg hkj]
  by_cases e1 : (k - 1) / 2 = i
  ·rw [if_pos e1]
   by_cases e2 : k = j
   ·rw [if_pos e2]; exact hle
   ·rw [if_neg e2, if_neg (by omega : ¬ k = i)]
    exact hmin k hk h0 e1
  ·rw [if_neg e1, if_neg (by omega : ¬ k = j)]
   by_cases e2 : k = i
   ·rw [if_pos e2, e2]
    exact h.2 j hjn (by omega) hpj (by omega)
   ·rw [if_neg e2]
    exact h.1 k hk h0 e1
 ·intro k hk h0 hkj hj0
  rw [hs, hs, hpj, if_neg (by omega : ¬ i = j), if_pos rfl, if_neg (by omega : ¬ k = j), if_neg (by omega : ¬ k = i)]
  have := h.1 k hk h0 (by omega)
  rw [hkj] at this
  exact this
theorem HeapN.least {l : List (List UInt8)} {n : Nat} (h : HeapN l n) : ∀ k, k < n → leT (gT l 0) (gT l k) := by
 intro k
 induction k using Nat.strongRecOn with
 | ind k ih =>
   intro hk
   rcases Nat.eq_zero_or_pos k with e | e
   ·rw [e]; exact leT_refl _
   ·exact leT_trans (ih ((k - 1) / 2) (by omega) (by omega)) (h k hk e)
theorem DownInv.start {l : List (List UInt8)} {n : Nat} (h : HeapN l l.length) (hn : l.length = n + 1) : DownInv (swapT l 0 n) n 0 := by
 have hs := gT_swap (l := l) (i := 0) (j := n) (by omega) (by omega)
 constructor
 ·intro k hk h0 hk2
  rw [hs, hs, if_neg (by omega : ¬ (k - 1) / 2 = n), if_neg hk2, if_neg (by omega : ¬ k = n), if_neg (by omega : ¬ k = 0)]
  exact h k (by omega) h0
 ·intro k hk h0 hk2 h00
  omega
theorem HeapN.take {l : List (List UInt8)} {n : Nat} (h : HeapN l n) (hn : n ≤ l.length) : HeapN (l.take n) (l.take n).length := by
 have hg : ∀ k, k < n → gT (l.take n) k = gT l k := fun k hk => by
  simp [gT, List.getD_eq_getElem?_getD, hk]
 intro k hk h0
 rw [List.length_take] at hk
 rw [hg k (by omega), hg _ (by omega)]
 exact h k (by omega) h0
def cntO (out : List (List UInt8)) (e : Ent) : Nat := (e.refs.filter fun r => r != e.path && !out.contains r).length
theorem cntO_nil (e : Ent) : cntO [] e = cntE e := by simp [cntO, cntE]
theorem cntO_zero {out : List (List UInt8)} {e : Ent} : cntO out e = 0 ↔ ∀ r ∈ e.refs, r = e.path ∨ r ∈ out := by
 unfold cntO
 rw [List.length_eq_zero_iff, List.filter_eq_nil_iff]
 refine forall_congr' fun r => forall_congr' fun _ => ?_
 by_cases h1 : r = e.path <;> by_cases h2 : r ∈ out <;> simp [h1, h2]
theorem cntO_other {out : List (List UInt8)} {e : Ent} {x : List UInt8} (h : x ∉ e.refs ∨ x = e.path) : cntO (out ++ [x]) e = cntO out e := by
 unfold cntO
 congr 1
 refine List.filter_congr fun r hr => ?_
 by_cases h1 : r = e.path
 ·simp [h1]
 ·have hne : r ≠ x := fun e2 => by
   rcases h with h | h
   ·exact h (by rw [← e2]; exact hr)
   ·exact h1 (e2.trans h)
  simp [hne]
theorem cntO_one {out : List (List UInt8)} {e : Ent} {x : List UInt8} (hn : e.refs.Nodup) (hx : x ∈ e.refs) (hne : x ≠ e.path) (ho : x ∉ out) : cntO out e = cntO (out ++ [x]) e + 1 := by
 unfold cntO
 have h1 : (e.refs.filter fun r => r != e.path && !out.contains r).Nodup := hn.filter _
 have h2 : x ∈ e.refs.filter fun r => r != e.path && !out.contains r := List.mem_filter.2 ⟨hx, by simp [hne, ho]⟩
 have h3 := List.length_erase_of_mem h2
 have h4 := List.length_pos_of_mem h2
 rw [List.Nodup.erase_eq_filter h1, List.filter_filter] at h3
 have h5 : (e.refs.filter fun a => a != x && (a != e.path && !out.contains a)) = e.refs.filter fun r => r != e.path && !(out ++ [x]).contains r := by
  refine List.filter_congr fun r _ => ?_
  by_cases h1 : r = e.path <;> by_cases h2 : r ∈ out <;> by_cases h3 : r = x <;> simp [h1, h2, h3]
 rw [h5] at h3
 omega
theorem ivn_inj {a b : Nat} (h : ivn a = ivn b) : a = b := by
 unfold ivn at h
 simp only [Value.int.injEq, true_and] at h
 omega
theorem StoreOk.uniq {L : Ents} (h : StoreOk L) {a b : Ent} (ha : a ∈ L) (hb : b ∈ L) (he : a.path = b.path) : a = b := by
 have hr := h.rise
 clear h
 induction L with
 | nil => cases ha
 | cons x r ih =>
   obtain ⟨h1, h2⟩ := List.pairwise_cons.1 hr
   rcases List.mem_cons.1 ha with ha2 | ha2 <;> rcases List.mem_cons.1 hb with hb2 | hb2
   ·rw [ha2, hb2]
   ·have := h1 b hb2
    rw [← ha2, he, bytesLess_irrefl] at this
    cases this
   ·have := h1 a ha2
    rw [← hb2, he, bytesLess_irrefl] at this
    cases this
   ·exact ih ha2 hb2 h2
theorem risingB_pw : ∀ {l : List (List UInt8)}, risingB l = true → l.Pairwise fun a b => Op.bytesLess a b = true
 | [], _ => List.Pairwise.nil
 | [a], _ => List.pairwise_singleton _ _
 | a :: b :: r, h => by
   rw [risingB, Bool.and_eq_true] at h
   have ih := risingB_pw h.2
   refine List.pairwise_cons.2 ⟨fun y hy => ?_, ih⟩
   rcases List.mem_cons.1 hy with rfl | hy
   ·exact h.1
   ·exact bytesLess_trans h.1 ((List.pairwise_cons.1 ih).1 y hy)
theorem risingB_nodup {l : List (List UInt8)} (h : risingB l = true) : l.Nodup := (risingB_pw h).imp fun {a b} h e => by
 rw [e, bytesLess_irrefl] at h
 cases h
theorem StoreOk.nodup {L : Ents} (h : StoreOk L) {e : Ent} (he : e ∈ L) : e.refs.Nodup := risingB_nodup (h.good e he).2.2
def KeysOk (L : Ents) (K : List (List UInt8)) : Prop := ∀ k ∈ K, ∃ e ∈ L, e.path = k ∧ ∀ r ∈ e.refs, r ∈ K
structure MapTo (L : Ents) (N : MapL) (K : List (List UInt8)) (cnt : Ent → Nat) : Prop where
 keys : N.map Prod.fst = K
 vals : ∀ e ∈ L, e.path ∈ K → getM N e.path = some (ivn (cnt e))
theorem inM_keys {N : MapL} {k : List UInt8} : InM N k ↔ k ∈ N.map Prod.fst := by
 unfold InM
 cases hg : getM N k with
 | none =>
   have := getM_none.1 hg
   simp
   intro v hv
   exact this _ hv rfl
 | some v =>
   simp
   unfold getM at hg
   obtain ⟨x, hx, -⟩ := Option.map_eq_some_iff.1 hg
   have h1 := List.mem_of_find?_eq_some hx
   have h2 := List.find?_some hx
   simp only [beq_iff_eq] at h2
   exact ⟨x.2, by rw [← h2]; exact h1⟩
theorem putM_keys {N : MapL} {k : List UInt8} (v : Value) (h : k ∈ N.map Prod.fst) : (putM N k v).map Prod.fst = N.map Prod.fst := by
 obtain ⟨u, hu⟩ := inM_keys.2 h
 rw [putM, hu]
 simp only [Option.isSome_some, if_true]
 exact setM_fst N k v
structure HpIs (h : List (List UInt8)) (P : List UInt8 → Prop) : Prop where
 once : h.Nodup
 mem : ∀ y, y ∈ h ↔ P y
theorem HpIs.perm {h h' : List (List UInt8)} {P : List UInt8 → Prop} (hh : HpIs h P) (hp : h'.Perm h) : HpIs h' P := ⟨hp.nodup_iff.2 hh.once, fun y => hp.mem_iff.trans (hh.mem y)⟩
theorem HpIs.congr {h : List (List UInt8)} {P Q : List UInt8 → Prop} (hh : HpIs h P) (hp : ∀ y, P y ↔ Q y) : HpIs h Q := ⟨hh.once, fun y => (hh.mem y).trans (hp y)⟩
theorem HpIs.snoc {h h' : List (List UInt8)} {P Q : List UInt8 → Prop} {x : List UInt8} (hh : HpIs h P) (hp : h'.Perm (h ++ [x])) (hx : ¬ P x) (hq : ∀ y, Q y ↔ P y ∨ y = x) : HpIs h' Q := by
 refine HpIs.perm ⟨?_, fun y => ?_⟩ hp
 ·rw [List.nodup_append]
  exact ⟨hh.once, by simp, fun a ha b hb e => hx ((hh.mem x).1 (by rw [List.mem_singleton] at hb; rw [← hb, ← e]; exact ha))⟩
 ·rw [List.mem_append, hq, hh.mem, List.mem_singleton]
structure FirstSt (L : Ents) (K : List (List UInt8)) (N : MapL) (todo h : List (List UInt8)) : Prop where
 map : MapTo L N K (cntO [])
 heap : HpIs h fun y => y ∉ todo ∧ getM N y = some (ivn 0)
structure TellSt (L : Ents) (K : List (List UInt8)) (N : MapL) (out h : List (List UInt8)) : Prop where
 map : MapTo L N K (cntO out)
 heap : HpIs h fun y => y ∉ out ∧ getM N y = some (ivn 0)
 told : Told L K out
 clos : closL L K = closF L K (L.length + 1 - out.length) out
structure RoundSt (L : Ents) (K : List (List UInt8)) (N : MapL) (out : List (List UInt8)) (x : List UInt8) (todo h : List (List UInt8)) : Prop where
 map : MapTo L N K (fun e => if e.path ∈ todo then cntO out e else cntO (out ++ [x]) e)
 heap : HpIs h fun y => y ∉ out ++ [x] ∧ getM N y = some (ivn 0)
 told : Told L K (out ++ [x])
 clos : closL L K = closF L K (L.length + 1 - (out ++ [x]).length) (out ++ [x])
theorem FirstSt.start {L : Ents} {K : List (List UInt8)} {N : MapL} (hm : MapTo L N K (cntO [])) : FirstSt L K N K [] := ⟨hm, by simp, fun y => by
 simp only [List.not_mem_nil, false_iff]
 rintro ⟨h1, h2⟩
 exact h1 (by rw [← hm.keys]; exact inM_keys.1 ⟨_, h2⟩)⟩
theorem FirstSt.pass {L : Ents} {K : List (List UInt8)} {N : MapL} {todo h : List (List UInt8)} {k : List UInt8} {n : Nat} (hs : FirstSt L K N todo h) (hv : getM N k = some (ivn n)) (hn : n ≠ 0) : FirstSt L K N (todo.filter fun x => x != k) h := by
 refine ⟨hs.map, hs.heap.congr fun y => ?_⟩
 constructor
 ·rintro ⟨h1, h2⟩
  exact ⟨fun h3 => h1 (List.mem_filter.1 h3).1, h2⟩
 ·rintro ⟨h1, h2⟩
  refine ⟨fun h3 => h1 (List.mem_filter.2 ⟨h3, ?_⟩), h2⟩
  have : y ≠ k := fun e => by
   rw [e, hv] at h2
   exact hn (ivn_inj (Option.some.inj h2))
  simpa using this
theorem FirstSt.push {L : Ents} {K : List (List UInt8)} {N : MapL} {todo h h' : List (List UInt8)} {k : List UInt8} (hs : FirstSt L K N todo h) (hk : k ∈ todo) (hv : getM N k = some (ivn 0)) (hp : h'.Perm (h ++ [k])) : FirstSt L K N (todo.filter fun x => x != k) h' := by
 refine ⟨hs.map, hs.heap.snoc hp (fun h => h.1 hk) fun y => ?_⟩
 constructor
 ·rintro ⟨h1, h2⟩
  by_cases e : y = k
  ·exact .inr e
  ·exact .inl ⟨fun h3 => h1 (List.mem_filter.2 ⟨h3, by simpa using e⟩), h2⟩
 ·rintro (⟨h1, h2⟩ | rfl)
  ·exact ⟨fun h3 => h1 (List.mem_filter.1 h3).1, h2⟩
  ·exact ⟨fun h3 => by have := (List.mem_filter.1 h3).2; simp at this, hv⟩
theorem FirstSt.done {L : Ents} {K : List (List UInt8)} {N : MapL} {h : List (List UInt8)} (hs : FirstSt L K N [] h) : TellSt L K N [] h :=
 ⟨hs.map, hs.heap, Told.nil _ _, by simp [closL]⟩
theorem TellSt.ready {L : Ents} {K : List (List UInt8)} {N : MapL} {out h : List (List UInt8)} (hs : TellSt L K N out h) {e : Ent} (he : e ∈ L) : readyB L K out e = true ↔ e.path ∈ h := by
 rw [ready_iff, hs.heap.mem, ← cntO_zero]
 constructor
 ·rintro ⟨h1, h2, h3⟩
  exact ⟨h2, by rw [hs.map.vals e he h1, h3]⟩
 ·rintro ⟨h1, h2⟩
  have hk : e.path ∈ K := by rw [← hs.map.keys]; exact inM_keys.1 ⟨_, h2⟩
  rw [hs.map.vals e he hk] at h2
  exact ⟨hk, h1, ivn_inj (Option.some.inj h2)⟩
theorem TellSt.done {L : Ents} {K : List (List UInt8)} {N : MapL} {out : List (List UInt8)} (hs : TellSt L K N out []) : out = closL L K := by
 rw [hs.clos]
 have hf : L.find? (readyB L K out) = none := List.find?_eq_none.2 fun e he hr => by
  have := (hs.ready he).1 hr
  cases this
 obtain ⟨f, hf2⟩ : ∃ f, L.length + 1 - out.length = f + 1 := ⟨L.length - out.length, by have := toldc_len hs.told; omega⟩
 rw [hf2, closF, hf]
theorem find_least {L : Ents} (hr : L.Pairwise fun a b => Op.bytesLess a.path b.path = true) {p : Ent → Bool} {e : Ent} (he : e ∈ L) (hp : p e = true) (hl : ∀ y ∈ L, p y = true → leT e.path y.path) : L.find? p = some e := by
 obtain ⟨a, b, rfl⟩ := List.append_of_mem he
 refine List.find?_eq_some_iff_append.2 ⟨hp, a, b, rfl, fun y hy => ?_⟩
 cases hpy : p y with
 | false => rfl
 | true =>
   have h1 := hl y (List.mem_append.2 (.inl hy)) hpy
   have h2 := (List.pairwise_append.1 hr).2.2 y hy e (List.mem_cons_self ..)
   unfold leT at h1
   rw [h2] at h1
   cases h1
theorem TellSt.pop {L : Ents} {K : List (List UInt8)} {N : MapL} {out h h' : List (List UInt8)} {x : List UInt8} (hs : TellSt L K N out h) (hok : StoreOk L) (hk : KeysOk L K) (hp : (h' ++ [x]).Perm h) (hl : ∀ y ∈ h, leT x y) : RoundSt L K N out x K h' := by
 have hx : x ∈ h := hp.mem_iff.1 (by simp)
 obtain ⟨hxo, hxv⟩ := (hs.heap.mem x).1 hx
 have hxk : x ∈ K := by rw [← hs.map.keys]; exact inM_keys.1 ⟨_, hxv⟩
 obtain ⟨e, he, rfl, -⟩ := hk x hxk
 have hrd := (hs.ready he).2 hx
 have hf : L.find? (readyB L K out) = some e := find_least hok.rise he hrd fun y hy hyr => hl _ ((hs.ready hy).1 hyr)
 have hnd := hp.nodup_iff.2 hs.heap.once
 refine ⟨⟨hs.map.keys, fun y hy hyk => by rw [if_pos hyk]; exact hs.map.vals y hy hyk⟩, ⟨(List.nodup_append.1 hnd).1, fun y => ?_⟩, hs.told.step he hrd, ?_⟩
 ·have h1 := hp.mem_iff (a := y)
  rw [hs.heap.mem, List.mem_append, List.mem_singleton] at h1
  constructor
  ·intro hy
   obtain ⟨h2, h3⟩ := h1.1 (.inl hy)
   refine ⟨fun h4 => ?_, h3⟩
   rcases List.mem_append.1 h4 with h4 | h4
   ·exact h2 h4
   ·rw [List.mem_singleton] at h4
    exact (List.nodup_append.1 hnd).2.2 y hy e.path (by simp) h4
  ·rintro ⟨h2, h3⟩
   rcases h1.2 ⟨fun h4 => h2 (List.mem_append.2 (.inl h4)), h3⟩ with h4 | h4
   ·exact h4
   ·exact absurd (by rw [h4]; simp) h2
 ·rw [hs.clos]
  obtain ⟨f, hf2⟩ : ∃ f, L.length + 1 - out.length = f + 1 := ⟨L.length - out.length, by have := toldc_len hs.told; omega⟩
  rw [hf2, closF, hf]
  simp only [List.length_append, List.length_singleton]
  congr 1
  omega
theorem RoundSt.done {L : Ents} {K : List (List UInt8)} {N : MapL} {out h : List (List UInt8)} {x : List UInt8} (hs : RoundSt L K N out x [] h) : TellSt L K N (out ++ [x]) h :=
 ⟨⟨hs.map.keys, fun y hy hyk => by have := hs.map.vals y hy hyk; rwa [if_neg (by simp)] at this⟩, hs.heap, hs.told, hs.clos⟩
theorem RoundSt.pass {L : Ents} {K : List (List UInt8)} {N : MapL} {out h todo : List (List UInt8)} {x : List UInt8} (hs : RoundSt L K N out x todo h) (hok : StoreOk L) {e : Ent} (he : e ∈ L) (hx : x ∉ e.refs ∨ x = e.path) : RoundSt L K N out x (todo.filter fun y => y != e.path) h := by
 refine ⟨⟨hs.map.keys, fun y hy hyk => ?_⟩, hs.heap, hs.told, hs.clos⟩
 rw [hs.map.vals y hy hyk]
 by_cases hye : y.path = e.path
 ·have := hok.uniq hy he hye
  subst this
  rw [cntO_other hx]
  simp
 ·have h1 : (y.path ∈ todo.filter fun z => z != e.path) ↔ y.path ∈ todo := by
   rw [List.mem_filter]
   constructor
   ·exact fun h => h.1
   ·exact fun h => ⟨h, by simpa using hye⟩
  by_cases h2 : y.path ∈ todo
  ·rw [if_pos h2, if_pos (h1.2 h2)]
  ·rw [if_neg h2, if_neg (fun h => h2 (h1.1 h))]
theorem RoundSt.fresh {L : Ents} {K : List (List UInt8)} {N : MapL} {out h todo : List (List UInt8)} {x : List UInt8} (hs : RoundSt L K N out x todo h) : x ∉ out := fun hx => by
 have := (List.nodup_append.1 hs.told.once).2.2 x hx x (by simp)
 exact this rfl
theorem RoundSt.val {L : Ents} {K : List (List UInt8)} {N : MapL} {out h todo : List (List UInt8)} {x : List UInt8} (hs : RoundSt L K N out x todo h) (hok : StoreOk L) {e : Ent} (he : e ∈ L) (hk : e.path ∈ K) (ht : e.path ∈ todo) (hx : x ∈ e.refs) (hne : x ≠ e.path) :
 getM N e.path = some (ivn (cntO (out ++ [x]) e + 1)) := by
 rw [hs.map.vals e he hk, if_pos ht, cntO_one (hok.nodup he) hx hne hs.fresh]
theorem RoundSt.stepM {L : Ents} {K : List (List UInt8)} {N : MapL} {out h todo : List (List UInt8)} {x : List UInt8} (hs : RoundSt L K N out x todo h) (hok : StoreOk L) {e : Ent} (he : e ∈ L) (hk : e.path ∈ K) :
 MapTo L (putM N e.path (ivn (cntO (out ++ [x]) e))) K (fun y => if y.path ∈ (todo.filter fun y => y != e.path) then cntO out y else cntO (out ++ [x]) y) := by
 refine ⟨by rw [putM_keys _ (by rw [hs.map.keys]; exact hk)]; exact hs.map.keys, fun y hy hyk => ?_⟩
 rw [getM_put]
 by_cases hye : y.path = e.path
 ·have := hok.uniq hy he hye
  subst this
  simp
 ·rw [if_neg hye, hs.map.vals y hy hyk]
  have h1 : (y.path ∈ todo.filter fun z => z != e.path) ↔ y.path ∈ todo := by
   rw [List.mem_filter]
   constructor
   ·exact fun h => h.1
   ·exact fun h => ⟨h, by simpa using hye⟩
  by_cases h2 : y.path ∈ todo
  ·rw [if_pos h2, if_pos (h1.2 h2)]
  ·rw [if_neg h2, if_neg (fun h => h2 (h1.1 h))]
theorem RoundSt.less {L : Ents} {K : List (List UInt8)} {N : MapL} {out h todo : List (List UInt8)} {x : List UInt8} (hs : RoundSt L K N out x todo h) (hok : StoreOk L) {e : Ent} (he : e ∈ L) (hk : e.path ∈ K) (ht : e.path ∈ todo) (hx : x ∈ e.refs) (hne : x ≠ e.path)
 (hz : cntO (out ++ [x]) e ≠ 0) : RoundSt L K (putM N e.path (ivn (cntO (out ++ [x]) e))) out x (todo.filter fun y => y != e.path) h := by
 have hv := hs.val hok he hk ht hx hne
 refine ⟨hs.stepM hok he hk, hs.heap.congr fun y => ?_, hs.told, hs.clos⟩
 rw [getM_put]
 by_cases hye : y = e.path
 ·subst hye
  rw [if_pos rfl, hv]
  constructor
  ·rintro ⟨-, h2⟩
   exact absurd (ivn_inj (Option.some.inj h2)) (by omega)
  ·rintro ⟨-, h2⟩
   exact absurd (ivn_inj (Option.some.inj h2)) hz
 ·rw [if_neg hye]
theorem RoundSt.push {L : Ents} {K : List (List UInt8)} {N : MapL} {out h h' todo : List (List UInt8)} {x : List UInt8} (hs : RoundSt L K N out x todo h) (hok : StoreOk L) {e : Ent} (he : e ∈ L) (hk : e.path ∈ K) (ht : e.path ∈ todo) (hx : x ∈ e.refs) (hne : x ≠ e.path)
 (hz : cntO (out ++ [x]) e = 0) (hp : h'.Perm (h ++ [e.path])) : RoundSt L K (putM N e.path (ivn (cntO (out ++ [x]) e))) out x (todo.filter fun y => y != e.path) h' := by
 have hv := hs.val hok he hk ht hx hne
 have hno : e.path ∉ out ++ [x] := fun hm => by
  rcases List.mem_append.1 hm with hm | hm
  ·obtain ⟨a, b, hab⟩ := List.append_of_mem hm
   obtain ⟨e', he', hep, hr⟩ := hs.told.ahead a e.path (b ++ [x]) (by rw [hab]; simp)
   have := hok.uniq he' he hep
   subst this
   rcases hr x hx with h1 | h1
   ·exact hne h1
   ·exact hs.fresh (by rw [hab]; exact List.mem_append.2 (.inl h1))
  ·rw [List.mem_singleton] at hm
   exact hne hm.symm
 refine ⟨hs.stepM hok he hk, hs.heap.snoc hp (fun h => ?_) fun y => ?_, hs.told, hs.clos⟩
 ·rw [hv] at h
  exact absurd (ivn_inj (Option.some.inj h.2)) (by omega)
 ·rw [getM_put]
  by_cases hye : y = e.path
  ·subst hye
   rw [if_pos rfl, hz]
   simp [hno]
  ·rw [if_neg hye]
   simp [hye]
theorem KeysOk.len {L : Ents} {K : List (List UInt8)} (h : KeysOk L K) (hn : K.Nodup) : K.length ≤ L.length := by
 have := nodup_len K (L.map Ent.path) hn fun k hk => by
  obtain ⟨e, he, hep, -⟩ := h k hk
  exact List.mem_map.2 ⟨e, he, hep⟩
 simpa using this
theorem HpIs.len {h K : List (List UInt8)} {P : List UInt8 → Prop} (hh : HpIs h P) (hp : ∀ y, P y → y ∈ K) : h.length ≤ K.length := nodup_len h K hh.once fun y hy => hp y ((hh.mem y).1 hy)
theorem MapTo.mem {L : Ents} {N : MapL} {K : List (List UInt8)} {cnt : Ent → Nat} (h : MapTo L N K cnt) {y : List UInt8} {v : Value} (hv : getM N y = some v) : y ∈ K := by
 rw [← h.keys]
 exact inM_keys.1 ⟨v, hv⟩
theorem cntO_le (out : List (List UInt8)) (e : Ent) : cntO out e ≤ e.refs.length := List.length_filter_le _ _
theorem filter_less {l : List (List UInt8)} {k : List UInt8} (h : k ∈ l) : (l.filter fun x => x != k).length < l.length := by
 rw [List.length_filter_lt_length_iff_exists]
 exact ⟨k, h, by simp⟩
end Go.Proofs.YtdkogijdfgfpeaaGreatDoor
