/- Plain: what reach does to the map of needs. -/
import Derived.Test.YtohbjbicmgnblaaDoorChecked
import Derived.Test.YtohbjbicmgnblaaDoorClosP
import Derived.Test.YtohbjbicmgnblaaDoorSMem
namespace Go.Proofs.YtohbjbicmgnblaaDoor
open Go Go.RowKit
set_option linter.unusedVariables false

theorem getM_put (m : MapL) (k : List UInt8) (v : Value) (j : List UInt8) : getM (putM m k v) j = if j = k then some v else getM m j := by
  unfold putM
  cases hk : getM m k with
  | none =>
    simp only [Option.isSome_none, Bool.false_eq_true, if_false]
    unfold getM at *
    rw [List.find?_append]
    by_cases hj : j = k
    · subst hj
      rw [if_pos rfl, Option.map_eq_none_iff.1 hk]
      simp
    · rw [if_neg hj]
      have : ([(k, v)] : MapL).find? (fun x => x.1 == j) = none := by
        rw [List.find?_eq_none]
        simp
        exact fun e => hj e.symm
      rw [this]
      simp
  | some u =>
    simp only [Option.isSome_some, if_true]
    unfold setM
    unfold getM at *
    rw [List.find?_map, Option.map_map]
    have h1 : ((fun x : List UInt8 × Value => x.1 == j) ∘ fun x => if x.1 = k then (x.1, v) else x) = fun x => x.1 == j := by
      funext x
      simp only [Function.comp]
      split <;> rfl
    rw [h1]
    by_cases hj : j = k
    · subst hj
      rw [if_pos rfl]
      cases hf : m.find? (fun x => x.1 == j) with
      | none => rw [hf] at hk; cases hk
      | some x =>
        have := List.find?_some hf
        simp only [beq_iff_eq] at this
        simp [this]
    · rw [if_neg hj]
      cases hf : m.find? (fun x => x.1 == j) with
      | none => rfl
      | some x =>
        have := List.find?_some hf
        simp only [beq_iff_eq] at this
        have h2 : ¬ x.1 = k := fun e => hj (this.symm.trans e)
        simp [h2]
def ivn (n : Nat) : Value := .int .i64 n
/-- how many references of an entry are others -/
def cntE (e : Ent) : Nat := (e.refs.filter fun r => r != e.path).length
/-- k is in the map -/
def InM (N : MapL) (k : List UInt8) : Prop := ∃ v, getM N k = some v
theorem inM_none {N : MapL} {k : List UInt8} : getM N k = none ↔ ¬ InM N k := by
  unfold InM
  cases getM N k <;> simp
def ShutX (L : Ents) (X : List UInt8 → Prop) : Prop := ∀ e ∈ L, X e.path → ∀ r ∈ e.refs, X r
/-- what a call of reach does -/
structure Grew (L : Ents) (name : List UInt8) (N N' : MapL) : Prop where
  old : ∀ k v, getM N k = some v → getM N' k = some v
  new : ∀ k, ¬ InM N k → InM N' k → ∃ e ∈ L, e.path = k ∧ getM N' k = some (ivn (cntE e)) ∧ ∀ r ∈ e.refs, InM N' r
  least : ∀ X, ShutX L X → X name → ∀ k, InM N' k → InM N k ∨ X k
  it : InM N' name
theorem Grew.same {L : Ents} {name : List UInt8} {N : MapL} (h : InM N name) : Grew L name N N := ⟨fun _ _ h => h, fun k h1 h2 => absurd h2 h1, fun _ _ _ k h => .inl h, h⟩
/-- in the middle of a call: j references are done -/
structure Going (L : Ents) (e : Ent) (N N2 : MapL) (j : Nat) : Prop where
  fresh : ¬ InM N e.path
  old : ∀ k v, getM N k = some v → getM N2 k = some v
  it : getM N2 e.path = some (ivn ((e.refs.take j).filter fun r => r != e.path).length)
  new : ∀ k, k ≠ e.path → ¬ InM N k → InM N2 k → ∃ x ∈ L, x.path = k ∧ getM N2 k = some (ivn (cntE x)) ∧ ∀ r ∈ x.refs, InM N2 r
  refs : ∀ r ∈ e.refs.take j, InM N2 r
  least : ∀ X, ShutX L X → X e.path → ∀ k, InM N2 k → InM N k ∨ X k
theorem Going.start {L : Ents} {e : Ent} {N : MapL} (h : getM N e.path = none) : Going L e N (putM N e.path (ivn 0)) 0 := by
  have hf := inM_none.1 h
  refine ⟨hf, fun k v hk => ?_, by rw [getM_put, if_pos rfl]; simp, fun k hk hn hi => ?_, by simp, fun X _ hX k hi => ?_⟩
  · rw [getM_put, if_neg (fun e2 => by rw [e2, h] at hk; cases hk)]
    exact hk
  · obtain ⟨v, hv⟩ := hi
    rw [getM_put, if_neg hk] at hv
    exact absurd ⟨v, hv⟩ hn
  · by_cases hk : k = e.path
    · rw [hk]; exact .inr hX
    · obtain ⟨v, hv⟩ := hi
      rw [getM_put, if_neg hk] at hv
      exact .inl ⟨v, hv⟩
theorem Going.self {L : Ents} {e : Ent} {N N2 : MapL} {j : Nat} (h : Going L e N N2 j) (hr : e.refs[j]? = some e.path) : Going L e N N2 (j + 1) := by
  refine ⟨h.fresh, h.old, ?_, h.new, fun r hr2 => ?_, h.least⟩
  · rw [h.it, List.take_add_one, hr]
    simp
  · rw [List.take_add_one, hr, List.mem_append] at hr2
    rcases hr2 with hr2 | hr2
    · exact h.refs r hr2
    · simp only [Option.toList_some, List.mem_singleton] at hr2
      rw [hr2]
      exact ⟨_, h.it⟩
theorem Going.step {L : Ents} {e : Ent} {N N2 N4 : MapL} {j : Nat} {r : List UInt8} (h : Going L e N N2 j) (he : e ∈ L) (hr : e.refs[j]? = some r) (hne : r ≠ e.path)
    (hg : Grew L r (putM N2 e.path (ivn (((e.refs.take j).filter fun r => r != e.path).length + 1))) N4) : Going L e N N4 (j + 1) := by
  have hin : ∀ k, InM N2 k → InM N4 k := fun k hk => by
    by_cases hke : k = e.path
    · exact ⟨_, hg.old k _ (by rw [getM_put, if_pos hke])⟩
    · obtain ⟨v, hv⟩ := hk
      exact ⟨v, hg.old k v (by rw [getM_put, if_neg hke]; exact hv)⟩
  have hinp : ∀ k, InM (putM N2 e.path (ivn (((e.refs.take j).filter fun r => r != e.path).length + 1))) k → InM N2 k := fun k ⟨v, hv⟩ => by
    rw [getM_put] at hv
    by_cases hke : k = e.path
    · rw [hke]; exact ⟨_, h.it⟩
    · rw [if_neg hke] at hv
      exact ⟨v, hv⟩
  refine ⟨h.fresh, fun k v hk => ?_, ?_, fun k hk hn hi => ?_, fun q hq => ?_, fun X hs hX k hi => ?_⟩
  · have hke : k ≠ e.path := fun e2 => h.fresh (by rw [← e2]; exact ⟨v, hk⟩)
    exact hg.old k v (by rw [getM_put, if_neg hke]; exact h.old k v hk)
  · rw [hg.old e.path _ (by rw [getM_put, if_pos rfl]), List.take_add_one, hr]
    have : (r != e.path) = true := by simpa using hne
    simp [this]
  · by_cases hk2 : InM N2 k
    · obtain ⟨x, hx, hxp, hv, hxr⟩ := h.new k hk hn hk2
      exact ⟨x, hx, hxp, hg.old k _ (by rw [getM_put, if_neg hk]; exact hv), fun r hr => hin r (hxr r hr)⟩
    · exact hg.new k (fun h => hk2 (hinp k h)) hi
  · rw [List.take_add_one, hr, List.mem_append] at hq
    rcases hq with hq | hq
    · exact hin q (h.refs q hq)
    · simp only [Option.toList_some, List.mem_singleton] at hq
      rw [hq]
      exact hg.it
  · have hXr : X r := hs e he hX r (List.mem_of_getElem? hr)
    rcases hg.least X hs hXr k hi with h1 | h1
    · exact h.least X hs hX k (hinp k h1)
    · exact .inr h1
theorem Going.done {L : Ents} {e : Ent} {N N2 : MapL} {j : Nat} (h : Going L e N N2 j) (he : e ∈ L) (hj : j = e.refs.length) : Grew L e.path N N2 := by
  subst hj
  have h1 := h.it
  have h2 := h.refs
  rw [List.take_length] at h1 h2
  refine ⟨h.old, fun k hn hi => ?_, h.least, ⟨_, h1⟩⟩
  by_cases hk : k = e.path
  · subst hk
    exact ⟨e, he, rfl, h1, h2⟩
  · exact h.new k hk hn hi
/-- how many entries are not in the map yet -/
def freeN (L : Ents) (N : MapL) : Nat := L.countP fun e => (getM N e.path).isNone
theorem freeN_le {L : Ents} {N N' : MapL} (h : ∀ k v, getM N k = some v → InM N' k) : freeN L N' ≤ freeN L N := by
  unfold freeN
  refine List.countP_mono_left fun x _ hx => ?_
  cases hg : getM N x.path with
  | none => rfl
  | some v =>
    obtain ⟨u, hu⟩ := h _ _ hg
    rw [hu] at hx
    cases hx
theorem freeN_lt {L : Ents} {N N' : MapL} (h : ∀ k v, getM N k = some v → InM N' k) {e : Ent} (he : e ∈ L) (hn : getM N e.path = none) (hi : InM N' e.path) : freeN L N' + 1 ≤ freeN L N := by
  unfold freeN
  induction L with
  | nil => cases he
  | cons x r ih =>
    rw [List.countP_cons, List.countP_cons]
    have h1 : r.countP (fun e => (getM N' e.path).isNone) ≤ r.countP fun e => (getM N e.path).isNone := freeN_le h
    rcases List.mem_cons.1 he with rfl | he
    · obtain ⟨v, hv⟩ := hi
      rw [hn, hv]
      simp
      omega
    · have h2 := ih he
      have h3 : (if (getM N' x.path).isNone = true then 1 else 0) ≤ (if (getM N x.path).isNone = true then 1 else 0) := by
        cases hg : getM N x.path with
        | none => split <;> simp
        | some v =>
          obtain ⟨u, hu⟩ := h _ _ hg
          rw [hu]
          simp
      omega
theorem Grew.ins {L : Ents} {name : List UInt8} {N N' : MapL} (h : Grew L name N N') : ∀ k v, getM N k = some v → InM N' k := fun k v hk => ⟨v, h.old k v hk⟩
end Go.Proofs.YtohbjbicmgnblaaDoor
