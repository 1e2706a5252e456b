/- Plain: what paths lead to, in order: complete, each once, references ahead. -/
import Derived.Test.YtohbjbicmgnblaaDoorChecked
import Derived.Test.YtohbjbicmgnblaaDoorStoreP
namespace Go.Proofs.YtohbjbicmgnblaaDoor
open Go Go.RowKit
set_option linter.unusedVariables false

/-- no path leads to itself but by itself -/
def Acyc (L : Ents) (rk : List UInt8 → Nat) : Prop := ∀ e ∈ L, ∀ r ∈ e.refs, r = e.path ∨ rk r < rk e.path
theorem closF_same {L : Ents} {a b : List (List UInt8)} (h : ∀ p, a.contains p = b.contains p) : ∀ (f : Nat) (out : List (List UInt8)), closF L a f out = closF L b f out
  | 0, _ => rfl
  | f + 1, out => by
    have hr : readyB L a out = readyB L b out := by
      funext e
      unfold readyB
      rw [h]
    unfold closF
    rw [hr]
    cases L.find? (readyB L b out) with
    | none => rfl
    | some e => exact closF_same h f _
theorem ready_iff {L : Ents} {all out : List (List UInt8)} {e : Ent} : readyB L all out e = true ↔ e.path ∈ all ∧ e.path ∉ out ∧ ∀ r ∈ e.refs, r = e.path ∨ r ∈ out := by
  unfold readyB
  simp only [Bool.and_eq_true, Bool.not_eq_true', List.all_eq_true, Bool.or_eq_true, beq_iff_eq, List.contains_iff_mem]
  constructor
  · rintro ⟨⟨h1, h2⟩, h3⟩
    exact ⟨h1, by simpa using h2, h3⟩
  · rintro ⟨h1, h2, h3⟩
    exact ⟨⟨h1, by simpa using h2⟩, h3⟩
/-- a list that was told in order: each once, out of the store and of what is reached, its references ahead -/
structure Told (L : Ents) (all out : List (List UInt8)) : Prop where
  once : out.Nodup
  all : ∀ p ∈ out, p ∈ all
  ahead : ∀ a p b, out = a ++ p :: b → ∃ e ∈ L, e.path = p ∧ ∀ r ∈ e.refs, r = p ∨ r ∈ a
theorem Told.nil (L : Ents) (all : List (List UInt8)) : Told L all [] := ⟨by simp, by simp, fun a p b h => by simp at h⟩
theorem snoc_split {α : Type} {out a b : List α} {x p : α} (h : out ++ [x] = a ++ p :: b) : (∃ b', out = a ++ p :: b') ∨ (out = a ∧ x = p) := by
  rcases List.eq_nil_or_concat b with rfl | ⟨b', y, rfl⟩
  · right
    have := List.append_inj' h (by simp)
    exact ⟨this.1, by simpa using this.2⟩
  · left
    rw [List.concat_eq_append] at h
    have e : out ++ [x] = (a ++ p :: b') ++ [y] := by simpa using h
    exact ⟨b', (List.append_inj' e (by simp)).1⟩
theorem Told.step {L : Ents} {all out : List (List UInt8)} (h : Told L all out) {e : Ent} (he : e ∈ L) (hr : readyB L all out e = true) : Told L all (out ++ [e.path]) := by
  obtain ⟨h1, h2, h3⟩ := ready_iff.1 hr
  refine ⟨?_, fun p hp => ?_, fun a p b hs => ?_⟩
  · rw [List.nodup_append]
    exact ⟨h.once, by simp, fun a ha b hb e2 => h2 (by rw [List.mem_singleton] at hb; rw [← hb, ← e2]; exact ha)⟩
  · rcases List.mem_append.1 hp with hp | hp
    · exact h.all p hp
    · obtain rfl := List.mem_singleton.1 hp
      exact h1
  · rcases snoc_split hs with ⟨b', hb⟩ | ⟨rfl, rfl⟩
    · exact h.ahead a p b' hb
    · exact ⟨e, he, rfl, h3⟩
theorem nodup_len {α : Type} [DecidableEq α] : ∀ (a l : List α), a.Nodup → (∀ x ∈ a, x ∈ l) → a.length ≤ l.length
  | [], _, _, _ => Nat.zero_le _
  | x :: a, l, hn, hs => by
    obtain ⟨h1, h2⟩ := List.nodup_cons.1 hn
    have hx := hs x (List.mem_cons_self ..)
    have := nodup_len a (l.erase x) h2 fun y hy => by
      have hne : y ≠ x := fun e => h1 (by rw [← e]; exact hy)
      exact (List.mem_erase_of_ne hne).2 (hs y (List.mem_cons_of_mem _ hy))
    rw [List.length_erase_of_mem hx] at this
    have hpos := List.length_pos_of_mem hx
    simp only [List.length_cons]
    omega
theorem toldc_len {L : Ents} {all out : List (List UInt8)} (h : Told L all out) : out.length ≤ L.length := by
  have hsub : ∀ p ∈ out, p ∈ L.map Ent.path := fun p hp => by
    obtain ⟨a, b, hab⟩ := List.append_of_mem hp
    obtain ⟨e, he, hep, -⟩ := h.ahead a p b hab
    exact List.mem_map.2 ⟨e, he, hep⟩
  have := nodup_len _ _ h.once hsub
  simpa using this
theorem closF_told {L : Ents} {all : List (List UInt8)} : ∀ (f : Nat) (out : List (List UInt8)), Told L all out → Told L all (closF L all f out) ∧ (L.length < f + out.length → L.find? (readyB L all (closF L all f out)) = none)
  | 0, out, h => ⟨h, fun hl => by have := toldc_len h; omega⟩
  | f + 1, out, h => by
    unfold closF
    cases hf : L.find? (readyB L all out) with
    | none => exact ⟨h, fun _ => hf⟩
    | some e =>
      have hs := h.step (List.mem_of_find?_eq_some hf) (List.find?_some hf)
      obtain ⟨q1, q2⟩ := closF_told f _ hs
      exact ⟨q1, fun hl => q2 (by simp; omega)⟩
/-- all that may be told -/
def closL (L : Ents) (all : List (List UInt8)) : List (List UInt8) := closF L all (L.length + 1) []
theorem closL_told (L : Ents) (all : List (List UInt8)) : Told L all (closL L all) := (closF_told _ _ (Told.nil _ _)).1
/-- where all is closed under references and lies in the store, all is told -/
theorem closL_all {L : Ents} {all : List (List UInt8)} {rk : List UInt8 → Nat} (ha : Acyc L rk) (hin : ∀ p ∈ all, ∃ e ∈ L, e.path = p ∧ ∀ r ∈ e.refs, r ∈ all) : ∀ p ∈ all, p ∈ closL L all := by
  have hend := (closF_told (L.length + 1) [] (Told.nil L all)).2 (by simp)
  have key : ∀ (n : Nat) (p : List UInt8), rk p ≤ n → p ∈ all → p ∈ closL L all := by
    intro n
    induction n with
    | zero =>
      intro p hn hp
      refine Classical.byContradiction fun hno => ?_
      obtain ⟨e, he, rfl, hr⟩ := hin p hp
      have := List.find?_eq_none.1 hend e he
      refine this (ready_iff.2 ⟨hp, hno, fun r hr2 => ?_⟩)
      rcases ha e he r hr2 with h | h
      · exact .inl h
      · omega
    | succ n ih =>
      intro p hn hp
      refine Classical.byContradiction fun hno => ?_
      obtain ⟨e, he, rfl, hr⟩ := hin p hp
      have := List.find?_eq_none.1 hend e he
      refine this (ready_iff.2 ⟨hp, hno, fun r hr2 => ?_⟩)
      rcases ha e he r hr2 with h | h
      · exact .inl h
      · exact .inr (ih r (by omega) (hr r hr2))
  exact fun p hp => key (rk p) p (Nat.le_refl _) hp
/-- a path more, that was not there, leaves a store without circles -/
theorem acyc_put {L : Ents} {rk : List UInt8 → Nat} (ha : Acyc L rk) (hhas : ∀ e ∈ L, ∀ r ∈ e.refs, (findE L r).isSome = true) {e : Ent} (hn : findE L e.path = none) (hr : ∀ r ∈ e.refs, r = e.path ∨ (findE L r).isSome = true) : ∃ rk', Acyc (putE L e) rk' := by
  obtain ⟨M, hM⟩ : ∃ M, ∀ x ∈ L, rk x.path < M := by
    clear ha hhas hn hr
    induction L with
    | nil => exact ⟨0, by simp⟩
    | cons y r ih =>
      obtain ⟨M, hM⟩ := ih
      refine ⟨max M (rk y.path + 1), fun x hx => ?_⟩
      rcases List.mem_cons.1 hx with rfl | hx
      · omega
      · have := hM x hx; omega
  refine ⟨fun p => if p = e.path then M else rk p, fun x hx r hrx => ?_⟩
  have hfar : ∀ r, (findE L r).isSome = true → r ≠ e.path ∧ rk r < M := fun r h => by
    obtain ⟨y, hy, rfl⟩ := findE_isSome.1 h
    exact ⟨findE_none.1 hn y hy, hM y hy⟩
  rcases putE_mem.1 hx with rfl | hx
  · rcases hr r hrx with h | h
    · exact .inl h
    · right
      show (if r = x.path then M else rk r) < (if x.path = x.path then M else rk x.path)
      rw [if_neg (hfar r h).1, if_pos rfl]
      exact (hfar r h).2
  · rcases ha x hx r hrx with h | h
    · exact .inl h
    · right
      show (if r = e.path then M else rk r) < (if x.path = e.path then M else rk x.path)
      rw [if_neg (hfar r (hhas x hx r hrx)).1, if_neg (findE_none.1 hn x hx)]
      exact h
end Go.Proofs.YtohbjbicmgnblaaDoor
