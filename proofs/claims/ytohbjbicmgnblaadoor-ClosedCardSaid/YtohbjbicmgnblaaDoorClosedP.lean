/- Plain: what Closed asks of what a path leads to. -/
import Derived.Test.YtohbjbicmgnblaaDoorChecked
import Derived.Test.YtohbjbicmgnblaaDoorStoredM
namespace Go.Proofs.YtohbjbicmgnblaaDoor
open Go Go.RowKit
set_option linter.unusedVariables false

/-- what Closed asks of a list that was told -/
structure ClosedOk (n : Nat) (RR : List (List (List UInt8))) (root : List UInt8) (out : List (List UInt8)) : Prop where
  last : ∃ a, out = a ++ [root]
  once : out.Nodup
  mem : ∀ p ∈ out, ∃ i, i < n ∧ p = nm (fb i)
  ahead : ∀ (j : Nat) (p : List UInt8), out[j]? = some p → ∀ i rs, i < n → p = nm (fb i) → RR[i]? = some rs → ∀ r ∈ rs, r = p ∨ r ∈ out.take j
  used : ∀ (j : Nat) (p : List UInt8), out[j]? = some p → p ≠ root → ∃ u ∈ out.drop (j + 1), ∃ i rs, i < n ∧ u = nm (fb i) ∧ RR[i]? = some rs ∧ p ∈ rs
theorem nodup_at {α : Type} {l : List α} (h : l.Nodup) {i j : Nat} {x : α} (hi : l[i]? = some x) (hj : l[j]? = some x) : i = j := by
  obtain ⟨h1, h2⟩ := List.getElem?_eq_some_iff.1 hi
  obtain ⟨h3, h4⟩ := List.getElem?_eq_some_iff.1 hj
  rcases Nat.lt_trichotomy i j with hl | hl | hl
  · exact absurd (h2.trans h4.symm) (List.pairwise_iff_getElem.1 h i j h1 h3 hl)
  · exact hl
  · exact absurd (h4.trans h2.symm) (List.pairwise_iff_getElem.1 h j i h3 h1 hl)
theorem closed_ok {n : Nat} {RR : List (List (List UInt8))} {L : Ents} {K : List (List UInt8)} {root : List UInt8} (hF : Filling n RR L) (hok : StoreOk L) (hR : ReachOf L [root, root] K) : ClosedOk n RR root (closL L K) := by
  have hT := closL_told L K
  have hall := closL_all hF.acyc (all := K) hR.keys
  have hroot : root ∈ K := hR.has root (by simp)
  have hsame : ∀ e ∈ L, ∀ i rs, i < n → e.path = nm (fb i) → RR[i]? = some rs → rs = e.refs := fun e he i rs hi hp hrs => by
    obtain ⟨i', hi', hp', hr'⟩ := hF.ents e he
    have := fb_inj (by have := hF.ten; omega) (by have := hF.ten; omega) (nm_inj (hp'.symm.trans hp))
    subst this
    rw [hrs, Option.some.injEq] at hr'
    exact hr'
  have hmem : ∀ p ∈ closL L K, ∃ e ∈ L, e.path = p := fun p hp => by
    obtain ⟨e, he, hep, -⟩ := hR.keys p (hT.all p hp)
    exact ⟨e, he, hep⟩
  generalize closL L K = out at *
  refine ⟨?_, hT.once, fun p hp => ?_, fun j p hj i rs hi hp hrs r hr => ?_, fun j p hj hne => ?_⟩
  · obtain ⟨a, b, hab⟩ := List.append_of_mem (hall root hroot)
    have hX : ∀ k ∈ K, k ∈ a ++ [root] := hR.least (fun p => p ∈ a ++ [root]) (fun e he hp r hr => by
      have hpre : ∃ a' b', out = a' ++ e.path :: b' ∧ ∀ q ∈ a', q ∈ a ++ [root] := by
        rcases List.mem_append.1 hp with hp | hp
        · obtain ⟨a1, a2, ha⟩ := List.append_of_mem hp
          exact ⟨a1, a2 ++ root :: b, by rw [hab, ha]; simp, fun q hq => by rw [ha]; simp [hq]⟩
        · rw [List.mem_singleton] at hp
          exact ⟨a, b, by rw [hab, hp], fun q hq => List.mem_append.2 (.inl hq)⟩
      obtain ⟨a', b', hab', hq⟩ := hpre
      obtain ⟨e', he', hep', hr'⟩ := hT.ahead a' e.path b' hab'
      have := hok.uniq he' he hep'
      subst this
      rcases hr' r hr with h | h
      · rw [h]; exact hp
      · exact hq r h) (fun r hr => by
        have : r = root := by simpa using hr
        rw [this]; simp)
    have hb : b = [] := by
      cases b with
      | nil => rfl
      | cons q b' =>
        exfalso
        have hq : q ∈ a ++ [root] := hX q (hT.all q (by rw [hab]; simp))
        have hnd := hT.once
        rw [hab, show a ++ root :: q :: b' = (a ++ [root]) ++ (q :: b') by simp] at hnd
        exact (List.nodup_append.1 hnd).2.2 q hq q (List.mem_cons_self ..) rfl
    exact ⟨a, by rw [hab, hb]⟩
  · obtain ⟨e, he, hep⟩ := hmem p hp
    obtain ⟨i, hi, hip, -⟩ := hF.ents e he
    exact ⟨i, hi, hep.symm.trans hip⟩
  · obtain ⟨hjl, hjp⟩ := List.getElem?_eq_some_iff.1 hj
    have hsplit : out = out.take j ++ p :: out.drop (j + 1) := by
      rw [← hjp, ← List.drop_eq_getElem_cons hjl, List.take_append_drop]
    obtain ⟨e, he, hep, hr'⟩ := hT.ahead _ _ _ hsplit
    have := hsame e he i rs hi (hep.trans hp) hrs
    subst this
    exact hr' r hr
  · have hX : ∀ k ∈ K, k ∈ K ∧ (k = root ∨ ∃ e ∈ L, e.path ∈ K ∧ e.path ≠ k ∧ k ∈ e.refs) := hR.least (fun k => k ∈ K ∧ (k = root ∨ ∃ e ∈ L, e.path ∈ K ∧ e.path ≠ k ∧ k ∈ e.refs)) (fun e he hp r hr => by
      obtain ⟨h1, h2⟩ := hp
      obtain ⟨e', he', hep', hr'⟩ := hR.keys _ h1
      have := hok.uniq he' he hep'
      subst this
      refine ⟨hr' r hr, ?_⟩
      by_cases hre : r = e'.path
      · rw [hre]; exact h2
      · exact .inr ⟨e', he, h1, fun h => hre h.symm, hr⟩) (fun r hr => by
        have : r = root := by simpa using hr
        rw [this]
        exact ⟨hroot, .inl rfl⟩)
    have hpo : p ∈ out := List.mem_of_getElem? hj
    obtain ⟨-, h | ⟨e, he, hek, hep, hre⟩⟩ := hX p (hT.all p hpo)
    · exact absurd h hne
    · obtain ⟨a, b, hab⟩ := List.append_of_mem (hall _ hek)
      obtain ⟨e', he', hep', hr'⟩ := hT.ahead a e.path b hab
      have := hok.uniq he' he hep'
      subst this
      have hpa : p ∈ a := by
        rcases hr' p hre with h | h
        · exact absurd h.symm hep
        · exact h
      obtain ⟨j', hj', hjp'⟩ := List.getElem_of_mem hpa
      have hjj : j = j' := nodup_at hT.once hj (by rw [hab, List.getElem?_append_left hj', List.getElem?_eq_getElem hj', hjp'])
      subst hjj
      obtain ⟨i, hi, hip, hir⟩ := hF.ents e' he
      refine ⟨e'.path, ?_, i, e'.refs, hi, hip, hir, hre⟩
      rw [hab, List.drop_append_of_le_length (by omega)]
      exact List.mem_append.2 (.inr (List.mem_cons_self ..))
end Go.Proofs.YtohbjbicmgnblaaDoor
