/- Plain: how far the document's reader goes, and how many nodes it has. -/
import Derived.Test.YtflkafnhhadphaaDoorChecked
import Derived.Test.YtflkafnhhadphaaDoorRefQ
namespace Go.Proofs.YtflkafnhhadphaaDoor
open Go Go.RowKit
set_option linter.unusedVariables false

theorem fail_la (q : RQ) (e p : Int) : (q.fail e p).l = q.l ∧ (q.fail e p).at' = q.at' := by
  unfold RQ.fail; split <;> exact ⟨rfl, rfl⟩
theorem qNext_la (S : List UInt8) (m : Nat) (q : RQ) : (qNext S m q).2.l = q.l ∧ q.at' ≤ (qNext S m q).2.at' := by
  unfold qNext
  split
  · exact ⟨rfl, Nat.le_refl _⟩
  · cases h : rNext m (q.rs S) with
    | error x => exact ⟨rfl, Nat.le_refl _⟩
    | ok x =>
      obtain ⟨k, h1, h2, h3, -⟩ := rNext_ok h
      refine ⟨rfl, ?_⟩
      show q.at' ≤ x.2.at'
      rw [h3]
      exact Nat.le_add_right _ _
theorem qWord_la (S : List UInt8) (may : List (List UInt8)) (q : RQ) : (qWord S may q).2.l = q.l ∧ q.at' ≤ (qWord S may q).2.at' := by
  have h := qNext_la S 8 q
  unfold qWord
  split
  · exact h
  · simp only
    rw [(fail_la ..).1, (fail_la ..).2]
    exact h
theorem qMany_la (q : RQ) (p : Int) : (qMany q p).l = q.l ∧ (qMany q p).at' = q.at' := by
  unfold qMany; split
  · exact fail_la ..
  · exact ⟨rfl, rfl⟩
theorem qHead_la (S : List UInt8) (b : Bool) (q : RQ) : (qHead S b q).2.l = q.l ∧ q.at' ≤ (qHead S b q).2.at' := by
  unfold qHead
  have h1 := qWord_la S [wOpen] q
  have h2 : (if b = true then (qWord S [wOpen] q).2.fail 8 q.at' else (qWord S [wOpen] q).2).l = q.l ∧ q.at' ≤ (if b = true then (qWord S [wOpen] q).2.fail 8 q.at' else (qWord S [wOpen] q).2).at' := by
    split
    · rw [(fail_la ..).1, (fail_la ..).2]; exact h1
    · exact h1
  generalize (if b = true then (qWord S [wOpen] q).2.fail 8 q.at' else (qWord S [wOpen] q).2) = q2 at *
  have h3 := qMany_la q2 q.at'
  have h4 := qWord_la S [wType] (qMany q2 q.at')
  have h5 := qWord_la S [wFile, wLink, wDir] (qWord S [wType] (qMany q2 q.at')).2
  exact ⟨by rw [h5.1, h4.1, h3.1, h2.1], by have := h3.2; omega⟩
theorem qHead_ne {S : List UInt8} {b : Bool} {q : RQ} (h : (qHead S b q).1 ≠ []) : q.l.length ≠ 30 := by
  intro h30
  apply h
  unfold qHead
  have h1 := qWord_la S [wOpen] q
  have h2 : (if b = true then (qWord S [wOpen] q).2.fail 8 q.at' else (qWord S [wOpen] q).2).l = q.l := by
    split
    · rw [(fail_la ..).1]; exact h1.1
    · exact h1.1
  generalize (if b = true then (qWord S [wOpen] q).2.fail 8 q.at' else (qWord S [wOpen] q).2) = q2 at *
  have hb : (qMany q2 q.at').e ≠ 0 := by
    rw [qMany, if_pos (by rw [h2]; exact h30), RQ.fail]
    split
    · show (9 : Int) ≠ 0; decide
    · assumption
  rw [qWord_bad hb, qWord_bad hb]
theorem qFile_la (S path : List UInt8) (q : RQ) : (qFile S path q).l.length = q.l.length + 1 ∧ q.at' ≤ (qFile S path q).at' := by
  unfold qFile
  have h1 := qWord_la S [wExec, wData] q
  generalize qWord S [wExec, wData] q = x at *
  split
  · have h2 := qWord_la S [[]] x.2
    generalize qWord S [[]] x.2 = y at *
    have h3 := qWord_la S [wData] y.2
    generalize qWord S [wData] y.2 = z at *
    have h4 := qNext_la S 100 z.2
    generalize qNext S 100 z.2 = u at *
    have h5 := qWord_la S [wShut] (u.2.add ⟨path, 2, u.1⟩)
    simp only [RQ.add] at h5
    exact ⟨by rw [RQ.add, h5.1]; simp [h4.1, h3.1, h2.1, h1.1], by rw [RQ.add]; omega⟩
  · have h4 := qNext_la S 100 x.2
    generalize qNext S 100 x.2 = u at *
    have h5 := qWord_la S [wShut] (u.2.add ⟨path, 1, u.1⟩)
    simp only [RQ.add] at h5
    exact ⟨by rw [RQ.add, h5.1]; simp [h4.1, h1.1], by rw [RQ.add]; omega⟩
theorem qLink_la (S path : List UInt8) (q : RQ) : (qLink S path q).l.length = q.l.length + 1 ∧ q.at' ≤ (qLink S path q).at' := by
  unfold qLink
  have h1 := qWord_la S [wTo] q
  generalize qWord S [wTo] q = x at *
  have h4 := qNext_la S 100 x.2
  generalize qNext S 100 x.2 = u at *
  have h2 : (if dataB 3 u.1 = true then u.2 else u.2.fail 6 x.2.at').l = q.l ∧ q.at' ≤ (if dataB 3 u.1 = true then u.2 else u.2.fail 6 x.2.at').at' := by
    split
    · exact ⟨by rw [h4.1, h1.1], by omega⟩
    · rw [(fail_la ..).1, (fail_la ..).2]; exact ⟨by rw [h4.1, h1.1], by omega⟩
  generalize (if dataB 3 u.1 = true then u.2 else u.2.fail 6 x.2.at') = v at *
  have h5 := qWord_la S [wShut] (v.add ⟨path, 3, u.1⟩)
  simp only [RQ.add] at h5
  exact ⟨by rw [RQ.add, h5.1]; simp [h2.1], by rw [RQ.add]; omega⟩
/-- a function that goes on, and keeps to thirty nodes -/
def Keeps30 (node : List UInt8 → RQ → RQ) : Prop := ∀ p q, (q.l.length ≤ 30 → (node p q).l.length ≤ 30) ∧ q.at' ≤ (node p q).at'
theorem qEntry_la {S : List UInt8} {node : List UInt8 → RQ → RQ} (hn : Keeps30 node) (path last : List UInt8) (q : RQ) : (q.l.length ≤ 30 → (qEntry S node path last q).2.l.length ≤ 30) ∧ q.at' ≤ (qEntry S node path last q).2.at' := by
  unfold qEntry
  simp only
  have h1 := qWord_la S [wOpen] q
  generalize qWord S [wOpen] q = x at *
  have h2 := qWord_la S [wName] x.2
  generalize qWord S [wName] x.2 = y at *
  have h3 := qNext_la S 48 y.2
  generalize qNext S 48 y.2 = z at *
  have h4 : (if nameB z.1 = true then z.2 else z.2.fail 6 y.2.at').l = z.2.l ∧ (if nameB z.1 = true then z.2 else z.2.fail 6 y.2.at').at' = z.2.at' := by
    split
    · exact ⟨rfl, rfl⟩
    · exact fail_la ..
  generalize (if nameB z.1 = true then z.2 else z.2.fail 6 y.2.at') = u at *
  have h5 : (if leS z.1 last = true then u.fail 7 y.2.at' else u).l = u.l ∧ (if leS z.1 last = true then u.fail 7 y.2.at' else u).at' = u.at' := by
    split
    · exact fail_la ..
    · exact ⟨rfl, rfl⟩
  generalize (if leS z.1 last = true then u.fail 7 y.2.at' else u) = v at *
  have h6 := qWord_la S [wNode] v
  generalize qWord S [wNode] v = t at *
  have h7 := hn (joinP path z.1) t.2
  generalize node (joinP path z.1) t.2 = r at *
  have h8 := qWord_la S [wShut] r
  refine ⟨fun h => ?_, by omega⟩
  rw [h8.1]
  exact h7.1 (by rw [h6.1, h5.1, h4.1, h3.1, h2.1, h1.1]; exact h)
theorem qDirF_la {S : List UInt8} {node : List UInt8 → RQ → RQ} (hn : Keeps30 node) (path : List UInt8) : ∀ (f : Nat) (last : List UInt8) (q : RQ), (q.l.length ≤ 30 → (qDirF S node path f last q).l.length ≤ 30) ∧ q.at' ≤ (qDirF S node path f last q).at'
  | 0, last, q => ⟨fun h => h, Nat.le_refl _⟩
  | f + 1, last, q => by
    rw [qDirF]
    have h1 := qWord_la S [wEntry, wShut] q
    generalize qWord S [wEntry, wShut] q = x at *
    split
    · have h2 := qEntry_la (S := S) hn path last x.2
      generalize qEntry S node path last x.2 = y at *
      have h3 := qDirF_la (S := S) hn path f y.1 y.2
      exact ⟨fun h => h3.1 (h2.1 (by rw [h1.1]; exact h)), by omega⟩
    · exact ⟨fun h => by rw [h1.1]; exact h, h1.2⟩
theorem qNode_la (S : List UInt8) : ∀ d : Nat, Keeps30 (qNode S d)
  | 0 => fun p q => by
    rw [qNode]
    have := qHead_la S true q
    exact ⟨fun h => by rw [this.1]; exact h, this.2⟩
  | d + 1 => fun p q => by
    rw [qNode]
    have h1 := qHead_la S false q
    have hne := qHead_ne (S := S) (b := false) (q := q)
    generalize qHead S false q = x at *
    split
    · rename_i h
      have h30 := hne (by rw [h]; decide)
      have h2 := qFile_la S p x.2
      exact ⟨fun hq => by rw [h2.1, h1.1]; omega, by omega⟩
    · split
      · rename_i h
        have h30 := hne (by rw [h]; decide)
        have h2 := qLink_la S p x.2
        exact ⟨fun hq => by rw [h2.1, h1.1]; omega, by omega⟩
      · split
        · rename_i h
          have h30 := hne (by rw [h]; decide)
          have h2 := qDirF_la (S := S) (qNode_la S d) p (S.length + 1) [] (x.2.add ⟨p, 4, []⟩)
          simp only [RQ.add] at h2
          refine ⟨fun hq => h2.1 (by rw [List.length_append, h1.1]; simp; omega), ?_⟩
          rw [RQ.add]
          omega
        · exact ⟨fun h => by rw [h1.1]; exact h, h1.2⟩
theorem qWord_far {S : List UInt8} {may : List (List UInt8)} {q : RQ} (h : (qWord S may q).1 ≠ []) : (qWord S may q).2.e = 0 ∧ q.at' + 8 ≤ (qWord S may q).2.at' := by
  unfold qWord at h ⊢
  split
  · rename_i h0
    rw [if_pos h0] at h
    refine ⟨h0.1, ?_⟩
    have h1 := h0.1
    unfold qNext at h1 ⊢
    split
    · rename_i he; rw [if_pos he] at h1; exact absurd h1 he
    · rename_i he
      rw [if_neg he] at h1
      cases hn : rNext 8 (q.rs S) with
      | error x => rw [hn] at h1; exact absurd h1 (rNext_ne hn)
      | ok x =>
        obtain ⟨k, h2, h3, h4, -⟩ := rNext_ok hn
        show q.at' + 8 ≤ x.2.at'
        rw [h4]
        show q.at' + 8 ≤ q.at' + k
        omega
  · rename_i h0
    rw [if_neg h0] at h
    exact absurd rfl h
theorem qNext_len (S : List UInt8) (m : Nat) (q : RQ) : (qNext S m q).1.length ≤ m := by
  unfold qNext
  split
  · exact Nat.zero_le _
  · cases hn : rNext m (q.rs S) with
    | error x => exact Nat.zero_le _
    | ok x => obtain ⟨k, _, _, _, h, _⟩ := rNext_ok hn; exact h
end Go.Proofs.YtflkafnhhadphaaDoor
