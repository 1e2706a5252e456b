/- Plain: heaps of texts as lists: one more, the least out. -/
import Derived.Test.YtohbjbicmgnblaaDoorChecked
import Derived.Test.YtohbjbicmgnblaaDoorStoreP
namespace Go.Proofs.YtohbjbicmgnblaaDoor
open Go Go.RowKit
set_option linter.unusedVariables false

def leT (a b : List UInt8) : Prop := Op.bytesLess b a = false
theorem leT_refl (a : List UInt8) : leT a a := bytesLess_irrefl a
theorem leT_of_less {a b : List UInt8} (h : Op.bytesLess a b = true) : leT a b := by
  unfold leT
  cases hb : Op.bytesLess b a with
  | false => rfl
  | true =>
    have := bytesLess_trans h hb
    rw [bytesLess_irrefl] at this
    cases this
theorem leT_trans {a b c : List UInt8} (h1 : leT a b) (h2 : leT b c) : leT a c := by
  unfold leT at *
  cases hc : Op.bytesLess c a with
  | false => rfl
  | true =>
    exfalso
    by_cases hab : a = b
    · rw [hab, h2] at hc; cases hc
    · have hab2 : Op.bytesLess a b = true := bytesLess_total h1 fun e => hab e.symm
      have := bytesLess_trans hc hab2
      rw [h2] at this
      cases this
theorem less_of_le {a b : List UInt8} (h1 : leT a b) (h2 : a ≠ b) : Op.bytesLess a b = true := bytesLess_total h1 fun e => h2 e.symm
def gT (l : List (List UInt8)) (k : Nat) : List UInt8 := l.getD k []
def swapT (l : List (List UInt8)) (i j : Nat) : List (List UInt8) := (l.set i (gT l j)).set j (gT l i)
theorem gT_at {l : List (List UInt8)} {k : Nat} (h : k < l.length) : gT l k = l[k] := by simp [gT, List.getD_eq_getElem?_getD, List.getElem?_eq_getElem h]
theorem swapT_length (l : List (List UInt8)) (i j : Nat) : (swapT l i j).length = l.length := by simp [swapT]
theorem gT_swap {l : List (List UInt8)} {i j : Nat} (hi : i < l.length) (hj : j < l.length) (k : Nat) : gT (swapT l i j) k = if k = j then gT l i else if k = i then gT l j else gT l k := by
  unfold gT swapT
  simp only [List.getD_eq_getElem?_getD, List.getElem?_set, List.length_set]
  by_cases h1 : k = j
  · subst h1
    simp [hj, gT]
  · by_cases h2 : k = i
    · subst h2
      have : ¬ j = k := fun e => h1 e.symm
      simp [h1, this, hi, gT]
    · have h3 : ¬ j = k := fun e => h1 e.symm
      have h4 : ¬ i = k := fun e => h2 e.symm
      simp [h1, h2, h3, h4]
theorem swapT_perm {l : List (List UInt8)} {i j : Nat} (hi : i < l.length) (hj : j < l.length) : (swapT l i j).Perm l := by
  have h := Array.swap_perm (xs := l.toArray) (i := i) (j := j) (by simpa using hi) (by simpa using hj)
  have h2 := Array.perm_iff_toList_perm.1 h
  have h3 : (l.toArray.swap i j (by simpa using hi) (by simpa using hj)).toList = swapT l i j := by
    unfold swapT
    rw [gT_at hi, gT_at hj]
    simp [Array.swap]
  rw [h3] at h2
  simpa using h2
/-- the first n texts are a heap -/
def HeapN (l : List (List UInt8)) (n : Nat) : Prop := ∀ k, k < n → 0 < k → leT (gT l ((k - 1) / 2)) (gT l k)
def UpInv (l : List (List UInt8)) (n j : Nat) : Prop := (∀ k, k < n → 0 < k → k ≠ j → leT (gT l ((k - 1) / 2)) (gT l k)) ∧ ∀ c, c < n → 0 < c → (c - 1) / 2 = j → 0 < j → leT (gT l ((j - 1) / 2)) (gT l c)
theorem UpInv.zero {l : List (List UInt8)} {n : Nat} (h : UpInv l n 0) : HeapN l n := fun k hk h0 => h.1 k hk h0 (by omega)
theorem UpInv.done {l : List (List UInt8)} {n j : Nat} (h : UpInv l n j) (hl : Op.bytesLess (gT l j) (gT l ((j - 1) / 2)) = false) : HeapN l n := fun k hk h0 => by
  by_cases e : k = j
  · subst e; exact hl
  · exact h.1 k hk h0 e
theorem UpInv.step {l : List (List UInt8)} {j : Nat} (h : UpInv l l.length j) (hj : j < l.length) (h0 : 0 < j) (hl : Op.bytesLess (gT l j) (gT l ((j - 1) / 2)) = true) : UpInv (swapT l ((j - 1) / 2) j) l.length ((j - 1) / 2) := by
  obtain ⟨i, hi⟩ : ∃ i, i = (j - 1) / 2 := ⟨_, rfl⟩
  rw [← hi] at hl ⊢
  have hij : i < j := by omega
  have hs := gT_swap (l := l) (i := i) (j := j) (by omega) hj
  have hle := leT_of_less hl
  constructor
  · intro k hk hk0 hki
    rw [hs, hs]
    by_cases e1 : k = j
    · subst e1
      rw [if_pos rfl, ← hi, if_neg (by omega), if_pos rfl]
      exact hle
    · rw [if_neg e1, if_neg hki]
      by_cases e2 : (k - 1) / 2 = j
      · rw [if_pos e2]
        have := h.2 k hk hk0 e2 h0
        rw [← hi] at this
        exact this
      · rw [if_neg e2]
        by_cases e3 : (k - 1) / 2 = i
        · rw [if_pos e3]
          have := h.1 k hk hk0 e1
          rw [e3] at this
          exact leT_trans hle this
        · rw [if_neg e3]
          exact h.1 k hk hk0 e1
  · intro c hc hc0 hci hi0
    rw [hs, hs]
    rw [if_neg (by omega : ¬ (i - 1) / 2 = j), if_neg (by omega : ¬ (i - 1) / 2 = i)]
    have hii := h.1 i (by omega) hi0 (by omega)
    by_cases e1 : c = j
    · rw [if_pos e1]
      exact hii
    · rw [if_neg e1, if_neg (by omega : ¬ c = i)]
      have := h.1 c hc hc0 e1
      rw [hci] at this
      exact leT_trans hii this
/-- one more at the end -/
theorem UpInv.snoc {l : List (List UInt8)} (h : HeapN l l.length) (x : List UInt8) : UpInv (l ++ [x]) (l ++ [x]).length l.length := by
  have hg : ∀ k, k < l.length → gT (l ++ [x]) k = gT l k := fun k hk => by
    simp [gT, List.getD_eq_getElem?_getD, List.getElem?_append_left hk]
  constructor
  · intro k hk h0 hkl
    simp only [List.length_append, List.length_singleton] at hk
    rw [hg k (by omega), hg _ (by omega)]
    exact h k (by omega) h0
  · intro c hc h0 hcl
    simp only [List.length_append, List.length_singleton] at hc
    omega
def DownInv (l : List (List UInt8)) (n i : Nat) : Prop := (∀ k, k < n → 0 < k → (k - 1) / 2 ≠ i → leT (gT l ((k - 1) / 2)) (gT l k)) ∧ ∀ k, k < n → 0 < k → (k - 1) / 2 = i → 0 < i → leT (gT l ((i - 1) / 2)) (gT l k)
theorem DownInv.leaf {l : List (List UInt8)} {n i : Nat} (h : DownInv l n i) (hi : n ≤ 2 * i + 1) : HeapN l n := fun k hk h0 => h.1 k hk h0 (by omega)
/-- j: the least child -/
def LeastC (l : List (List UInt8)) (n i j : Nat) : Prop := (j = 2 * i + 1 ∨ j = 2 * i + 2) ∧ j < n ∧ ∀ k, k < n → 0 < k → (k - 1) / 2 = i → leT (gT l j) (gT l k)
theorem LeastC.one {l : List (List UInt8)} {n i : Nat} (h : 2 * i + 1 < n) (h2 : n ≤ 2 * i + 2) : LeastC l n i (2 * i + 1) := ⟨.inl rfl, h, fun k hk h0 hki => by
  have : k = 2 * i + 1 := by omega
  rw [this]; exact leT_refl _⟩
theorem LeastC.left {l : List (List UInt8)} {n i : Nat} (h : 2 * i + 2 < n) (hl : Op.bytesLess (gT l (2 * i + 2)) (gT l (2 * i + 1)) = false) : LeastC l n i (2 * i + 1) := ⟨.inl rfl, by omega, fun k hk h0 hki => by
  rcases (by omega : k = 2 * i + 1 ∨ k = 2 * i + 2) with e | e
  · rw [e]; exact leT_refl _
  · rw [e]; exact hl⟩
theorem LeastC.right {l : List (List UInt8)} {n i : Nat} (h : 2 * i + 2 < n) (hl : Op.bytesLess (gT l (2 * i + 2)) (gT l (2 * i + 1)) = true) : LeastC l n i (2 * i + 2) := ⟨.inr rfl, h, fun k hk h0 hki => by
  rcases (by omega : k = 2 * i + 1 ∨ k = 2 * i + 2) with e | e
  · rw [e]; exact leT_of_less hl
  · rw [e]; exact leT_refl _⟩
theorem DownInv.done {l : List (List UInt8)} {n i j : Nat} (h : DownInv l n i) (hc : LeastC l n i j) (hl : Op.bytesLess (gT l j) (gT l i) = false) : HeapN l n := fun k hk h0 => by
  by_cases e : (k - 1) / 2 = i
  · rw [e]
    exact leT_trans hl (hc.2.2 k hk h0 e)
  · exact h.1 k hk h0 e
theorem DownInv.step {l : List (List UInt8)} {n i j : Nat} (h : DownInv l n i) (hn : n ≤ l.length) (hc : LeastC l n i j) (hl : Op.bytesLess (gT l j) (gT l i) = true) : DownInv (swapT l i j) n j := by
  obtain ⟨hj, hjn, hmin⟩ := hc
  have hs := gT_swap (l := l) (i := i) (j := j) (by omega) (by omega)
  have hle := leT_of_less hl
  have hpj : (j - 1) / 2 = i := by omega
  constructor
  · intro k hk h0 hkj
    rw [hs, hs, if_neg hkj]
    by_cases e1 : (k - 1) / 2 = i
    · rw [if_pos e1]
      by_cases e2 : k = j
      · rw [if_pos e2]; exact hle
      · rw [if_neg e2, if_neg (by omega : ¬ k = i)]
        exact hmin k hk h0 e1
    · rw [if_neg e1, if_neg (by omega : ¬ k = j)]
      by_cases e2 : k = i
      · rw [if_pos e2, e2]
        exact h.2 j hjn (by omega) hpj (by omega)
      · rw [if_neg e2]
        exact h.1 k hk h0 e1
  · intro k hk h0 hkj hj0
    rw [hs, hs, hpj, if_neg (by omega : ¬ i = j), if_pos rfl, if_neg (by omega : ¬ k = j), if_neg (by omega : ¬ k = i)]
    have := h.1 k hk h0 (by omega)
    rw [hkj] at this
    exact this
/-- the first is the least -/
theorem HeapN.least {l : List (List UInt8)} {n : Nat} (h : HeapN l n) : ∀ k, k < n → leT (gT l 0) (gT l k) := by
  intro k
  induction k using Nat.strongRecOn with
  | ind k ih =>
    intro hk
    rcases Nat.eq_zero_or_pos k with e | e
    · rw [e]; exact leT_refl _
    · exact leT_trans (ih ((k - 1) / 2) (by omega) (by omega)) (h k hk e)
/-- the first and the last have changed places, and the last is out of sight -/
theorem DownInv.start {l : List (List UInt8)} {n : Nat} (h : HeapN l l.length) (hn : l.length = n + 1) : DownInv (swapT l 0 n) n 0 := by
  have hs := gT_swap (l := l) (i := 0) (j := n) (by omega) (by omega)
  constructor
  · intro k hk h0 hk2
    rw [hs, hs, if_neg (by omega : ¬ (k - 1) / 2 = n), if_neg hk2, if_neg (by omega : ¬ k = n), if_neg (by omega : ¬ k = 0)]
    exact h k (by omega) h0
  · intro k hk h0 hk2 h00
    omega
theorem HeapN.take {l : List (List UInt8)} {n : Nat} (h : HeapN l n) (hn : n ≤ l.length) : HeapN (l.take n) (l.take n).length := by
  have hg : ∀ k, k < n → gT (l.take n) k = gT l k := fun k hk => by
    simp [gT, List.getD_eq_getElem?_getD, hk]
  intro k hk h0
  rw [List.length_take] at hk
  rw [hg k (by omega), hg _ (by omega)]
  exact h k (by omega) h0
end Go.Proofs.YtohbjbicmgnblaaDoor
