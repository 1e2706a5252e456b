/- Plain: the stores that narkeep.stored makes. -/
import Derived.Test.YtohbjbicmgnblaaDoorChecked
import Derived.Test.YtohbjbicmgnblaaDoorPick
import Derived.Test.YtohbjbicmgnblaaDoorMainP
import Derived.Test.YtohbjbicmgnblaaDoorInsert
namespace Go.Proofs.YtohbjbicmgnblaaDoor
open Go Go.RowKit
set_option linter.unusedVariables false

/-- a name by its first byte -/
def nm (c : UInt8) : List UInt8 := [c, 45, 49]
/-- the first byte of the j-th name -/
def fb (j : Nat) : UInt8 := UInt8.ofNat (97 + (7 * j + 3) % 26)
def namesOf (n : Nat) : List (List UInt8) := (List.range n).map fun j => nm (fb j)
theorem namesOf_succ (n : Nat) : namesOf (n + 1) = namesOf n ++ [nm (fb n)] := by simp [namesOf, List.range_succ]
theorem namesOf_len (n : Nat) : (namesOf n).length = n := by simp [namesOf]
theorem namesOf_at {n j : Nat} (h : j < n) : (namesOf n)[j]? = some (nm (fb j)) := by simp [namesOf, h]
theorem namesOf_mem {n : Nat} {s : List UInt8} : s ∈ namesOf n ↔ ∃ j, j < n ∧ s = nm (fb j) := by
  simp only [namesOf, List.mem_map, List.mem_range]
  exact ⟨fun ⟨j, h1, h2⟩ => ⟨j, h1, h2.symm⟩, fun ⟨j, h1, h2⟩ => ⟨j, h1, h2.symm⟩⟩
theorem nm_inj {a b : UInt8} (h : nm a = nm b) : a = b := by
  unfold nm at h
  exact (List.cons.inj h).1
theorem fb_nat (j : Nat) : (fb j).toNat = 97 + (7 * j + 3) % 26 := by
  unfold fb
  rw [UInt8.toNat_ofNat']
  omega
theorem fb_inj {j k : Nat} (hj : j < 10) (hk : k < 10) (h : fb j = fb k) : j = k := by
  have h1 := congrArg UInt8.toNat h
  rw [fb_nat, fb_nat] at h1
  omega
theorem nm_less {a b : UInt8} (h : a < b) : Op.bytesLess (nm a) (nm b) = true := by
  rw [bytesLess_lt, decide_eq_true_eq]
  exact List.cons_lt_cons_iff.2 (.inl h)
theorem nm_path {j : Nat} (hj : j < 10) : pathB (nm (fb j)) = true := by
  have : ∀ j, j < 10 → pathB (nm (fb j)) = true := by decide
  exact this j hj
theorem rising_nm : ∀ {cs : List UInt8}, cs.Pairwise (· < ·) → risingB (cs.map nm) = true
  | [], _ => rfl
  | [a], _ => rfl
  | a :: b :: r, h => by
    obtain ⟨h1, h2⟩ := List.pairwise_cons.1 h
    show (Op.bytesLess (nm a) (nm b) && risingB ((b :: r).map nm)) = true
    rw [nm_less (h1 b (by simp)), rising_nm h2]
    rfl
/-- what narkeep.stored has made: n entries; RR their references -/
structure Filling (n : Nat) (RR : List (List (List UInt8))) (L : Ents) : Prop where
  rr : RR.length = n
  ll : L.length = n
  ten : n ≤ 10
  ents : ∀ e ∈ L, ∃ i, i < n ∧ e.path = nm (fb i) ∧ RR[i]? = some e.refs
  back : ∀ i, i < n → ∃ e ∈ L, e.path = nm (fb i) ∧ RR[i]? = some e.refs
  refs : ∀ i rs, RR[i]? = some rs → ∀ r ∈ rs, ∃ j, j ≤ i ∧ r = nm (fb j)
theorem Filling.nil : Filling 0 [] [] := ⟨rfl, rfl, by omega, by simp, fun i hi => by omega, by simp⟩
theorem Filling.step {n : Nat} {RR : List (List (List UInt8))} {L : Ents} (h : Filling n RR L) (hn : n < 10) {l : List Node} (hw : wrongL l = -1) {cs : List UInt8} (hp : cs.Pairwise (· < ·)) (hm : ∀ a ∈ cs, ∃ j, j ≤ n ∧ a = fb j) :
    insE L (nm (fb n)) l (cs.map nm) = (0, putE L ⟨nm (fb n), l, cs.map nm⟩) ∧ Filling (n + 1) (RR ++ [cs.map nm]) (putE L ⟨nm (fb n), l, cs.map nm⟩) := by
  have hf : findE L (nm (fb n)) = none := findE_none.2 fun e he hep => by
    obtain ⟨i, hi, hip, -⟩ := h.ents e he
    have := fb_inj (by omega) hn (nm_inj (hip.symm.trans hep))
    omega
  have hok : InsOk L (nm (fb n)) l (cs.map nm) := ⟨nm_path hn, hw, rising_nm hp, fun r hr => by
    obtain ⟨a, ha, rfl⟩ := List.mem_map.1 hr
    obtain ⟨j, hj, rfl⟩ := hm a ha
    by_cases hjn : j = n
    · exact .inl (by rw [hjn])
    · right
      obtain ⟨e, he, hep, -⟩ := h.back j (by omega)
      exact findE_isSome.2 ⟨e, he, hep⟩⟩
  refine ⟨by rw [insE_e hok, hf, if_neg (by have := h.ll; omega)], by simp [h.rr], by rw [putE_length, h.ll], by omega, fun e he => ?_, fun i hi => ?_, fun i rs hrs r hr => ?_⟩
  · rcases putE_mem.1 he with rfl | he
    · exact ⟨n, by omega, rfl, by rw [List.getElem?_append_right (by rw [h.rr]; omega), h.rr]; simp⟩
    · obtain ⟨i, hi, hip, hir⟩ := h.ents e he
      exact ⟨i, by omega, hip, by rw [List.getElem?_append_left (by rw [h.rr]; omega)]; exact hir⟩
  · by_cases hin : i = n
    · subst hin
      exact ⟨_, putE_mem.2 (.inl rfl), rfl, by rw [List.getElem?_append_right (by rw [h.rr]; omega), h.rr]; simp⟩
    · obtain ⟨e, he, hep, her⟩ := h.back i (by omega)
      exact ⟨e, putE_mem.2 (.inr he), hep, by rw [List.getElem?_append_left (by rw [h.rr]; omega)]; exact her⟩
  · by_cases hin : i < RR.length
    · rw [List.getElem?_append_left hin] at hrs
      exact h.refs i rs hrs r hr
    · rw [List.getElem?_append_right (by omega)] at hrs
      have hi0 : i - RR.length = 0 := by
        cases hd : i - RR.length with
        | zero => rfl
        | succ d => rw [hd] at hrs; simp at hrs
      rw [hi0] at hrs
      simp only [List.getElem?_cons_zero, Option.some.injEq] at hrs
      subst hrs
      obtain ⟨a, ha, rfl⟩ := List.mem_map.1 hr
      obtain ⟨j, hj, rfl⟩ := hm a ha
      exact ⟨j, by have := h.rr; omega, rfl⟩
/-- the places of names: nothing goes round -/
theorem Filling.acyc {n : Nat} {RR : List (List (List UInt8))} {L : Ents} (h : Filling n RR L) : Acyc L fun p => (idxL (namesOf n) p).toNat := by
  intro e he r hr
  obtain ⟨i, hi, hip, hir⟩ := h.ents e he
  obtain ⟨j, hj, rfl⟩ := h.refs i _ hir r hr
  have hidx : ∀ k, k < n → idxL (namesOf n) (nm (fb k)) = k := fun k hk => by
    obtain ⟨q, hq1, hq2, hq3⟩ := idxL_at (l := namesOf n) (s := nm (fb k)) (namesOf_mem.2 ⟨k, hk, rfl⟩)
    rw [namesOf_len] at hq2
    rw [namesOf_at hq2, Option.some.injEq] at hq3
    have := fb_inj (by have := h.ten; omega) (by have := h.ten; omega) (nm_inj hq3)
    rw [hq1, this]
  by_cases hij : j = i
  · left
    rw [hip, hij]
  · right
    show (idxL (namesOf n) (nm (fb j))).toNat < (idxL (namesOf n) e.path).toNat
    rw [hip, hidx i hi, hidx j (by omega)]
    omega
/-- the letters while a round goes on: all below c, or at c and told ahead of place k -/
structure Letters (n c k : Nat) (cs : List UInt8) : Prop where
  rise : cs.Pairwise (· < ·)
  le : ∀ a ∈ cs, a.toNat ≤ c
  at' : ∀ a ∈ cs, a.toNat = c → ∃ j, j < k ∧ a = fb j
  mem : ∀ a ∈ cs, ∃ j, j ≤ n ∧ a = fb j
theorem Letters.start (n c : Nat) : Letters n c 0 [] := ⟨List.Pairwise.nil, by simp, by simp, by simp⟩
theorem Letters.pass {n c k : Nat} {cs : List UInt8} (h : Letters n c k cs) : Letters n c (k + 1) cs := ⟨h.rise, h.le, fun a ha hc => by
  obtain ⟨j, hj, he⟩ := h.at' a ha hc
  exact ⟨j, by omega, he⟩, h.mem⟩
theorem Letters.push {n c k : Nat} {cs : List UInt8} (h : Letters n c k cs) (hn : n < 10) (hk : k ≤ n) (hc : (fb k).toNat = c) : Letters n c (k + 1) (cs ++ [fb k]) := by
  refine ⟨?_, fun a ha => ?_, fun a ha hac => ?_, fun a ha => ?_⟩
  · rw [List.pairwise_append]
    refine ⟨h.rise, List.pairwise_singleton _ _, fun a ha b hb => ?_⟩
    rw [List.mem_singleton] at hb
    subst hb
    have h1 := h.le a ha
    rw [UInt8.lt_iff_toNat_lt, hc]
    refine Nat.lt_of_le_of_ne h1 fun e => ?_
    obtain ⟨j, hj, he⟩ := h.at' a ha e
    have := fb_inj (by omega) (by omega) (UInt8.toNat_inj.1 (by rw [← he, e, hc]) : fb j = fb k)
    omega
  · rcases List.mem_append.1 ha with ha | ha
    · exact h.le a ha
    · rw [List.mem_singleton.1 ha, hc]
      exact Nat.le_refl _
  · rcases List.mem_append.1 ha with ha | ha
    · obtain ⟨j, hj, he⟩ := h.at' a ha hac
      exact ⟨j, by omega, he⟩
    · exact ⟨k, by omega, List.mem_singleton.1 ha⟩
  · rcases List.mem_append.1 ha with ha | ha
    · exact h.mem a ha
    · exact ⟨k, hk, List.mem_singleton.1 ha⟩
theorem Letters.next {n c k : Nat} {cs : List UInt8} (h : Letters n c k cs) : Letters n (c + 1) 0 cs := ⟨h.rise, fun a ha => by have := h.le a ha; omega, fun a ha hac => by have := h.le a ha; omega, h.mem⟩
end Go.Proofs.YtohbjbicmgnblaaDoor
