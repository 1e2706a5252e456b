/- Plain: a tree's shape; what is right is of that shape, and back; what is read is of that shape, to the byte, and back. -/
import Derived.Test.YtflkafnhhadphaaDoorChecked
import Derived.Test.YtflkafnhhadphaaDoorRead
import Derived.Test.YtflkafnhhadphaaDoorGrown
namespace Go.Proofs.YtflkafnhhadphaaDoor
open Go Go.RowKit
set_option linter.unusedVariables false

/- a name has no stroke -/
theorem cont_no47 : ∀ (m : Nat) (r : List UInt8) (c c' : Nat), contC m r c = some c' → (47 : UInt8) ∉ r.take m
  | 0, r, c, c', h => by simp
  | m + 1, [], c, c', h => by simp
  | m + 1, b :: r, c, c', h => by
    unfold contC at h
    by_cases hb : b.toNat < 128 ∨ 191 < b.toNat
    · rw [if_pos hb] at h; cases h
    · rw [if_neg hb] at h
      have := cont_no47 m r _ _ h
      rw [List.take_succ_cons, List.mem_cons, not_or]
      refine ⟨?_, this⟩
      intro e
      rw [← e] at hb
      exact hb (.inl (by decide))
theorem letter_no47 {l : List UInt8} {k : Nat} (h : letter l = some k) : (47 : UInt8) ∉ l.take k := by
  cases l with
  | nil => simp
  | cons b r =>
    cases hl : leadM b.toNat with
    | none => rw [letter_bad hl] at h; cases h
    | some mc =>
      obtain ⟨m, c⟩ := mc
      cases hc : contC m r c with
      | none => rw [letter_none hl hc] at h; cases h
      | some c' =>
        rw [letter_some hl hc] at h
        split at h
        · cases h
        · obtain rfl := Option.some.inj h
          rw [Nat.add_comm, List.take_succ_cons, List.mem_cons, not_or]
          refine ⟨?_, cont_no47 m r c c' hc⟩
          intro e
          rw [← e] at hl
          simp [leadM] at hl
theorem letters_no47 : ∀ (f : Nat) (l : List UInt8) (n : Nat), l.length ≤ f → (47 : UInt8) ∈ l → lettersOf l n = none
  | 0, l, n, hf, h => by
    obtain rfl : l = [] := List.eq_nil_of_length_eq_zero (by omega)
    simp at h
  | f + 1, l, n, hf, h => by
    have hne : l ≠ [] := by rintro rfl; simp at h
    rw [lettersOf_step l n hne]
    cases hl : letter l with
    | none => rfl
    | some k =>
      have hk := letter_pos hl
      refine letters_no47 f _ _ (by rw [List.length_drop]; omega) ?_
      rw [← List.take_append_drop k l, List.mem_append] at h
      exact h.resolve_left (letter_no47 hl)
theorem name_no47 {n : List UInt8} (h : nameB n = true) : (47 : UInt8) ∉ n := by
  intro hm
  rw [← refName_eq, refName, letters_no47 n.length n 0 (Nat.le_refl _) hm] at h
  cases h

theorem letter_le {l : List UInt8} {k : Nat} (h : letter l = some k) : k ≤ 4 := by
  cases l with
  | nil => cases h
  | cons b r =>
    cases hl : leadM b.toNat with
    | none => rw [letter_bad hl] at h; cases h
    | some mc =>
      obtain ⟨m, c⟩ := mc
      have hm : m ≤ 3 := by
        unfold leadM at hl
        split at hl
        · cases hl
        · split at hl
          · cases hl; omega
          · split at hl
            · cases hl; omega
            · split at hl
              · cases hl; omega
              · split at hl
                · cases hl; omega
                · cases hl
      cases hc : contC m r c with
      | none => rw [letter_none hl hc] at h; cases h
      | some c' =>
        rw [letter_some hl hc] at h
        split at h
        · cases h
        · obtain rfl := Option.some.inj h
          omega
theorem letters_len : ∀ (f : Nat) (l : List UInt8) (n m : Nat), l.length ≤ f → lettersOf l n = some m → l.length + 4 * n ≤ 4 * m
  | 0, l, n, m, hf, h => by
    obtain rfl : l = [] := List.eq_nil_of_length_eq_zero (by omega)
    have : some n = some m := h
    cases this
    simp
  | f + 1, l, n, m, hf, h => by
    by_cases hne : l = []
    · subst hne
      have : some n = some m := h
      cases this
      simp
    · rw [lettersOf_step l n hne] at h
      cases hl : letter l with
      | none => rw [hl] at h; cases h
      | some k =>
        rw [hl] at h
        have hk := letter_pos hl
        have hk4 := letter_le hl
        have hpos := List.length_pos_iff.2 hne
        have := letters_len f (l.drop k) (n + 1) m (by rw [List.length_drop]; omega) h
        rw [List.length_drop] at this
        omega
theorem name_len {n : List UInt8} (h : nameB n = true) : n.length ≤ 48 := by
  rw [← refName_eq, refName] at h
  cases hl : lettersOf n 0 with
  | none => rw [hl] at h; cases h
  | some m =>
    rw [hl] at h
    simp only [Bool.and_eq_true, decide_eq_true_eq] at h
    have := letters_len n.length n 0 m (Nat.le_refl _) hl
    omega

/- strings as bytes, and back -/
theorem num64_le8 (n : Nat) (h : n < 18446744073709551616) : num64 (le8 n) = n := by
  simp only [le8, List.range, List.range.loop, List.map, num64, leB, UInt8.toNat_ofNat']
  omega
theorem le8_num64 (l : List UInt8) (h : l.length = 8) : le8 (num64 l) = l := by
  obtain ⟨a, b, c, d, e, f, g, i, rfl⟩ : ∃ a b c d e f g i, l = [a, b, c, d, e, f, g, i] := by
    match l, h with
    | [a, b, c, d, e, f, g, i], _ => exact ⟨a, b, c, d, e, f, g, i, rfl⟩
  have ha := UInt8.toNat_lt a
  have hb := UInt8.toNat_lt b
  have hc := UInt8.toNat_lt c
  have hd := UInt8.toNat_lt d
  have he := UInt8.toNat_lt e
  have hf := UInt8.toNat_lt f
  have hg := UInt8.toNat_lt g
  have hi := UInt8.toNat_lt i
  simp only [le8, List.range, List.range.loop, List.map, leB, num64, List.cons.injEq, and_true]
  refine ⟨?_, ?_, ?_, ?_, ?_, ?_, ?_, ?_⟩ <;> (apply UInt8.toNat_inj.1; rw [UInt8.toNat_ofNat']; omega)
theorem zeros_of {l : List UInt8} (h : ¬ l.any (· != 0) = true) : l = List.replicate l.length 0 := by
  rw [List.eq_replicate_iff]
  refine ⟨rfl, fun x hx => ?_⟩
  rw [List.any_eq_true] at h
  exact Classical.byContradiction fun e => h ⟨x, hx, by simpa using e⟩
/-- a string that was read stood there, to the byte -/
theorem rNext_put {m : Nat} {ρ : RS} {x : List UInt8 × RS} (h : rNext m ρ = .ok x) : ρ.rest = putL x.1 ++ x.2.rest ∧ x.1.length ≤ m ∧ x.2.nodes = ρ.nodes ∧ x.2.at' = ρ.at' + (putL x.1).length := by
  unfold rNext at h
  split at h
  · cases h
  · split at h
    · cases h
    · split at h
      · cases h
      · split at h
        · cases h
        · rename_i h1 h2 h3 h4
          cases h
          simp only
          have h8 : (ρ.rest.take 8).length = 8 := by rw [List.length_take]; omega
          generalize hn : num64 (ρ.rest.take 8) = n at *
          have hle : le8 n = ρ.rest.take 8 := by rw [← hn]; exact le8_num64 _ h8
          have hsl : ((ρ.rest.drop 8).take n).length = n := by rw [List.length_take, List.length_drop]; omega
          have hz := zeros_of h4
          rw [List.length_take, List.length_drop, Nat.min_eq_left (by omega)] at hz
          have hput : putL ((ρ.rest.drop 8).take n) = ρ.rest.take (8 + n + padN n) := by
            unfold putL
            rw [hsl, hle, ← hz]
            have e1 : ρ.rest.take 8 ++ (ρ.rest.drop 8).take n = ρ.rest.take (8 + n) := (List.take_add).symm
            rw [e1]
            exact (List.take_add).symm
          refine ⟨?_, by rw [hsl]; omega, rfl, ?_⟩
          · rw [hput]
            exact (List.take_append_drop _ _).symm
          · rw [hput]
            show ρ.at' + _ = _
            rw [List.length_take, Nat.min_eq_left (by omega)]
/-- and back -/
theorem rNext_of {m : Nat} {s R : List UInt8} {ρ : RS} (h : ρ.rest = putL s ++ R) (hs : s.length ≤ m) (hm : m ≤ 1000) : rNext m ρ = .ok (s, ⟨R, ρ.at' + (putL s).length, ρ.nodes⟩) := by
  have hpl := putL_length s
  have hl : ρ.rest.length = 8 + s.length + padN s.length + R.length := by rw [h, List.length_append, hpl]
  have h8l : (le8 s.length).length = 8 := by simp [le8]
  have h8 : ρ.rest.take 8 = le8 s.length := by
    rw [h, putL, List.append_assoc, List.append_assoc, List.take_left' h8l]
  have hn : num64 (ρ.rest.take 8) = s.length := by rw [h8]; exact num64_le8 _ (by omega)
  have hd8 : (ρ.rest.drop 8).take s.length = s := by
    rw [h, putL, List.append_assoc, List.append_assoc, List.drop_left' h8l, List.take_left' rfl]
  have hdn : (ρ.rest.drop (8 + s.length)).take (padN s.length) = List.replicate (padN s.length) 0 := by
    rw [h, putL, List.append_assoc, List.drop_left' (by rw [List.length_append, h8l]), List.take_left' (by simp)]
  have hdr : ρ.rest.drop (8 + s.length + padN s.length) = R := by
    rw [h, List.drop_left' hpl]
  unfold rNext
  rw [hn, if_neg (by omega), if_neg (by omega), if_neg (by omega), hdn, if_neg (by simp), hd8, RS.skip, hdr, hpl]
theorem rWord_put {may : List (List UInt8)} {ρ : RS} {x : List UInt8 × RS} (h : rWord may ρ = .ok x) : ρ.rest = putL x.1 ++ x.2.rest ∧ x.1 ∈ may ∧ x.2.nodes = ρ.nodes ∧ x.2.at' = ρ.at' + (putL x.1).length := by
  obtain ⟨h1, h2⟩ := rWord_ok h
  obtain ⟨q1, q2, q3, q4⟩ := rNext_put h1
  exact ⟨q1, h2, q3, q4⟩
theorem rWord_of {may : List (List UInt8)} {s R : List UInt8} {ρ : RS} (h : ρ.rest = putL s ++ R) (hs : s.length ≤ 8) (hm : s ∈ may) : rWord may ρ = .ok (s, ⟨R, ρ.at' + (putL s).length, ρ.nodes⟩) := by
  unfold rWord
  rw [rNext_of h hs (by omega)]
  exact if_pos hm

/-- nodes within a directory, with so many directories still to come -/
inductive VF : Nat → List UInt8 → List UInt8 → List Node → Prop where
  | nil (d : Nat) (p last : List UInt8) : VF d p last []
  | leaf (d : Nat) (p last s : List UInt8) (y : Node) (r : List Node) : y.path = joinP p s → nameB s = true → leS s last = false → y.kind ≠ 4 → dataB y.kind y.data = true → VF (d + 1) p s r → VF (d + 1) p last (y :: r)
  | dir (d : Nat) (p last s : List UInt8) (y : Node) (sub r : List Node) : y.path = joinP p s → nameB s = true → leS s last = false → y.kind = 4 → y.data = [] → VF d (joinP p s) [] sub → VF (d + 1) p s r → VF (d + 1) p last (y :: (sub ++ r))
/-- one node, with what is below it -/
def VN (d : Nat) (path : List UInt8) (x : Node) (r : List Node) : Prop :=
  x.path = path ∧ ((x.kind ≠ 4 ∧ r = [] ∧ dataB x.kind x.data = true) ∨ (x.kind = 4 ∧ x.data = [] ∧ VF d path [] r))
theorem VF.under {d : Nat} {p last : List UInt8} {r : List Node} (h : VF d p last r) : ∀ z ∈ r, belowB z.path p = true := by
  induction h with
  | nil => intro z hz; cases hz
  | leaf d p last s y r h1 h2 h3 h4 h5 h6 ih =>
    intro z hz
    rcases List.mem_cons.1 hz with rfl | hz
    · rw [h1]; exact below_join _ _ (nameB_ne h2)
    · exact ih z hz
  | dir d p last s y sub r h1 h2 h3 h4 h5 h6 h7 ih1 ih2 =>
    intro z hz
    rcases List.mem_cons.1 hz with rfl | hz
    · rw [h1]; exact below_join _ _ (nameB_ne h2)
    · rcases List.mem_append.1 hz with hz | hz
      · exact below_trans (ih1 z hz) (below_join _ _ (nameB_ne h2))
      · exact ih2 z hz
theorem join_inj {p s t : List UInt8} (h : joinP p s = joinP p t) : s = t := by
  unfold joinP at h
  split at h
  · exact h
  · simpa using h
/-- the first that comes behind a name is not below it -/
theorem VF.head {d : Nat} {p s : List UInt8} {z : Node} {r : List Node} (h : VF d p s (z :: r)) (hs : nameB s = true) : belowB z.path (joinP p s) = false := by
  have key : ∀ t : List UInt8, nameB t = true → leS t s = false → belowB (joinP p t) (joinP p s) = false := by
    intro t ht hl
    rw [Bool.eq_false_iff]
    intro hb
    rw [join_below p t _ (nameB_ne ht) (name_no47 ht) (join_ne p s (nameB_ne hs))] at hb
    have hbs := below_len (below_join p s (nameB_ne hs))
    rcases hb with e | e
    · rw [e] at hbs; omega
    · have := below_len e; omega
  cases h with
  | leaf d _ _ t _ _ h1 h2 h3 _ _ _ => rw [h1]; exact key t h2 h3
  | dir d _ _ t _ _ _ h1 h2 h3 _ _ _ _ => rw [h1]; exact key t h2 h3
theorem tw_split {p : Node → Bool} : ∀ (a b : List Node), (∀ z ∈ a, p z = true) → (∀ z r, b = z :: r → p z = false) → (a ++ b).takeWhile p = a ∧ (a ++ b).dropWhile p = b
  | [], b, _, hb => by
    cases b with
    | nil => exact ⟨rfl, rfl⟩
    | cons z r =>
      have := hb z r rfl
      exact ⟨List.takeWhile_cons_of_neg (by simp [this]), List.dropWhile_cons_of_neg (by simp [this])⟩
  | x :: a, b, ha, hb => by
    have h := tw_split a b (fun z hz => ha z (List.mem_cons_of_mem _ hz)) hb
    have hx := ha x (List.mem_cons_self ..)
    rw [List.cons_append, List.takeWhile_cons_of_pos hx, List.dropWhile_cons_of_pos hx, h.1, h.2]
    exact ⟨rfl, rfl⟩
theorem forest_leaf {d : Nat} {p s : List UInt8} {y : Node} {r : List Node} (h1 : y.path = joinP p s) (h2 : nameB s = true) (h : VF d p s r) : forest (y :: r) = entryT y ++ (nodeR y (forest []) ++ (putL [41] ++ forest r)) := by
  rw [forest_cons]
  have := tw_split (p := fun z : Node => belowB z.path y.path) [] r (by simp) (fun z t e => by subst e; show belowB z.path y.path = false; rw [h1]; exact h.head h2)
  rw [List.nil_append] at this
  rw [this.1, this.2]
theorem forest_dir {d d' : Nat} {p s : List UInt8} {y : Node} {sub r : List Node} (h1 : y.path = joinP p s) (h2 : nameB s = true) (hs : VF d' (joinP p s) [] sub) (h : VF d p s r) : forest (y :: (sub ++ r)) = entryT y ++ (nodeR y (forest sub) ++ (putL [41] ++ forest r)) := by
  rw [forest_cons]
  have := tw_split (p := fun z : Node => belowB z.path y.path) sub r (fun z hz => by show belowB z.path y.path = true; rw [h1]; exact hs.under z hz) (fun z t e => by subst e; show belowB z.path y.path = false; rw [h1]; exact h.head h2)
  rw [this.1, this.2]
theorem entry_name {p s : List UInt8} {y : Node} (h1 : y.path = joinP p s) (h2 : nameB s = true) : entryT y = putL wEntry ++ (putL wOpen ++ (putL wName ++ (putL s ++ putL wNode))) := by
  unfold entryT
  rw [h1, dirOf_join p s (name_no47 h2)]
  simp [putAll]
theorem nodeR_text (x : Node) (kids : List UInt8) : nodeR x kids = putL wOpen ++ (putL wType ++ ((if x.kind = 1 ∨ x.kind = 2 ∨ x.kind = 3 then leafR x.kind x.data else putL wDir ++ kids) ++ putL wShut)) := by
  unfold nodeR
  simp [putAll]
end Go.Proofs.YtflkafnhhadphaaDoor
