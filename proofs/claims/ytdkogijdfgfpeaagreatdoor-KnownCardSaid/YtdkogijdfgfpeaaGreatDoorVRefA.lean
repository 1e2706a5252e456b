/- narref: strings with their lengths. -/
import Derived.Test.YtdkogijdfgfpeaaGreatDoorVPack
set_option linter.unusedVariables false
namespace Go.Proofs.YtdkogijdfgfpeaaGreatDoor
open Go Go.RowKit
theorem str_app (a b : List UInt8) : (⟨a.toArray⟩ : ByteArray) ++ ⟨b.toArray⟩ = ⟨(a ++ b).toArray⟩ := by
 apply ByteArray.ext
 rw [ByteArray.data_append]
 simp
end Go.Proofs.YtdkogijdfgfpeaaGreatDoor
namespace Go.Proofs.YtdkogijdfgfpeaaGreatDoor
open Go Go.RowKit
def depthL (p : List UInt8) : Nat := if p = [] then 0 else 1 + p.countP (· == 47)
def belowB (p d : List UInt8) : Bool := if d = [] then !p.isEmpty else decide (d.length < p.length) && (p.take (d.length + 1) == d ++ [47])
end Go.Proofs.YtdkogijdfgfpeaaGreatDoor
namespace Go.Proofs.YtdkogijdfgfpeaaGreatDoor
open Go Go.RowKit
def leadM (b : Nat) : Option (Nat × Nat) :=
 if b < 32 ∨ b = 47 ∨ b = 127 then none
 else if b < 128 then some (0, b)
 else if 194 ≤ b ∧ b < 224 then some (1, b % 32)
 else if 224 ≤ b ∧ b < 240 then some (2, b % 16)
 else if 240 ≤ b ∧ b < 245 then some (3, b % 8)
 else none
def contC : Nat → List UInt8 → Nat → Option Nat
 | 0, _, c => some c
 | _ + 1, [], _ => none
 | m + 1, b :: r, c => if b.toNat < 128 ∨ 191 < b.toNat then none else contC m r (64 * c + b.toNat % 64)
def badC (m c : Nat) : Bool := decide (m = 2 ∧ (c < 2048 ∨ (55296 ≤ c ∧ c < 57344))) || decide (m = 3 ∧ (c < 65536 ∨ 1114111 < c))
def letter : List UInt8 → Option Nat
 | [] => none
 | b :: r => match leadM b.toNat with
   | none => none
   | some (m, c) => match contC m r c with
     | none => none
     | some c' => if badC m c' then none else some (1 + m)
def lettersF : Nat → List UInt8 → Nat → Option Nat
 | 0, _, n => some n
 | f + 1, l, n => if l = [] then some n else match letter l with
   | none => none
   | some k => lettersF f (l.drop k) (n + 1)
theorem letter_bad {b : UInt8} {r : List UInt8} (h : leadM b.toNat = none) : letter (b :: r) = none := by
 unfold letter
 simp only [h]
theorem letter_none {b : UInt8} {r : List UInt8} {m c : Nat} (h : leadM b.toNat = some (m, c)) (h2 : contC m r c = none) : letter (b :: r) = none := by
 unfold letter
 simp only [h, h2]
theorem letter_some {b : UInt8} {r : List UInt8} {m c c' : Nat} (h : leadM b.toNat = some (m, c)) (h2 : contC m r c = some c') : letter (b :: r) = if badC m c' then none else some (1 + m) := by
 unfold letter
 simp only [h, h2]
theorem letter_pos {l : List UInt8} {k : Nat} (h : letter l = some k) : 1 ≤ k := by
 unfold letter at h
 split at h
 ·cases h
 ·split at h
  ·cases h
  ·split at h
   ·cases h
   ·split at h
    ·cases h
    ·cases h; omega
theorem lettersF_fuel : ∀ (f g : Nat) (l : List UInt8) (n : Nat), l.length ≤ f → l.length ≤ g → lettersF f l n = lettersF g l n
 | 0, g, l, n, hf, _ => by
   obtain rfl : l = [] := List.eq_nil_of_length_eq_zero (by omega)
   cases g <;> simp [lettersF]
 | f + 1, 0, l, n, _, hg => by
   obtain rfl : l = [] := List.eq_nil_of_length_eq_zero (by omega)
   simp [lettersF]
 | f + 1, g + 1, l, n, hf, hg => by
   unfold lettersF
   by_cases h : l = []
   ·rw [if_pos h, if_pos h]
   ·rw [if_neg h, if_neg h]
    cases hl : letter l with
    | none => rfl
    | some k =>
      have := letter_pos hl
      exact lettersF_fuel f g _ _ (by rw [List.length_drop]; omega) (by rw [List.length_drop]; omega)
def lettersOf (l : List UInt8) (n : Nat) : Option Nat := lettersF l.length l n
theorem lettersOf_step (l : List UInt8) (n : Nat) (h : l ≠ []) : lettersOf l n = match letter l with
  | none => none
  | some k => lettersOf (l.drop k) (n + 1) := by
 obtain ⟨f, hf⟩ : ∃ f, l.length = f + 1 := ⟨l.length - 1, by have := List.length_pos_iff.2 h; omega⟩
 unfold lettersOf
 rw [hf]
 show (if l = [] then _ else _) = _
 rw [if_neg h]
 cases hl : letter l with
 | none => rfl
 | some k =>
   have := letter_pos hl
   exact lettersF_fuel _ _ _ _ (by rw [List.length_drop]; omega) (Nat.le_refl _)
def refName (l : List UInt8) : Bool := match lettersOf l 0 with
 | none => false
 | some n => decide (1 ≤ n) && decide (n ≤ 12) && l != [46] && l != [46, 46]
end Go.Proofs.YtdkogijdfgfpeaaGreatDoor
namespace Go.Proofs.YtdkogijdfgfpeaaGreatDoor
open Go Go.RowKit
theorem cont_N (x : UInt8) (m c : Nat) (r : List UInt8) : contC (m + 1) (x :: r) c = if x.toNat / 64 = 2 then contC m r (64 * c + x.toNat % 64) else none := by
 have := UInt8.toNat_lt x
 show (if _ then _ else _) = _
 by_cases h : x.toNat / 64 = 2
 ·rw [if_neg (by omega), if_pos h]
 ·rw [if_pos (by omega), if_neg h]
theorem cont1 (r : List UInt8) (c : Nat) : contC 1 r c = if 1 < r.length + 1 ∧ (r.getD 0 0).toNat / 64 = 2 then some (64 * c + (r.getD 0 0).toNat % 64) else none := by
 cases r with
 | nil => simp [contC]
 | cons x r => rw [cont_N]; simp [contC]
theorem cont2 (r : List UInt8) (c : Nat) : contC 2 r c = if (1 < r.length + 1 ∧ (r.getD 0 0).toNat / 64 = 2) ∧ (2 < r.length + 1 ∧ (r.getD 1 0).toNat / 64 = 2) then some (64 * (64 * c + (r.getD 0 0).toNat % 64) + (r.getD 1 0).toNat % 64) else none := by
 cases r with
 | nil => simp [contC]
 | cons x r =>
   rw [cont_N, cont1]
   by_cases h : x.toNat / 64 = 2
   ·simp [h]
   ·simp [h]
theorem cont3 (r : List UInt8) (c : Nat) : contC 3 r c = if (1 < r.length + 1 ∧ (r.getD 0 0).toNat / 64 = 2) ∧ (2 < r.length + 1 ∧ (r.getD 1 0).toNat / 64 = 2) ∧ (3 < r.length + 1 ∧ (r.getD 2 0).toNat / 64 = 2) then some (64 * (64 * (64 * c + (r.getD 0 0).toNat % 64) + (r.getD 1 0).toNat % 64) + (r.getD 2 0).toNat % 64) else none := by
 cases r with
 | nil => simp [contC]
 | cons x r =>
   rw [cont_N, cont2]
   have e : (3 < r.length + 1 + 1) = (2 < r.length + 1) := propext ⟨fun h => by omega, fun h => by omega⟩
   by_cases h : x.toNat / 64 = 2
   ·simp [h, e]
   ·simp [h]
def letN (n b0 b1 b2 b3 : Nat) : Option Nat :=
 match leadM b0 with
 | none => none
 | some (0, _) => some 1
 | some (1, _) => if 1 < n ∧ b1 / 64 = 2 then some 2 else none
 | some (2, c) => if (1 < n ∧ b1 / 64 = 2) ∧ (2 < n ∧ b2 / 64 = 2) then (if badC 2 (64 * (64 * c + b1 % 64) + b2 % 64) then none else some 3) else none
 | some (_, c) => if (1 < n ∧ b1 / 64 = 2) ∧ (2 < n ∧ b2 / 64 = 2) ∧ (3 < n ∧ b3 / 64 = 2) then (if badC 3 (64 * (64 * (64 * c + b1 % 64) + b2 % 64) + b3 % 64) then none else some 4) else none
theorem leadM_le {b m c : Nat} (h : leadM b = some (m, c)) : m ≤ 3 := by
 unfold leadM at h
 repeat' split at h
 all_goals (cases h; try omega)
theorem letter_N (b : UInt8) (r : List UInt8) : letter (b :: r) = letN (r.length + 1) b.toNat (r.getD 0 0).toNat (r.getD 1 0).toNat (r.getD 2 0).toNat := by
 unfold letN
 cases h : leadM b.toNat with
 | none => exact letter_bad h
 | some mc =>
   obtain ⟨m, c⟩ := mc
   have hm := leadM_le h
   unfold letter
   simp only [h]
   match m, hm with
   | 0, _ => rfl
   | 1, _ =>
     rw [cont1]
     show _ = if 1 < r.length + 1 ∧ (r.getD 0 0).toNat / 64 = 2 then some 2 else none
     by_cases hc : 1 < r.length + 1 ∧ (r.getD 0 0).toNat / 64 = 2
     ·rw [if_pos hc, if_pos hc]; rfl
     ·rw [if_neg hc, if_neg hc]
   | 2, _ =>
     rw [cont2]
     show _ = if (1 < r.length + 1 ∧ (r.getD 0 0).toNat / 64 = 2) ∧ (2 < r.length + 1 ∧ (r.getD 1 0).toNat / 64 = 2) then _ else none
     by_cases hc : (1 < r.length + 1 ∧ (r.getD 0 0).toNat / 64 = 2) ∧ (2 < r.length + 1 ∧ (r.getD 1 0).toNat / 64 = 2)
     ·rw [if_pos hc, if_pos hc]
     ·rw [if_neg hc, if_neg hc]
   | 3, _ =>
     rw [cont3]
     show _ = if (1 < r.length + 1 ∧ (r.getD 0 0).toNat / 64 = 2) ∧ (2 < r.length + 1 ∧ (r.getD 1 0).toNat / 64 = 2) ∧ (3 < r.length + 1 ∧ (r.getD 2 0).toNat / 64 = 2) then _ else none
     by_cases hc : (1 < r.length + 1 ∧ (r.getD 0 0).toNat / 64 = 2) ∧ (2 < r.length + 1 ∧ (r.getD 1 0).toNat / 64 = 2) ∧ (3 < r.length + 1 ∧ (r.getD 2 0).toNat / 64 = 2)
     ·rw [if_pos hc, if_pos hc]
     ·rw [if_neg hc, if_neg hc]
theorem badR_iff (r : Nat) : badR r = true ↔ r < 32 ∨ r = 47 ∨ r = 127 := by
 unfold badR; simp [or_assoc]
theorem letN_decode (n b0 b1 b2 b3 : Nat) (h0 : b0 < 256) :
 letN n b0 b1 b2 b3 = if ((Lib.decodeN n b0 b1 b2 b3).1 = 65533 ∧ (Lib.decodeN n b0 b1 b2 b3).2 = 1) ∨ ((Lib.decodeN n b0 b1 b2 b3).1 < 32 ∨ (Lib.decodeN n b0 b1 b2 b3).1 = 47 ∨ (Lib.decodeN n b0 b1 b2 b3).1 = 127) then none else some (Lib.decodeN n b0 b1 b2 b3).2 := by
 have hbad2 : ∀ c, badC 2 c = decide (c < 2048 ∨ (55296 ≤ c ∧ c < 57344)) := fun c => by unfold badC; simp
 have hbad3 : ∀ c, badC 3 c = decide (c < 65536 ∨ 1114111 < c) := fun c => by unfold badC; simp
 by_cases ha : b0 < 128
 ·have hd : Lib.decodeN n b0 b1 b2 b3 = (b0, 1) := by unfold Lib.decodeN; rw [if_pos ha]
  rw [hd]
  by_cases hbad : b0 < 32 ∨ b0 = 47 ∨ b0 = 127
  ·rw [if_pos (.inr hbad)]
   unfold letN leadM
   rw [if_pos hbad]
  ·rw [if_neg (by simp only; omega)]
   unfold letN leadM
   rw [if_neg hbad, if_pos ha]
   rfl
 ·have hbad : ¬ (b0 < 32 ∨ b0 = 47 ∨ b0 = 127) := by omega
  by_cases h2 : 194 ≤ b0 ∧ b0 < 224
  ·have hl : letN n b0 b1 b2 b3 = if 1 < n ∧ b1 / 64 = 2 then some 2 else none := by unfold letN leadM; rw [if_neg hbad, if_neg ha, if_pos h2]; rfl
   rw [hl]
   by_cases hc : 1 < n ∧ b1 / 64 = 2
   ·have hd : Lib.decodeN n b0 b1 b2 b3 = (b0 % 32 * 64 + b1 % 64, 2) := by
     unfold Lib.decodeN
     rw [if_neg ha, if_pos ⟨by omega, hc⟩, if_pos (by omega)]
    rw [hd, if_pos hc, if_neg (by simp only; omega)]
   ·have hd : Lib.decodeN n b0 b1 b2 b3 = (65533, 1) := by
     unfold Lib.decodeN
     rw [if_neg ha, if_neg (fun h => hc h.2), if_neg (by omega), if_neg (by omega)]
    rw [hd, if_neg hc]; rfl
  ·by_cases h3 : 224 ≤ b0 ∧ b0 < 240
   ·have hl : letN n b0 b1 b2 b3 = if (1 < n ∧ b1 / 64 = 2) ∧ (2 < n ∧ b2 / 64 = 2) then (if badC 2 (64 * (64 * (b0 % 16) + b1 % 64) + b2 % 64) then none else some 3) else none := by unfold letN leadM; rw [if_neg hbad, if_neg ha, if_neg h2, if_pos h3]; rfl
    rw [hl, hbad2]
    by_cases hc : (1 < n ∧ b1 / 64 = 2) ∧ (2 < n ∧ b2 / 64 = 2)
    ·by_cases hv : b0 % 16 * 4096 + b1 % 64 * 64 + b2 % 64 ≥ 2048 ∧ (b0 % 16 * 4096 + b1 % 64 * 64 + b2 % 64 < 55296 ∨ (57344 ≤ b0 % 16 * 4096 + b1 % 64 * 64 + b2 % 64 ∧ b0 % 16 * 4096 + b1 % 64 * 64 + b2 % 64 ≤ 1114111))
     ·have hd : Lib.decodeN n b0 b1 b2 b3 = (b0 % 16 * 4096 + b1 % 64 * 64 + b2 % 64, 3) := by
       unfold Lib.decodeN
       rw [if_neg ha, if_neg (by omega), if_pos ⟨by omega, hc⟩, if_pos hv]
      rw [hd, if_pos hc, decide_eq_false (by omega), if_neg Bool.false_ne_true, if_neg (by simp only; omega)]
     ·have hd : Lib.decodeN n b0 b1 b2 b3 = (65533, 1) := by
       unfold Lib.decodeN
       rw [if_neg ha, if_neg (by omega), if_pos ⟨by omega, hc⟩, if_neg hv]
      rw [hd, if_pos hc, decide_eq_true (by omega)]
      rfl
    ·have hd : Lib.decodeN n b0 b1 b2 b3 = (65533, 1) := by
      unfold Lib.decodeN
      rw [if_neg ha, if_neg (by omega), if_neg (fun h => hc h.2), if_neg (by omega)]
     rw [hd, if_neg hc]; rfl
   ·by_cases h4 : 240 ≤ b0 ∧ b0 < 245
    ·have hl : letN n b0 b1 b2 b3 = if (1 < n ∧ b1 / 64 = 2) ∧ (2 < n ∧ b2 / 64 = 2) ∧ (3 < n ∧ b3 / 64 = 2) then (if badC 3 (64 * (64 * (64 * (b0 % 8) + b1 % 64) + b2 % 64) + b3 % 64) then none else some 4) else none := by unfold letN leadM; rw [if_neg hbad, if_neg ha, if_neg h2, if_neg h3, if_pos h4]; rfl
     rw [hl, hbad3]
     by_cases hc : (1 < n ∧ b1 / 64 = 2) ∧ (2 < n ∧ b2 / 64 = 2) ∧ (3 < n ∧ b3 / 64 = 2)
     ·by_cases hv : b0 % 8 * 262144 + b1 % 64 * 4096 + b2 % 64 * 64 + b3 % 64 ≥ 65536 ∧ (b0 % 8 * 262144 + b1 % 64 * 4096 + b2 % 64 * 64 + b3 % 64 < 55296 ∨ (57344 ≤ b0 % 8 * 262144 + b1 % 64 * 4096 + b2 % 64 * 64 + b3 % 64 ∧ b0 % 8 * 262144 + b1 % 64 * 4096 + b2 % 64 * 64 + b3 % 64 ≤ 1114111))
      ·have hd : Lib.decodeN n b0 b1 b2 b3 = (b0 % 8 * 262144 + b1 % 64 * 4096 + b2 % 64 * 64 + b3 % 64, 4) := by
        unfold Lib.decodeN
        rw [if_neg ha, if_neg (by omega), if_neg (by omega), if_pos ⟨by omega, hc⟩, if_pos hv]
       rw [hd, if_pos hc, decide_eq_false (by omega), if_neg Bool.false_ne_true, if_neg (by simp only; omega)]
      ·have hd : Lib.decodeN n b0 b1 b2 b3 = (65533, 1) := by
        unfold Lib.decodeN
        rw [if_neg ha, if_neg (by omega), if_neg (by omega), if_pos ⟨by omega, hc⟩, if_neg hv]
       rw [hd, if_pos hc, decide_eq_true (by omega)]
       rfl
     ·have hd : Lib.decodeN n b0 b1 b2 b3 = (65533, 1) := by
       unfold Lib.decodeN
       rw [if_neg ha, if_neg (by omega), if_neg (by omega), if_neg (fun h => hc h.2)]
      rw [hd, if_neg hc]; rfl
    ·have hl : letN n b0 b1 b2 b3 = none := by unfold letN leadM; rw [if_neg hbad, if_neg ha, if_neg h2, if_neg h3, if_neg h4]
     have hd : Lib.decodeN n b0 b1 b2 b3 = (65533, 1) := by
      unfold Lib.decodeN
      repeat' split
      all_goals first | rfl | omega
     rw [hl, hd]; rfl
theorem letter_decode (l : List UInt8) (hl : l ≠ []) : letter l = if ((Lib.decodeL l).1 = 65533 ∧ (Lib.decodeL l).2 = 1) ∨ badR (Lib.decodeL l).1 = true then none else some (Lib.decodeL l).2 := by
 cases l with
 | nil => exact absurd rfl hl
 | cons b r =>
   rw [letter_N, letN_decode _ _ _ _ _ (UInt8.toNat_lt b), Lib.decodeL_N]
   simp only [badR_iff]
   rfl
theorem letters_scan : ∀ (f : Nat) (l : List UInt8) (n : Nat), l.length ≤ f → lettersOf l n = match scanOf l n with
  | none => none
  | some k => if Lib.validD l then some k else none
 | 0, l, n, h => by
   obtain rfl : l = [] := List.eq_nil_of_length_eq_zero (by omega)
   rfl
 | f + 1, l, n, h => by
   by_cases hl : l = []
   ·subst hl; rfl
   ·have hw := Lib.decodeL_width l
    rw [lettersOf_step l n hl, letter_decode l hl, scanOf_step l n hl, Lib.validD_step l hl]
    by_cases hb : badR (Lib.decodeL l).1 = true
    ·rw [if_pos (.inr hb), if_pos hb]
    ·rw [if_neg hb]
     by_cases hi : (Lib.decodeL l).1 = 65533 ∧ (Lib.decodeL l).2 = 1
     ·rw [if_pos (.inl hi), if_pos hi]
      cases scanOf (l.drop (Lib.decodeL l).2) (n + 1) <;> rfl
     ·rw [if_neg (by rintro (h | h); exact hi h; exact hb h), if_neg hi]
      have hpos : 0 < l.length := List.length_pos_iff.2 hl
      exact letters_scan f _ _ (by rw [List.length_drop]; omega)
theorem refName_eq (l : List UInt8) : refName l = nameB l := by
 unfold refName nameB
 rw [letters_scan l.length l 0 (Nat.le_refl _)]
 cases scanOf l 0 with
 | none => rfl
 | some n =>
   simp only
   by_cases hv : Lib.validD l = true
   ·rw [if_pos hv, hv]
    simp [Nat.one_le_iff_ne_zero, Nat.pos_iff_ne_zero, Bool.and_assoc]
   ·rw [if_neg hv, Bool.eq_false_iff.2 hv]
    simp
end Go.Proofs.YtdkogijdfgfpeaaGreatDoor
namespace Go.Proofs.YtdkogijdfgfpeaaGreatDoor
open Go Go.RowKit
theorem leS_not (a b : List UInt8) : leS a b = !Op.bytesLess b a := by
 unfold leS
 induction a generalizing b with
 | nil => cases b <;> rfl
 | cons x s ih =>
   cases b with
   | nil => rfl
   | cons y t =>
     simp only [Op.bytesLess]
     have := ih t
     rcases Nat.lt_trichotomy x.toNat y.toNat with h | h | h
     ·have h1 : x < y := UInt8.lt_iff_toNat_lt.2 h
      have h2 : ¬ y < x := fun h' => by have := UInt8.lt_iff_toNat_lt.1 h'; omega
      have h3 : ¬ y = x := fun e => by rw [e] at h; omega
      simp [h1, h2, h3]
     ·have h1 : x = y := UInt8.toNat_inj.1 h
      subst h1
      simpa using this
     ·have h1 : y < x := UInt8.lt_iff_toNat_lt.2 h
      have h2 : ¬ x < y := fun h' => by have := UInt8.lt_iff_toNat_lt.1 h'; omega
      have h3 : ¬ x = y := fun e => by rw [e] at h; omega
      simp [h1, h2, h3]
end Go.Proofs.YtdkogijdfgfpeaaGreatDoor
namespace Go.Proofs.YtdkogijdfgfpeaaGreatDoor
open Go Go.RowKit
def leafR (kd : Int) (da : List UInt8) : List UInt8 :=
 if kd = 1 then putAll [[102, 105, 108, 101], [100, 97, 116, 97], da]
 else if kd = 2 then putAll [[102, 105, 108, 101], [101, 120, 101, 99], [], [100, 97, 116, 97], da]
 else putAll [[108, 105, 110, 107], [116, 111], da]
def nodeR (x : Node) (kids : List UInt8) : List UInt8 :=
 putAll [[40], [116, 121, 112, 101]] ++ ((if x.kind = 1 ∨ x.kind = 2 ∨ x.kind = 3 then leafR x.kind x.data else putL [100, 105, 114] ++ kids) ++ putL [41])
def entryT (y : Node) : List UInt8 := putAll [[101, 110, 116, 114, 121], [40], [110, 97, 109, 101], (dirOf y.path).2, [110, 111, 100, 101]]
def forestF : Nat → List Node → List UInt8
 | 0, _ => []
 | _, [] => []
 | f + 1, y :: r => entryT y ++ (nodeR y (forestF f (r.takeWhile fun z => belowB z.path y.path)) ++ (putL [41] ++ forestF f (r.dropWhile fun z => belowB z.path y.path)))
theorem forestF_fuel : ∀ (f g : Nat) (l : List Node), l.length ≤ f → l.length ≤ g → forestF f l = forestF g l
 | 0, g, l, hf, _ => by
   obtain rfl : l = [] := List.eq_nil_of_length_eq_zero (by omega)
   cases g <;> rfl
 | f + 1, 0, l, _, hg => by
   obtain rfl : l = [] := List.eq_nil_of_length_eq_zero (by omega)
   rfl
 | f + 1, g + 1, [], _, _ => rfl
 | f + 1, g + 1, y :: r, hf, hg => by
   have h1 := (List.takeWhile_sublist (l := r) (fun z => belowB z.path y.path)).length_le
   have h2 := (List.dropWhile_sublist (l := r) (fun z => belowB z.path y.path)).length_le
   simp only [List.length_cons] at hf hg
   simp only [forestF]
   rw [forestF_fuel f g _ (by omega) (by omega), forestF_fuel f g (r.dropWhile _) (by omega) (by omega)]
def forest (l : List Node) : List UInt8 := forestF l.length l
theorem forest_cons (y : Node) (r : List Node) : forest (y :: r) = entryT y ++ (nodeR y (forest (r.takeWhile fun z => belowB z.path y.path)) ++ (putL [41] ++ forest (r.dropWhile fun z => belowB z.path y.path))) := by
 have h1 := (List.takeWhile_sublist (l := r) (fun z => belowB z.path y.path)).length_le
 have h2 := (List.dropWhile_sublist (l := r) (fun z => belowB z.path y.path)).length_le
 unfold forest
 simp only [List.length_cons, forestF]
 rw [forestF_fuel r.length _ _ h1 (Nat.le_refl _), forestF_fuel r.length _ (r.dropWhile _) h2 (Nat.le_refl _)]
def refPackL : List Node → List UInt8
 | [] => []
 | x :: r => nodeR x (forest r)
attribute [local irreducible] putAll putL
theorem argBlk {w : World} {sz : Nat} {c : Array Value} (n : Nat) (l : List (List UInt8)) (hb : Blk w sz c 9) (hc : c = (svs l).toArray) (hn : l.length = n) (h : l.length ≤ 100) : Sl w 0 9 1 (.slice (some ⟨sz, 0, none⟩) n n) l.length (svs l) := by
 subst hn
 subst hc
 exact ⟨by simp [svs], .inr ⟨sz, 0, _, _, rfl, Nat.zero_le _, hb, Nat.le_refl _, by unfold maxLen; omega, by simp [svs], fun i hi => by simp⟩⟩
end Go.Proofs.YtdkogijdfgfpeaaGreatDoor
