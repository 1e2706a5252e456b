/- narref.Name; names are alike. -/
import Derived.Test.YtohbjbicmgnblaaDoorChecked
import Derived.Test.YtohbjbicmgnblaaDoorRefC
namespace Go.Proofs.YtohbjbicmgnblaaDoor
open Go Go.RowKit
set_option linter.unusedVariables false

set_option maxHeartbeats 400000 in
theorem rname_any (s : ByteArray) (w : World) (hs : s.size ≤ 4611686018427387904) :
    Calls Tryd.prog 37 #[.string s] w fun e w' => e = .returned (.bool (refName s.data.toList)) ∧ Keeps Non w w' := by
  cases hl : lettersOf s.data.toList 0 with
  | none =>
    have HF : Hid (refName s.data.toList = false) := by show _ = _; unfold refName; rw [hl]
    have HL := Lib.hid hl
    clear hl
    go_enter Tryd.func37, Tryd.ntmps37
    go_wp2_with fail
    refine (rletters_any s w hs).mono ?_
    rintro e w1 ⟨rfl, hk⟩
    have HK := Lib.hid hk
    clear hk
    rw [HL.out]
    unfold lettersV
    go_wp2_with fail
    go_ret
    exact ⟨bool_ret HF.out.symm, HK.out⟩
  | some n =>
    have HF : Hid (refName s.data.toList = (decide (1 ≤ n) && decide (n ≤ 12) && s.data.toList != [46] && s.data.toList != [46, 46])) := by show _ = _; unfold refName; rw [hl]
    have HL := Lib.hid hl
    clear hl
    have hV : Hid (lettersV (some n) = .tuple #[.int .i64 n, .bool true]) := rfl
    by_cases h1 : 1 ≤ n
    · have d1 : decide ((1 : Int) ≤ (n : Int)) = true := by simp; omega
      by_cases h2 : n ≤ 12
      · have d2 : decide ((n : Int) ≤ (12 : Int)) = true := by simp; omega
        by_cases h3 : s.data.toList = [46]
        · have d3 : (!s.toList == [46]) = false := by rw [ByteArray.toList_eq, h3]; rfl
          have HG : Hid (refName s.data.toList = false) := by show _ = _; rw [HF.out, h3]; simp
          clear h3
          go_enter Tryd.func37, Tryd.ntmps37
          go_wp2_with fail
          refine (rletters_any s w hs).mono ?_
          rintro e w1 ⟨rfl, hk⟩
          have HK := Lib.hid hk
          clear hk
          rw [HL.out, hV.out]
          go_wp2_with fail
          go_ret
          exact ⟨bool_ret HG.out.symm, HK.out⟩
        · have d3 : (!s.toList == [46]) = true := by rw [ByteArray.toList_eq]; simpa using h3
          have HG : Hid (refName s.data.toList = (!s.toList == [46, 46])) := by
            show _ = _
            rw [HF.out, decide_eq_true h1, decide_eq_true h2, ByteArray.toList_eq, bne, bne, beq_eq_false_iff_ne.2 h3]
            rfl
          clear h3
          go_enter Tryd.func37, Tryd.ntmps37
          go_wp2_with fail
          refine (rletters_any s w hs).mono ?_
          rintro e w1 ⟨rfl, hk⟩
          have HK := Lib.hid hk
          clear hk
          rw [HL.out, hV.out]
          go_wp2_with fail
          go_ret
          exact ⟨bool_ret HG.out.symm, HK.out⟩
      · have d2 : decide ((n : Int) ≤ (12 : Int)) = false := by simp; omega
        have HG : Hid (refName s.data.toList = false) := by show _ = _; rw [HF.out, decide_eq_false h2]; simp
        go_enter Tryd.func37, Tryd.ntmps37
        go_wp2_with fail
        refine (rletters_any s w hs).mono ?_
        rintro e w1 ⟨rfl, hk⟩
        have HK := Lib.hid hk
        clear hk
        rw [HL.out, hV.out]
        go_wp2_with fail
        go_ret
        exact ⟨bool_ret HG.out.symm, HK.out⟩
    · have d1 : decide ((1 : Int) ≤ (n : Int)) = false := by simp; omega
      have HG : Hid (refName s.data.toList = false) := by show _ = _; rw [HF.out, decide_eq_false h1]; simp
      go_enter Tryd.func37, Tryd.ntmps37
      go_wp2_with fail
      refine (rletters_any s w hs).mono ?_
      rintro e w1 ⟨rfl, hk⟩
      have HK := Lib.hid hk
      clear hk
      rw [HL.out, hV.out]
      go_wp2_with fail
      go_ret
      exact ⟨bool_ret HG.out.symm, HK.out⟩

theorem getD_cons0 (b : UInt8) (r : List UInt8) : (b :: r).getD 0 0 = b := rfl
theorem cont_N (x : UInt8) (m c : Nat) (r : List UInt8) : contC (m + 1) (x :: r) c = if x.toNat / 64 = 2 then contC m r (64 * c + x.toNat % 64) else none := by
  have := UInt8.toNat_lt x
  show (if _ then _ else _) = _
  by_cases h : x.toNat / 64 = 2
  · rw [if_neg (by omega), if_pos h]
  · rw [if_pos (by omega), if_neg h]
/-- the continuation of one, two, three bytes, as the decoder asks for them -/
theorem cont1 (r : List UInt8) (c : Nat) : contC 1 r c = if 1 < r.length + 1 ∧ (r.getD 0 0).toNat / 64 = 2 then some (64 * c + (r.getD 0 0).toNat % 64) else none := by
  cases r with
  | nil => simp [contC]
  | cons x r => rw [cont_N]; simp [contC]
theorem cont2 (r : List UInt8) (c : Nat) : contC 2 r c = if (1 < r.length + 1 ∧ (r.getD 0 0).toNat / 64 = 2) ∧ (2 < r.length + 1 ∧ (r.getD 1 0).toNat / 64 = 2) then some (64 * (64 * c + (r.getD 0 0).toNat % 64) + (r.getD 1 0).toNat % 64) else none := by
  cases r with
  | nil => simp [contC]
  | cons x r =>
    rw [cont_N, cont1]
    by_cases h : x.toNat / 64 = 2
    · simp [h]
    · simp [h]
theorem cont3 (r : List UInt8) (c : Nat) : contC 3 r c = if (1 < r.length + 1 ∧ (r.getD 0 0).toNat / 64 = 2) ∧ (2 < r.length + 1 ∧ (r.getD 1 0).toNat / 64 = 2) ∧ (3 < r.length + 1 ∧ (r.getD 2 0).toNat / 64 = 2) then some (64 * (64 * (64 * c + (r.getD 0 0).toNat % 64) + (r.getD 1 0).toNat % 64) + (r.getD 2 0).toNat % 64) else none := by
  cases r with
  | nil => simp [contC]
  | cons x r =>
    rw [cont_N, cont2]
    have e : (3 < r.length + 1 + 1) = (2 < r.length + 1) := propext ⟨fun h => by omega, fun h => by omega⟩
    by_cases h : x.toNat / 64 = 2
    · simp [h, e]
    · simp [h]
def letN (n b0 b1 b2 b3 : Nat) : Option Nat :=
  match leadM b0 with
  | none => none
  | some (0, _) => some 1
  | some (1, _) => if 1 < n ∧ b1 / 64 = 2 then some 2 else none
  | some (2, c) => if (1 < n ∧ b1 / 64 = 2) ∧ (2 < n ∧ b2 / 64 = 2) then (if badC 2 (64 * (64 * c + b1 % 64) + b2 % 64) then none else some 3) else none
  | some (_, c) => if (1 < n ∧ b1 / 64 = 2) ∧ (2 < n ∧ b2 / 64 = 2) ∧ (3 < n ∧ b3 / 64 = 2) then (if badC 3 (64 * (64 * (64 * c + b1 % 64) + b2 % 64) + b3 % 64) then none else some 4) else none
theorem leadM_le {b m c : Nat} (h : leadM b = some (m, c)) : m ≤ 3 := by
  unfold leadM at h
  repeat' split at h
  all_goals (cases h; try omega)
theorem letter_N (b : UInt8) (r : List UInt8) : letter (b :: r) = letN (r.length + 1) b.toNat (r.getD 0 0).toNat (r.getD 1 0).toNat (r.getD 2 0).toNat := by
  unfold letN
  cases h : leadM b.toNat with
  | none => exact letter_bad h
  | some mc =>
    obtain ⟨m, c⟩ := mc
    have hm := leadM_le h
    unfold letter
    simp only [h]
    match m, hm with
    | 0, _ => rfl
    | 1, _ =>
      rw [cont1]
      show _ = if 1 < r.length + 1 ∧ (r.getD 0 0).toNat / 64 = 2 then some 2 else none
      by_cases hc : 1 < r.length + 1 ∧ (r.getD 0 0).toNat / 64 = 2
      · rw [if_pos hc, if_pos hc]; rfl
      · rw [if_neg hc, if_neg hc]
    | 2, _ =>
      rw [cont2]
      show _ = if (1 < r.length + 1 ∧ (r.getD 0 0).toNat / 64 = 2) ∧ (2 < r.length + 1 ∧ (r.getD 1 0).toNat / 64 = 2) then _ else none
      by_cases hc : (1 < r.length + 1 ∧ (r.getD 0 0).toNat / 64 = 2) ∧ (2 < r.length + 1 ∧ (r.getD 1 0).toNat / 64 = 2)
      · rw [if_pos hc, if_pos hc]
      · rw [if_neg hc, if_neg hc]
    | 3, _ =>
      rw [cont3]
      show _ = if (1 < r.length + 1 ∧ (r.getD 0 0).toNat / 64 = 2) ∧ (2 < r.length + 1 ∧ (r.getD 1 0).toNat / 64 = 2) ∧ (3 < r.length + 1 ∧ (r.getD 2 0).toNat / 64 = 2) then _ else none
      by_cases hc : (1 < r.length + 1 ∧ (r.getD 0 0).toNat / 64 = 2) ∧ (2 < r.length + 1 ∧ (r.getD 1 0).toNat / 64 = 2) ∧ (3 < r.length + 1 ∧ (r.getD 2 0).toNat / 64 = 2)
      · rw [if_pos hc, if_pos hc]
      · rw [if_neg hc, if_neg hc]
theorem badR_iff (r : Nat) : badR r = true ↔ r < 32 ∨ r = 47 ∨ r = 127 := by
  unfold badR; simp [or_assoc]
theorem letN_decode (n b0 b1 b2 b3 : Nat) (h0 : b0 < 256) :
    letN n b0 b1 b2 b3 = if ((Lib.decodeN n b0 b1 b2 b3).1 = 65533 ∧ (Lib.decodeN n b0 b1 b2 b3).2 = 1) ∨ ((Lib.decodeN n b0 b1 b2 b3).1 < 32 ∨ (Lib.decodeN n b0 b1 b2 b3).1 = 47 ∨ (Lib.decodeN n b0 b1 b2 b3).1 = 127) then none else some (Lib.decodeN n b0 b1 b2 b3).2 := by
  have hbad2 : ∀ c, badC 2 c = decide (c < 2048 ∨ (55296 ≤ c ∧ c < 57344)) := fun c => by unfold badC; simp
  have hbad3 : ∀ c, badC 3 c = decide (c < 65536 ∨ 1114111 < c) := fun c => by unfold badC; simp
  by_cases ha : b0 < 128
  · have hd : Lib.decodeN n b0 b1 b2 b3 = (b0, 1) := by unfold Lib.decodeN; rw [if_pos ha]
    rw [hd]
    by_cases hbad : b0 < 32 ∨ b0 = 47 ∨ b0 = 127
    · rw [if_pos (.inr hbad)]
      unfold letN leadM
      rw [if_pos hbad]
    · rw [if_neg (by simp only; omega)]
      unfold letN leadM
      rw [if_neg hbad, if_pos ha]
      rfl
  · have hbad : ¬ (b0 < 32 ∨ b0 = 47 ∨ b0 = 127) := by omega
    by_cases h2 : 194 ≤ b0 ∧ b0 < 224
    · have hl : letN n b0 b1 b2 b3 = if 1 < n ∧ b1 / 64 = 2 then some 2 else none := by unfold letN leadM; rw [if_neg hbad, if_neg ha, if_pos h2]; rfl
      rw [hl]
      by_cases hc : 1 < n ∧ b1 / 64 = 2
      · have hd : Lib.decodeN n b0 b1 b2 b3 = (b0 % 32 * 64 + b1 % 64, 2) := by
          unfold Lib.decodeN
          rw [if_neg ha, if_pos ⟨by omega, hc⟩, if_pos (by omega)]
        rw [hd, if_pos hc, if_neg (by simp only; omega)]
      · have hd : Lib.decodeN n b0 b1 b2 b3 = (65533, 1) := by
          unfold Lib.decodeN
          rw [if_neg ha, if_neg (fun h => hc h.2), if_neg (by omega), if_neg (by omega)]
        rw [hd, if_neg hc]; rfl
    · by_cases h3 : 224 ≤ b0 ∧ b0 < 240
      · have hl : letN n b0 b1 b2 b3 = if (1 < n ∧ b1 / 64 = 2) ∧ (2 < n ∧ b2 / 64 = 2) then (if badC 2 (64 * (64 * (b0 % 16) + b1 % 64) + b2 % 64) then none else some 3) else none := by unfold letN leadM; rw [if_neg hbad, if_neg ha, if_neg h2, if_pos h3]; rfl
        rw [hl, hbad2]
        by_cases hc : (1 < n ∧ b1 / 64 = 2) ∧ (2 < n ∧ b2 / 64 = 2)
        · by_cases hv : b0 % 16 * 4096 + b1 % 64 * 64 + b2 % 64 ≥ 2048 ∧ (b0 % 16 * 4096 + b1 % 64 * 64 + b2 % 64 < 55296 ∨ (57344 ≤ b0 % 16 * 4096 + b1 % 64 * 64 + b2 % 64 ∧ b0 % 16 * 4096 + b1 % 64 * 64 + b2 % 64 ≤ 1114111))
          · have hd : Lib.decodeN n b0 b1 b2 b3 = (b0 % 16 * 4096 + b1 % 64 * 64 + b2 % 64, 3) := by
              unfold Lib.decodeN
              rw [if_neg ha, if_neg (by omega), if_pos ⟨by omega, hc⟩, if_pos hv]
            rw [hd, if_pos hc, decide_eq_false (by omega), if_neg Bool.false_ne_true, if_neg (by simp only; omega)]
          · have hd : Lib.decodeN n b0 b1 b2 b3 = (65533, 1) := by
              unfold Lib.decodeN
              rw [if_neg ha, if_neg (by omega), if_pos ⟨by omega, hc⟩, if_neg hv]
            rw [hd, if_pos hc, decide_eq_true (by omega)]
            rfl
        · have hd : Lib.decodeN n b0 b1 b2 b3 = (65533, 1) := by
            unfold Lib.decodeN
            rw [if_neg ha, if_neg (by omega), if_neg (fun h => hc h.2), if_neg (by omega)]
          rw [hd, if_neg hc]; rfl
      · by_cases h4 : 240 ≤ b0 ∧ b0 < 245
        · have hl : letN n b0 b1 b2 b3 = if (1 < n ∧ b1 / 64 = 2) ∧ (2 < n ∧ b2 / 64 = 2) ∧ (3 < n ∧ b3 / 64 = 2) then (if badC 3 (64 * (64 * (64 * (b0 % 8) + b1 % 64) + b2 % 64) + b3 % 64) then none else some 4) else none := by unfold letN leadM; rw [if_neg hbad, if_neg ha, if_neg h2, if_neg h3, if_pos h4]; rfl
          rw [hl, hbad3]
          by_cases hc : (1 < n ∧ b1 / 64 = 2) ∧ (2 < n ∧ b2 / 64 = 2) ∧ (3 < n ∧ b3 / 64 = 2)
          · by_cases hv : b0 % 8 * 262144 + b1 % 64 * 4096 + b2 % 64 * 64 + b3 % 64 ≥ 65536 ∧ (b0 % 8 * 262144 + b1 % 64 * 4096 + b2 % 64 * 64 + b3 % 64 < 55296 ∨ (57344 ≤ b0 % 8 * 262144 + b1 % 64 * 4096 + b2 % 64 * 64 + b3 % 64 ∧ b0 % 8 * 262144 + b1 % 64 * 4096 + b2 % 64 * 64 + b3 % 64 ≤ 1114111))
            · have hd : Lib.decodeN n b0 b1 b2 b3 = (b0 % 8 * 262144 + b1 % 64 * 4096 + b2 % 64 * 64 + b3 % 64, 4) := by
                unfold Lib.decodeN
                rw [if_neg ha, if_neg (by omega), if_neg (by omega), if_pos ⟨by omega, hc⟩, if_pos hv]
              rw [hd, if_pos hc, decide_eq_false (by omega), if_neg Bool.false_ne_true, if_neg (by simp only; omega)]
            · have hd : Lib.decodeN n b0 b1 b2 b3 = (65533, 1) := by
                unfold Lib.decodeN
                rw [if_neg ha, if_neg (by omega), if_neg (by omega), if_pos ⟨by omega, hc⟩, if_neg hv]
              rw [hd, if_pos hc, decide_eq_true (by omega)]
              rfl
          · have hd : Lib.decodeN n b0 b1 b2 b3 = (65533, 1) := by
              unfold Lib.decodeN
              rw [if_neg ha, if_neg (by omega), if_neg (by omega), if_neg (fun h => hc h.2)]
            rw [hd, if_neg hc]; rfl
        · have hl : letN n b0 b1 b2 b3 = none := by unfold letN leadM; rw [if_neg hbad, if_neg ha, if_neg h2, if_neg h3, if_neg h4]
          have hd : Lib.decodeN n b0 b1 b2 b3 = (65533, 1) := by
            unfold Lib.decodeN
            repeat' split
            all_goals first | rfl | omega
          rw [hl, hd]; rfl
theorem letter_decode (l : List UInt8) (hl : l ≠ []) : letter l = if ((Lib.decodeL l).1 = 65533 ∧ (Lib.decodeL l).2 = 1) ∨ badR (Lib.decodeL l).1 = true then none else some (Lib.decodeL l).2 := by
  cases l with
  | nil => exact absurd rfl hl
  | cons b r =>
    rw [letter_N, letN_decode _ _ _ _ _ (UInt8.toNat_lt b), Lib.decodeL_N]
    simp only [badR_iff]
    rfl
theorem letters_scan : ∀ (f : Nat) (l : List UInt8) (n : Nat), l.length ≤ f → lettersOf l n = match scanOf l n with
    | none => none
    | some k => if Lib.validD l then some k else none
  | 0, l, n, h => by
    obtain rfl : l = [] := List.eq_nil_of_length_eq_zero (by omega)
    rfl
  | f + 1, l, n, h => by
    by_cases hl : l = []
    · subst hl; rfl
    · have hw := Lib.decodeL_width l
      rw [lettersOf_step l n hl, letter_decode l hl, scanOf_step l n hl, Lib.validD_step l hl]
      by_cases hb : badR (Lib.decodeL l).1 = true
      · rw [if_pos (.inr hb), if_pos hb]
      · rw [if_neg hb]
        by_cases hi : (Lib.decodeL l).1 = 65533 ∧ (Lib.decodeL l).2 = 1
        · rw [if_pos (.inl hi), if_pos hi]
          cases scanOf (l.drop (Lib.decodeL l).2) (n + 1) <;> rfl
        · rw [if_neg (by rintro (h | h); exact hi h; exact hb h), if_neg hi]
          have hpos : 0 < l.length := List.length_pos_iff.2 hl
          exact letters_scan f _ _ (by rw [List.length_drop]; omega)
theorem refName_eq (l : List UInt8) : refName l = nameB l := by
  unfold refName nameB
  rw [letters_scan l.length l 0 (Nat.le_refl _)]
  cases scanOf l 0 with
  | none => rfl
  | some n =>
    simp only
    by_cases hv : Lib.validD l = true
    · rw [if_pos hv, hv]
      simp [Nat.one_le_iff_ne_zero, Nat.pos_iff_ne_zero, Bool.and_assoc]
    · rw [if_neg hv, Bool.eq_false_iff.2 hv]
      simp
end Go.Proofs.YtohbjbicmgnblaaDoor
