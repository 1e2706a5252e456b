/- narref: letters and names. -/
import Derived.Test.YtohbjbicmgnblaaDoorChecked
import Derived.Test.YtohbjbicmgnblaaDoorRefB
namespace Go.Proofs.YtohbjbicmgnblaaDoor
open Go Go.RowKit
set_option linter.unusedVariables false

/-- a letter's first byte: how many more there are; what it says -/
def leadM (b : Nat) : Option (Nat × Nat) :=
  if b < 32 ∨ b = 47 ∨ b = 127 then none
  else if b < 128 then some (0, b)
  else if 194 ≤ b ∧ b < 224 then some (1, b % 32)
  else if 224 ≤ b ∧ b < 240 then some (2, b % 16)
  else if 240 ≤ b ∧ b < 245 then some (3, b % 8)
  else none
/-- the bytes that come behind -/
def contC : Nat → List UInt8 → Nat → Option Nat
  | 0, _, c => some c
  | _ + 1, [], _ => none
  | m + 1, b :: r, c => if b.toNat < 128 ∨ 191 < b.toNat then none else contC m r (64 * c + b.toNat % 64)
def badC (m c : Nat) : Bool := decide (m = 2 ∧ (c < 2048 ∨ (55296 ≤ c ∧ c < 57344))) || decide (m = 3 ∧ (c < 65536 ∨ 1114111 < c))
/-- one letter: how many bytes -/
def letter : List UInt8 → Option Nat
  | [] => none
  | b :: r => match leadM b.toNat with
    | none => none
    | some (m, c) => match contC m r c with
      | none => none
      | some c' => if badC m c' then none else some (1 + m)
def lettersF : Nat → List UInt8 → Nat → Option Nat
  | 0, _, n => some n
  | f + 1, l, n => if l = [] then some n else match letter l with
    | none => none
    | some k => lettersF f (l.drop k) (n + 1)
theorem letter_bad {b : UInt8} {r : List UInt8} (h : leadM b.toNat = none) : letter (b :: r) = none := by
  unfold letter
  simp only [h]
theorem letter_none {b : UInt8} {r : List UInt8} {m c : Nat} (h : leadM b.toNat = some (m, c)) (h2 : contC m r c = none) : letter (b :: r) = none := by
  unfold letter
  simp only [h, h2]
theorem letter_some {b : UInt8} {r : List UInt8} {m c c' : Nat} (h : leadM b.toNat = some (m, c)) (h2 : contC m r c = some c') : letter (b :: r) = if badC m c' then none else some (1 + m) := by
  unfold letter
  simp only [h, h2]
theorem letter_pos {l : List UInt8} {k : Nat} (h : letter l = some k) : 1 ≤ k := by
  unfold letter at h
  split at h
  · cases h
  · split at h
    · cases h
    · split at h
      · cases h
      · split at h
        · cases h
        · cases h; omega
theorem lettersF_fuel : ∀ (f g : Nat) (l : List UInt8) (n : Nat), l.length ≤ f → l.length ≤ g → lettersF f l n = lettersF g l n
  | 0, g, l, n, hf, _ => by
    obtain rfl : l = [] := List.eq_nil_of_length_eq_zero (by omega)
    cases g <;> simp [lettersF]
  | f + 1, 0, l, n, _, hg => by
    obtain rfl : l = [] := List.eq_nil_of_length_eq_zero (by omega)
    simp [lettersF]
  | f + 1, g + 1, l, n, hf, hg => by
    unfold lettersF
    by_cases h : l = []
    · rw [if_pos h, if_pos h]
    · rw [if_neg h, if_neg h]
      cases hl : letter l with
      | none => rfl
      | some k =>
        have := letter_pos hl
        exact lettersF_fuel f g _ _ (by rw [List.length_drop]; omega) (by rw [List.length_drop]; omega)
def lettersOf (l : List UInt8) (n : Nat) : Option Nat := lettersF l.length l n
theorem lettersOf_step (l : List UInt8) (n : Nat) (h : l ≠ []) : lettersOf l n = match letter l with
    | none => none
    | some k => lettersOf (l.drop k) (n + 1) := by
  obtain ⟨f, hf⟩ : ∃ f, l.length = f + 1 := ⟨l.length - 1, by have := List.length_pos_iff.2 h; omega⟩
  unfold lettersOf
  rw [hf]
  show (if l = [] then _ else _) = _
  rw [if_neg h]
  cases hl : letter l with
  | none => rfl
  | some k =>
    have := letter_pos hl
    exact lettersF_fuel _ _ _ _ (by rw [List.length_drop]; omega) (Nat.le_refl _)
def refName (l : List UInt8) : Bool := match lettersOf l 0 with
  | none => false
  | some n => decide (1 ≤ n) && decide (n ≤ 12) && l != [46] && l != [46, 46]
def lettersV (o : Option Nat) : Value := .tuple #[.int .i64 ((o.getD 0 : Nat) : Int), .bool o.isSome]

set_option maxHeartbeats 8000000 in
set_option maxRecDepth 100000 in
theorem rletters_any (s : ByteArray) (w : World) (hs : s.size ≤ 4611686018427387904) :
    Calls Tryd.prog 56 #[.string s] w fun e w' => e = .returned (lettersV (lettersOf s.data.toList 0)) ∧ Keeps Non w w' := by
  go_enter Tryd.func56, Tryd.ntmps56
  go_wp2_with fail
  go_loopg [4, 5, 6, 7, 8] s.size (fun gk nn ii _ _ _ wr => ∃ (i n : Nat), gk = s.size - i ∧ i ≤ s.size ∧ n ≤ i ∧ nn = .int .i64 n ∧ ii = .int .i64 i ∧ w = wr ∧ Hid (lettersOf s.data.toList 0 = lettersOf (s.data.toList.drop i) n))
  case atStart => exact ⟨0, 0, rfl, by omega, by omega, rfl, rfl, rfl, rfl⟩
  case round =>
    obtain ⟨i, n, rfl, hi, hni, rfl, rfl, rfl, hl⟩ := hrel
    by_cases hlt : i < s.size
    · have hlt' : i < s.data.toList.length := by simpa using hlt
      have hstep : lettersOf s.data.toList 0 = match letter (s[i] :: s.data.toList.drop (i + 1)) with
          | none => none
          | some k => lettersOf ((s[i] :: s.data.toList.drop (i + 1)).drop k) (n + 1) := by
        rw [hl.out, List.drop_eq_getElem_cons hlt']
        exact lettersOf_step _ _ (by simp)
      have HS := Lib.hid hstep
      clear hl hstep
      have hx := UInt8.toNat_lt s[i]
      by_cases hbad : s[i].toNat < 32 ∨ s[i].toNat = 47 ∨ s[i].toNat = 127
      · have HM : Hid (leadM s[i].toNat = none) := by show _ = _; unfold leadM; rw [if_pos hbad]
        have HF : Hid (lettersOf s.data.toList 0 = none) := by
          show _ = _
          rw [HS.out, letter_bad HM.out]
        by_cases h32 : s[i].toNat < 32
        · clear hbad
          have t0 : decide (((s[i].toNat : Nat) : Int) < 32) = true := by simp; omega
          have u0 : decide (s[i].toNat < 32) = true := by simp; omega
          go_wp2_with fail
          go_ret2
          rw [HF.out]
          exact ⟨rfl, Keeps.refl _ _⟩
        · by_cases h47 : s[i].toNat = 47
          · clear hbad
            have t0 : decide (((s[i].toNat : Nat) : Int) < 32) = false := by simp; omega
            have u0 : decide (s[i].toNat < 32) = false := by simp; omega
            have t1 : (((s[i].toNat : Nat) : Int) == 47) = true := by rw [beq_iff_eq]; omega
            clear h47
            go_wp2_with fail
            go_ret2
            rw [HF.out]
            exact ⟨rfl, Keeps.refl _ _⟩
          · have h127 : s[i].toNat = 127 := by omega
            clear hbad
            have t0 : decide (((s[i].toNat : Nat) : Int) < 32) = false := by simp; omega
            have u0 : decide (s[i].toNat < 32) = false := by simp; omega
            have t1 : (((s[i].toNat : Nat) : Int) == 47) = false := by rw [beq_eq_false_iff_ne]; omega
            have t2 : (((s[i].toNat : Nat) : Int) == 127) = true := by rw [beq_iff_eq]; omega
            clear h127 h47
            go_wp2_with fail
            go_ret2
            rw [HF.out]
            exact ⟨rfl, Keeps.refl _ _⟩
      · have hb32 : ¬ s[i].toNat < 32 := by omega
        have hb47 : ¬ s[i].toNat = 47 := by omega
        have hb127 : ¬ s[i].toNat = 127 := by omega
        by_cases h128 : s[i].toNat < 128
        · have HM : Hid (leadM s[i].toNat = some (0, s[i].toNat)) := by show _ = _; unfold leadM; rw [if_neg hbad, if_pos h128]
          clear hbad
          have t0 : decide (((s[i].toNat : Nat) : Int) < 32) = false := by simp; omega
          have u0 : decide (s[i].toNat < 32) = false := by simp; omega
          have t1 : (((s[i].toNat : Nat) : Int) == 47) = false := by rw [beq_eq_false_iff_ne]; omega
          have t2 : (((s[i].toNat : Nat) : Int) == 127) = false := by rw [beq_eq_false_iff_ne]; omega
          have t3 : decide (((s[i].toNat : Nat) : Int) < 128) = true := by simp; omega
          have u3 : decide (s[i].toNat < 128) = true := by simp; omega
          have hc0 : s[i].toNat < 256 := by omega
          go_wp2_with fail
          clear t0 t1 t2 t3 u0 u3
          go_loopg [6, 8] (0 + 1) (fun gm cc kk wq => ∃ (k c' : Nat), 1 ≤ k ∧ k ≤ 0 + 1 ∧ gm + k = 0 + 2 ∧ i + k ≤ s.size ∧ kk = .int .i64 k ∧ cc = .int .i64 c' ∧ c' < 256 * 65 ^ (k - 1) ∧ w = wq ∧ Hid (contC 0 (s.data.toList.drop (i + 1)) (s[i].toNat) = contC (0 + 1 - k) (s.data.toList.drop (i + k)) c'))
          case atStart => exact ⟨1, s[i].toNat, by omega, by omega, by omega, by omega, rfl, by first | rfl | (congr 1), by simpa using hc0, rfl, rfl⟩
          case round =>
            obtain ⟨k, c', hk1, hk2, hg, hiz, rfl, rfl, hcb, rfl, hcc⟩ := hrel
            have hP : 65 ^ (k - 1) ≤ 65 ^ 3 := Nat.pow_le_pow_right (by omega) (by omega)
            have hcs : c' < 70304000 := Nat.lt_of_lt_of_le hcb (Nat.mul_le_mul_left 256 hP)
            have HCB := Lib.hid hcb
            clear hcb hP hx hc0
            obtain rfl : k = 1 := by omega
            have hcc : Hid (contC 0 (s.data.toList.drop (i + 1)) (s[i].toNat) = some c') := hcc.out
            have HB : Hid (badC 0 c' = false) := rfl
            have HN : Hid (lettersOf s.data.toList 0 = lettersOf (s.data.toList.drop (i + (1 + 0))) (n + 1)) := by
              show _ = _
              rw [HS.out, letter_some HM.out hcc.out, HB.out]
              show lettersOf ((s[i] :: s.data.toList.drop (i + 1)).drop (1 + 0)) (n + 1) = _
              rw [show 1 + 0 = 0 + 1 by omega, List.drop_succ_cons, List.drop_drop, show i + 1 + 0 = i + (0 + 1) by omega]
            clear hcc
            go_wp2_with fail
            go_roundg (s.size - (i + (1 + 0)))
            case measure => omega
            case rel => exact ⟨i + (1 + 0), n + 1, rfl, by omega, by omega, by go_num, by go_num, rfl, HN⟩
        · by_cases h2 : 194 ≤ s[i].toNat ∧ s[i].toNat < 224
          · have HM : Hid (leadM s[i].toNat = some (1, s[i].toNat % 32)) := by show _ = _; unfold leadM; rw [if_neg hbad, if_neg h128, if_pos h2]
            clear hbad
            have t0 : decide (((s[i].toNat : Nat) : Int) < 32) = false := by simp; omega
            have u0 : decide (s[i].toNat < 32) = false := by simp; omega
            have t1 : (((s[i].toNat : Nat) : Int) == 47) = false := by rw [beq_eq_false_iff_ne]; omega
            have t2 : (((s[i].toNat : Nat) : Int) == 127) = false := by rw [beq_eq_false_iff_ne]; omega
            have t3 : decide (((s[i].toNat : Nat) : Int) < 128) = false := by simp; omega
            have u3 : decide (s[i].toNat < 128) = false := by simp; omega
            have t4 : decide ((194 : Int) ≤ ((s[i].toNat : Nat) : Int)) = true := by simp; omega
            have u4 : decide (194 ≤ s[i].toNat) = true := by simp; omega
            have t5 : decide (((s[i].toNat : Nat) : Int) < 224) = true := by simp; omega
            have u5 : decide (s[i].toNat < 224) = true := by simp; omega
            have hc0 : s[i].toNat % 32 < 256 := by omega
            go_wp2_with fail
            clear t0 t1 t2 t3 t4 t5 u0 u3 u4 u5
            go_loopg [6, 8] (1 + 1) (fun gm cc kk wq => ∃ (k c' : Nat), 1 ≤ k ∧ k ≤ 1 + 1 ∧ gm + k = 1 + 2 ∧ i + k ≤ s.size ∧ kk = .int .i64 k ∧ cc = .int .i64 c' ∧ c' < 256 * 65 ^ (k - 1) ∧ w = wq ∧ Hid (contC 1 (s.data.toList.drop (i + 1)) (s[i].toNat % 32) = contC (1 + 1 - k) (s.data.toList.drop (i + k)) c'))
            case atStart => exact ⟨1, s[i].toNat % 32, by omega, by omega, by omega, by omega, rfl, by first | rfl | (congr 1), by simpa using hc0, rfl, rfl⟩
            case round =>
              obtain ⟨k, c', hk1, hk2, hg, hiz, rfl, rfl, hcb, rfl, hcc⟩ := hrel
              have hP : 65 ^ (k - 1) ≤ 65 ^ 3 := Nat.pow_le_pow_right (by omega) (by omega)
              have hcs : c' < 70304000 := Nat.lt_of_lt_of_le hcb (Nat.mul_le_mul_left 256 hP)
              have HCB := Lib.hid hcb
              clear hcb hP hx hc0
              by_cases hkm : k ≤ 1
              · by_cases hend : i + k < s.size
                · have hend' : i + k < s.data.toList.length := by simpa using hend
                  have hx2 : s[i + k].toNat < 256 := UInt8.toNat_lt _
                  have HC0 : Hid (contC (1 + 1 - k) (s.data.toList.drop (i + k)) c' = if s[i + k].toNat < 128 ∨ 191 < s[i + k].toNat then none else contC (1 + 1 - (k + 1)) (s.data.toList.drop (i + (k + 1))) (64 * c' + s[i + k].toNat % 64)) := by
                    show _ = _
                    rw [List.drop_eq_getElem_cons hend', show 1 + 1 - k = (1 + 1 - (k + 1)) + 1 by omega]
                    rfl
                  by_cases hb : s[i + k].toNat < 128 ∨ 191 < s[i + k].toNat
                  · have HC : Hid (contC (1 + 1 - k) (s.data.toList.drop (i + k)) c' = none) := by show _ = _; rw [HC0.out, if_pos hb]
                    have HF : Hid (lettersOf s.data.toList 0 = none) := by
                      show _ = _
                      rw [HS.out, letter_none HM.out (by rw [hcc.out]; exact HC.out)]
                    by_cases hl : s[i + k].toNat < 128
                    · clear hb hcc
                      have r0 : decide (((s[i + k].toNat : Nat) : Int) < 128) = true := by simp; omega
                      have v0 : decide (s[i + k].toNat < 128) = true := by simp; omega
                      go_wp2_with fail
                      go_ret2
                      rw [HF.out]
                      exact ⟨rfl, Keeps.refl _ _⟩
                    · have hl2 : 191 < s[i + k].toNat := by omega
                      clear hb hcc
                      have r0 : decide (((s[i + k].toNat : Nat) : Int) < 128) = false := by simp; omega
                      have v0 : decide (s[i + k].toNat < 128) = false := by simp; omega
                      have r1 : decide ((191 : Int) < ((s[i + k].toNat : Nat) : Int)) = true := by simp; omega
                      have v1 : decide (191 < s[i + k].toNat) = true := by simp; omega
                      go_wp2_with fail
                      go_ret2
                      rw [HF.out]
                      exact ⟨rfl, Keeps.refl _ _⟩
                  · have HC : Hid (contC 1 (s.data.toList.drop (i + 1)) (s[i].toNat % 32) = contC (1 + 1 - (k + 1)) (s.data.toList.drop (i + (k + 1))) (64 * c' + s[i + k].toNat % 64)) := by show _ = _; rw [hcc.out, HC0.out, if_neg hb]
                    have hl1 : ¬ s[i + k].toNat < 128 := by omega
                    have hl2 : ¬ 191 < s[i + k].toNat := by omega
                    have hnb : 64 * c' + s[i + k].toNat % 64 < 256 * 65 ^ (k + 1 - 1) := by
                      have h := HCB.out
                      rw [show k + 1 - 1 = (k - 1) + 1 by omega, Nat.pow_succ]
                      generalize 65 ^ (k - 1) = P at h ⊢
                      omega
                    have HNB := Lib.hid hnb
                    clear hb hcc hnb
                    have r0 : decide (((s[i + k].toNat : Nat) : Int) < 128) = false := by simp; omega
                    have v0 : decide (s[i + k].toNat < 128) = false := by simp; omega
                    have r1 : decide ((191 : Int) < ((s[i + k].toNat : Nat) : Int)) = false := by simp; omega
                    have v1 : decide (191 < s[i + k].toNat) = false := by simp; omega
                    go_wp2_with fail
                    go_roundg (1 + 1 - k)
                    case measure => omega
                    case rel => exact ⟨k + 1, 64 * c' + s[i + k].toNat % 64, by omega, by omega, by omega, by omega, by go_num, by go_num, HNB.out, rfl, HC⟩
                · have HC : Hid (contC (1 + 1 - k) (s.data.toList.drop (i + k)) c' = none) := by
                    show _ = _
                    rw [List.drop_eq_nil_of_le (by simp; omega), show 1 + 1 - k = (1 - k) + 1 by omega]
                    rfl
                  have HF : Hid (lettersOf s.data.toList 0 = none) := by
                    show _ = _
                    rw [HS.out, letter_none HM.out (by rw [hcc.out]; exact HC.out)]
                  clear hcc
                  go_wp2_with fail
                  go_ret2
                  rw [HF.out]
                  exact ⟨rfl, Keeps.refl _ _⟩
              · obtain rfl : k = 1 + 1 := by omega
                have hcc : Hid (contC 1 (s.data.toList.drop (i + 1)) (s[i].toNat % 32) = some c') := hcc.out
                have HB : Hid (badC 1 c' = false) := rfl
                have HN : Hid (lettersOf s.data.toList 0 = lettersOf (s.data.toList.drop (i + (1 + 1))) (n + 1)) := by
                  show _ = _
                  rw [HS.out, letter_some HM.out hcc.out, HB.out]
                  show lettersOf ((s[i] :: s.data.toList.drop (i + 1)).drop (1 + 1)) (n + 1) = _
                  rw [show 1 + 1 = 1 + 1 by omega, List.drop_succ_cons, List.drop_drop, show i + 1 + 1 = i + (1 + 1) by omega]
                clear hcc
                go_wp2_with fail
                go_roundg (s.size - (i + (1 + 1)))
                case measure => omega
                case rel => exact ⟨i + (1 + 1), n + 1, rfl, by omega, by omega, by go_num, by go_num, rfl, HN⟩
          · by_cases h3 : 224 ≤ s[i].toNat ∧ s[i].toNat < 240
            · have HM : Hid (leadM s[i].toNat = some (2, s[i].toNat % 16)) := by show _ = _; unfold leadM; rw [if_neg hbad, if_neg h128, if_neg h2, if_pos h3]
              clear hbad h2
              have t0 : decide (((s[i].toNat : Nat) : Int) < 32) = false := by simp; omega
              have u0 : decide (s[i].toNat < 32) = false := by simp; omega
              have t1 : (((s[i].toNat : Nat) : Int) == 47) = false := by rw [beq_eq_false_iff_ne]; omega
              have t2 : (((s[i].toNat : Nat) : Int) == 127) = false := by rw [beq_eq_false_iff_ne]; omega
              have t3 : decide (((s[i].toNat : Nat) : Int) < 128) = false := by simp; omega
              have u3 : decide (s[i].toNat < 128) = false := by simp; omega
              have t4 : decide ((194 : Int) ≤ ((s[i].toNat : Nat) : Int)) = true := by simp; omega
              have u4 : decide (194 ≤ s[i].toNat) = true := by simp; omega
              have t5 : decide (((s[i].toNat : Nat) : Int) < 224) = false := by simp; omega
              have u5 : decide (s[i].toNat < 224) = false := by simp; omega
              have t6 : decide ((224 : Int) ≤ ((s[i].toNat : Nat) : Int)) = true := by simp; omega
              have u6 : decide (224 ≤ s[i].toNat) = true := by simp; omega
              have t7 : decide (((s[i].toNat : Nat) : Int) < 240) = true := by simp; omega
              have u7 : decide (s[i].toNat < 240) = true := by simp; omega
              have hc0 : s[i].toNat % 16 < 256 := by omega
              go_wp2_with fail
              clear t0 t1 t2 t3 t4 t5 t6 t7 u0 u3 u4 u5 u6 u7
              go_loopg [6, 8] (2 + 1) (fun gm cc kk wq => ∃ (k c' : Nat), 1 ≤ k ∧ k ≤ 2 + 1 ∧ gm + k = 2 + 2 ∧ i + k ≤ s.size ∧ kk = .int .i64 k ∧ cc = .int .i64 c' ∧ c' < 256 * 65 ^ (k - 1) ∧ w = wq ∧ Hid (contC 2 (s.data.toList.drop (i + 1)) (s[i].toNat % 16) = contC (2 + 1 - k) (s.data.toList.drop (i + k)) c'))
              case atStart => exact ⟨1, s[i].toNat % 16, by omega, by omega, by omega, by omega, rfl, by first | rfl | (congr 1), by simpa using hc0, rfl, rfl⟩
              case round =>
                obtain ⟨k, c', hk1, hk2, hg, hiz, rfl, rfl, hcb, rfl, hcc⟩ := hrel
                have hP : 65 ^ (k - 1) ≤ 65 ^ 3 := Nat.pow_le_pow_right (by omega) (by omega)
                have hcs : c' < 70304000 := Nat.lt_of_lt_of_le hcb (Nat.mul_le_mul_left 256 hP)
                have HCB := Lib.hid hcb
                clear hcb hP hx hc0
                by_cases hkm : k ≤ 2
                · by_cases hend : i + k < s.size
                  · have hend' : i + k < s.data.toList.length := by simpa using hend
                    have hx2 : s[i + k].toNat < 256 := UInt8.toNat_lt _
                    have HC0 : Hid (contC (2 + 1 - k) (s.data.toList.drop (i + k)) c' = if s[i + k].toNat < 128 ∨ 191 < s[i + k].toNat then none else contC (2 + 1 - (k + 1)) (s.data.toList.drop (i + (k + 1))) (64 * c' + s[i + k].toNat % 64)) := by
                      show _ = _
                      rw [List.drop_eq_getElem_cons hend', show 2 + 1 - k = (2 + 1 - (k + 1)) + 1 by omega]
                      rfl
                    by_cases hb : s[i + k].toNat < 128 ∨ 191 < s[i + k].toNat
                    · have HC : Hid (contC (2 + 1 - k) (s.data.toList.drop (i + k)) c' = none) := by show _ = _; rw [HC0.out, if_pos hb]
                      have HF : Hid (lettersOf s.data.toList 0 = none) := by
                        show _ = _
                        rw [HS.out, letter_none HM.out (by rw [hcc.out]; exact HC.out)]
                      by_cases hl : s[i + k].toNat < 128
                      · clear hb hcc
                        have r0 : decide (((s[i + k].toNat : Nat) : Int) < 128) = true := by simp; omega
                        have v0 : decide (s[i + k].toNat < 128) = true := by simp; omega
                        go_wp2_with fail
                        go_ret2
                        rw [HF.out]
                        exact ⟨rfl, Keeps.refl _ _⟩
                      · have hl2 : 191 < s[i + k].toNat := by omega
                        clear hb hcc
                        have r0 : decide (((s[i + k].toNat : Nat) : Int) < 128) = false := by simp; omega
                        have v0 : decide (s[i + k].toNat < 128) = false := by simp; omega
                        have r1 : decide ((191 : Int) < ((s[i + k].toNat : Nat) : Int)) = true := by simp; omega
                        have v1 : decide (191 < s[i + k].toNat) = true := by simp; omega
                        go_wp2_with fail
                        go_ret2
                        rw [HF.out]
                        exact ⟨rfl, Keeps.refl _ _⟩
                    · have HC : Hid (contC 2 (s.data.toList.drop (i + 1)) (s[i].toNat % 16) = contC (2 + 1 - (k + 1)) (s.data.toList.drop (i + (k + 1))) (64 * c' + s[i + k].toNat % 64)) := by show _ = _; rw [hcc.out, HC0.out, if_neg hb]
                      have hl1 : ¬ s[i + k].toNat < 128 := by omega
                      have hl2 : ¬ 191 < s[i + k].toNat := by omega
                      have hnb : 64 * c' + s[i + k].toNat % 64 < 256 * 65 ^ (k + 1 - 1) := by
                        have h := HCB.out
                        rw [show k + 1 - 1 = (k - 1) + 1 by omega, Nat.pow_succ]
                        generalize 65 ^ (k - 1) = P at h ⊢
                        omega
                      have HNB := Lib.hid hnb
                      clear hb hcc hnb
                      have r0 : decide (((s[i + k].toNat : Nat) : Int) < 128) = false := by simp; omega
                      have v0 : decide (s[i + k].toNat < 128) = false := by simp; omega
                      have r1 : decide ((191 : Int) < ((s[i + k].toNat : Nat) : Int)) = false := by simp; omega
                      have v1 : decide (191 < s[i + k].toNat) = false := by simp; omega
                      go_wp2_with fail
                      go_roundg (2 + 1 - k)
                      case measure => omega
                      case rel => exact ⟨k + 1, 64 * c' + s[i + k].toNat % 64, by omega, by omega, by omega, by omega, by go_num, by go_num, HNB.out, rfl, HC⟩
                  · have HC : Hid (contC (2 + 1 - k) (s.data.toList.drop (i + k)) c' = none) := by
                      show _ = _
                      rw [List.drop_eq_nil_of_le (by simp; omega), show 2 + 1 - k = (2 - k) + 1 by omega]
                      rfl
                    have HF : Hid (lettersOf s.data.toList 0 = none) := by
                      show _ = _
                      rw [HS.out, letter_none HM.out (by rw [hcc.out]; exact HC.out)]
                    clear hcc
                    go_wp2_with fail
                    go_ret2
                    rw [HF.out]
                    exact ⟨rfl, Keeps.refl _ _⟩
                · obtain rfl : k = 2 + 1 := by omega
                  have hcc : Hid (contC 2 (s.data.toList.drop (i + 1)) (s[i].toNat % 16) = some c') := hcc.out
                  by_cases h1 : c' < 2048
                  · have HB : Hid (badC 2 c' = true) := by show _ = _; unfold badC; simp; omega
                    have HF : Hid (lettersOf s.data.toList 0 = none) := by
                      show _ = _
                      rw [HS.out, letter_some HM.out hcc.out, HB.out]
                      rfl
                    have r0 : decide (((c' : Nat) : Int) < 2048) = true := by simp; omega
                    have v0 : decide (c' < 2048) = true := by simp; omega
                    clear hcc
                    go_wp2_with fail
                    go_ret2
                    rw [HF.out]
                    exact ⟨rfl, Keeps.refl _ _⟩
                  · by_cases h2 : c' < 55296
                    · have HB : Hid (badC 2 c' = false) := by show _ = _; unfold badC; simp; omega
                      have HN : Hid (lettersOf s.data.toList 0 = lettersOf (s.data.toList.drop (i + (1 + 2))) (n + 1)) := by
                        show _ = _
                        rw [HS.out, letter_some HM.out hcc.out, HB.out]
                        show lettersOf ((s[i] :: s.data.toList.drop (i + 1)).drop (1 + 2)) (n + 1) = _
                        rw [show 1 + 2 = 2 + 1 by omega, List.drop_succ_cons, List.drop_drop, show i + 1 + 2 = i + (2 + 1) by omega]
                      have r0 : decide (((c' : Nat) : Int) < 2048) = false := by simp; omega
                      have v0 : decide (c' < 2048) = false := by simp; omega
                      have r1 : decide ((55296 : Int) ≤ ((c' : Nat) : Int)) = false := by simp; omega
                      have v1 : decide (55296 ≤ c') = false := by simp; omega
                      clear hcc
                      go_wp2_with fail
                      go_roundg (s.size - (i + (1 + 2)))
                      case measure => omega
                      case rel => exact ⟨i + (1 + 2), n + 1, rfl, by omega, by omega, by go_num, by go_num, rfl, HN⟩
                    · by_cases h3 : c' < 57344
                      · have HB : Hid (badC 2 c' = true) := by show _ = _; unfold badC; simp; omega
                        have HF : Hid (lettersOf s.data.toList 0 = none) := by
                          show _ = _
                          rw [HS.out, letter_some HM.out hcc.out, HB.out]
                          rfl
                        have r0 : decide (((c' : Nat) : Int) < 2048) = false := by simp; omega
                        have v0 : decide (c' < 2048) = false := by simp; omega
                        have r1 : decide ((55296 : Int) ≤ ((c' : Nat) : Int)) = true := by simp; omega
                        have v1 : decide (55296 ≤ c') = true := by simp; omega
                        have r2 : decide (((c' : Nat) : Int) < 57344) = true := by simp; omega
                        have v2 : decide (c' < 57344) = true := by simp; omega
                        clear hcc
                        go_wp2_with fail
                        go_ret2
                        rw [HF.out]
                        exact ⟨rfl, Keeps.refl _ _⟩
                      · have HB : Hid (badC 2 c' = false) := by show _ = _; unfold badC; simp; omega
                        have HN : Hid (lettersOf s.data.toList 0 = lettersOf (s.data.toList.drop (i + (1 + 2))) (n + 1)) := by
                          show _ = _
                          rw [HS.out, letter_some HM.out hcc.out, HB.out]
                          show lettersOf ((s[i] :: s.data.toList.drop (i + 1)).drop (1 + 2)) (n + 1) = _
                          rw [show 1 + 2 = 2 + 1 by omega, List.drop_succ_cons, List.drop_drop, show i + 1 + 2 = i + (2 + 1) by omega]
                        have r0 : decide (((c' : Nat) : Int) < 2048) = false := by simp; omega
                        have v0 : decide (c' < 2048) = false := by simp; omega
                        have r1 : decide ((55296 : Int) ≤ ((c' : Nat) : Int)) = true := by simp; omega
                        have v1 : decide (55296 ≤ c') = true := by simp; omega
                        have r2 : decide (((c' : Nat) : Int) < 57344) = false := by simp; omega
                        have v2 : decide (c' < 57344) = false := by simp; omega
                        clear hcc
                        go_wp2_with fail
                        go_roundg (s.size - (i + (1 + 2)))
                        case measure => omega
                        case rel => exact ⟨i + (1 + 2), n + 1, rfl, by omega, by omega, by go_num, by go_num, rfl, HN⟩
            · by_cases h4 : 240 ≤ s[i].toNat ∧ s[i].toNat < 245
              · have HM : Hid (leadM s[i].toNat = some (3, s[i].toNat % 8)) := by show _ = _; unfold leadM; rw [if_neg hbad, if_neg h128, if_neg h2, if_neg h3, if_pos h4]
                clear hbad h2 h3
                have t0 : decide (((s[i].toNat : Nat) : Int) < 32) = false := by simp; omega
                have u0 : decide (s[i].toNat < 32) = false := by simp; omega
                have t1 : (((s[i].toNat : Nat) : Int) == 47) = false := by rw [beq_eq_false_iff_ne]; omega
                have t2 : (((s[i].toNat : Nat) : Int) == 127) = false := by rw [beq_eq_false_iff_ne]; omega
                have t3 : decide (((s[i].toNat : Nat) : Int) < 128) = false := by simp; omega
                have u3 : decide (s[i].toNat < 128) = false := by simp; omega
                have t4 : decide ((194 : Int) ≤ ((s[i].toNat : Nat) : Int)) = true := by simp; omega
                have u4 : decide (194 ≤ s[i].toNat) = true := by simp; omega
                have t5 : decide (((s[i].toNat : Nat) : Int) < 224) = false := by simp; omega
                have u5 : decide (s[i].toNat < 224) = false := by simp; omega
                have t6 : decide ((224 : Int) ≤ ((s[i].toNat : Nat) : Int)) = true := by simp; omega
                have u6 : decide (224 ≤ s[i].toNat) = true := by simp; omega
                have t7 : decide (((s[i].toNat : Nat) : Int) < 240) = false := by simp; omega
                have u7 : decide (s[i].toNat < 240) = false := by simp; omega
                have t8 : decide ((240 : Int) ≤ ((s[i].toNat : Nat) : Int)) = true := by simp; omega
                have u8 : decide (240 ≤ s[i].toNat) = true := by simp; omega
                have t9 : decide (((s[i].toNat : Nat) : Int) < 245) = true := by simp; omega
                have u9 : decide (s[i].toNat < 245) = true := by simp; omega
                have hc0 : s[i].toNat % 8 < 256 := by omega
                go_wp2_with fail
                clear t0 t1 t2 t3 t4 t5 t6 t7 t8 t9 u0 u3 u4 u5 u6 u7 u8 u9
                go_loopg [6, 8] (3 + 1) (fun gm cc kk wq => ∃ (k c' : Nat), 1 ≤ k ∧ k ≤ 3 + 1 ∧ gm + k = 3 + 2 ∧ i + k ≤ s.size ∧ kk = .int .i64 k ∧ cc = .int .i64 c' ∧ c' < 256 * 65 ^ (k - 1) ∧ w = wq ∧ Hid (contC 3 (s.data.toList.drop (i + 1)) (s[i].toNat % 8) = contC (3 + 1 - k) (s.data.toList.drop (i + k)) c'))
                case atStart => exact ⟨1, s[i].toNat % 8, by omega, by omega, by omega, by omega, rfl, by first | rfl | (congr 1), by simpa using hc0, rfl, rfl⟩
                case round =>
                  obtain ⟨k, c', hk1, hk2, hg, hiz, rfl, rfl, hcb, rfl, hcc⟩ := hrel
                  have hP : 65 ^ (k - 1) ≤ 65 ^ 3 := Nat.pow_le_pow_right (by omega) (by omega)
                  have hcs : c' < 70304000 := Nat.lt_of_lt_of_le hcb (Nat.mul_le_mul_left 256 hP)
                  have HCB := Lib.hid hcb
                  clear hcb hP hx hc0
                  by_cases hkm : k ≤ 3
                  · by_cases hend : i + k < s.size
                    · have hend' : i + k < s.data.toList.length := by simpa using hend
                      have hx2 : s[i + k].toNat < 256 := UInt8.toNat_lt _
                      have HC0 : Hid (contC (3 + 1 - k) (s.data.toList.drop (i + k)) c' = if s[i + k].toNat < 128 ∨ 191 < s[i + k].toNat then none else contC (3 + 1 - (k + 1)) (s.data.toList.drop (i + (k + 1))) (64 * c' + s[i + k].toNat % 64)) := by
                        show _ = _
                        rw [List.drop_eq_getElem_cons hend', show 3 + 1 - k = (3 + 1 - (k + 1)) + 1 by omega]
                        rfl
                      by_cases hb : s[i + k].toNat < 128 ∨ 191 < s[i + k].toNat
                      · have HC : Hid (contC (3 + 1 - k) (s.data.toList.drop (i + k)) c' = none) := by show _ = _; rw [HC0.out, if_pos hb]
                        have HF : Hid (lettersOf s.data.toList 0 = none) := by
                          show _ = _
                          rw [HS.out, letter_none HM.out (by rw [hcc.out]; exact HC.out)]
                        by_cases hl : s[i + k].toNat < 128
                        · clear hb hcc
                          have r0 : decide (((s[i + k].toNat : Nat) : Int) < 128) = true := by simp; omega
                          have v0 : decide (s[i + k].toNat < 128) = true := by simp; omega
                          go_wp2_with fail
                          go_ret2
                          rw [HF.out]
                          exact ⟨rfl, Keeps.refl _ _⟩
                        · have hl2 : 191 < s[i + k].toNat := by omega
                          clear hb hcc
                          have r0 : decide (((s[i + k].toNat : Nat) : Int) < 128) = false := by simp; omega
                          have v0 : decide (s[i + k].toNat < 128) = false := by simp; omega
                          have r1 : decide ((191 : Int) < ((s[i + k].toNat : Nat) : Int)) = true := by simp; omega
                          have v1 : decide (191 < s[i + k].toNat) = true := by simp; omega
                          go_wp2_with fail
                          go_ret2
                          rw [HF.out]
                          exact ⟨rfl, Keeps.refl _ _⟩
                      · have HC : Hid (contC 3 (s.data.toList.drop (i + 1)) (s[i].toNat % 8) = contC (3 + 1 - (k + 1)) (s.data.toList.drop (i + (k + 1))) (64 * c' + s[i + k].toNat % 64)) := by show _ = _; rw [hcc.out, HC0.out, if_neg hb]
                        have hl1 : ¬ s[i + k].toNat < 128 := by omega
                        have hl2 : ¬ 191 < s[i + k].toNat := by omega
                        have hnb : 64 * c' + s[i + k].toNat % 64 < 256 * 65 ^ (k + 1 - 1) := by
                          have h := HCB.out
                          rw [show k + 1 - 1 = (k - 1) + 1 by omega, Nat.pow_succ]
                          generalize 65 ^ (k - 1) = P at h ⊢
                          omega
                        have HNB := Lib.hid hnb
                        clear hb hcc hnb
                        have r0 : decide (((s[i + k].toNat : Nat) : Int) < 128) = false := by simp; omega
                        have v0 : decide (s[i + k].toNat < 128) = false := by simp; omega
                        have r1 : decide ((191 : Int) < ((s[i + k].toNat : Nat) : Int)) = false := by simp; omega
                        have v1 : decide (191 < s[i + k].toNat) = false := by simp; omega
                        go_wp2_with fail
                        go_roundg (3 + 1 - k)
                        case measure => omega
                        case rel => exact ⟨k + 1, 64 * c' + s[i + k].toNat % 64, by omega, by omega, by omega, by omega, by go_num, by go_num, HNB.out, rfl, HC⟩
                    · have HC : Hid (contC (3 + 1 - k) (s.data.toList.drop (i + k)) c' = none) := by
                        show _ = _
                        rw [List.drop_eq_nil_of_le (by simp; omega), show 3 + 1 - k = (3 - k) + 1 by omega]
                        rfl
                      have HF : Hid (lettersOf s.data.toList 0 = none) := by
                        show _ = _
                        rw [HS.out, letter_none HM.out (by rw [hcc.out]; exact HC.out)]
                      clear hcc
                      go_wp2_with fail
                      go_ret2
                      rw [HF.out]
                      exact ⟨rfl, Keeps.refl _ _⟩
                  · obtain rfl : k = 3 + 1 := by omega
                    have hcc : Hid (contC 3 (s.data.toList.drop (i + 1)) (s[i].toNat % 8) = some c') := hcc.out
                    by_cases h1 : c' < 65536
                    · have HB : Hid (badC 3 c' = true) := by show _ = _; unfold badC; simp; omega
                      have HF : Hid (lettersOf s.data.toList 0 = none) := by
                        show _ = _
                        rw [HS.out, letter_some HM.out hcc.out, HB.out]
                        rfl
                      have r0 : decide (((c' : Nat) : Int) < 65536) = true := by simp; omega
                      have v0 : decide (c' < 65536) = true := by simp; omega
                      clear hcc
                      go_wp2_with fail
                      go_ret2
                      rw [HF.out]
                      exact ⟨rfl, Keeps.refl _ _⟩
                    · by_cases h2 : 1114111 < c'
                      · have HB : Hid (badC 3 c' = true) := by show _ = _; unfold badC; simp; omega
                        have HF : Hid (lettersOf s.data.toList 0 = none) := by
                          show _ = _
                          rw [HS.out, letter_some HM.out hcc.out, HB.out]
                          rfl
                        have r0 : decide (((c' : Nat) : Int) < 65536) = false := by simp; omega
                        have v0 : decide (c' < 65536) = false := by simp; omega
                        have r1 : decide ((1114111 : Int) < ((c' : Nat) : Int)) = true := by simp; omega
                        have v1 : decide (1114111 < c') = true := by simp; omega
                        clear hcc
                        go_wp2_with fail
                        go_ret2
                        rw [HF.out]
                        exact ⟨rfl, Keeps.refl _ _⟩
                      · have HB : Hid (badC 3 c' = false) := by show _ = _; unfold badC; simp; omega
                        have HN : Hid (lettersOf s.data.toList 0 = lettersOf (s.data.toList.drop (i + (1 + 3))) (n + 1)) := by
                          show _ = _
                          rw [HS.out, letter_some HM.out hcc.out, HB.out]
                          show lettersOf ((s[i] :: s.data.toList.drop (i + 1)).drop (1 + 3)) (n + 1) = _
                          rw [show 1 + 3 = 3 + 1 by omega, List.drop_succ_cons, List.drop_drop, show i + 1 + 3 = i + (3 + 1) by omega]
                        have r0 : decide (((c' : Nat) : Int) < 65536) = false := by simp; omega
                        have v0 : decide (c' < 65536) = false := by simp; omega
                        have r1 : decide ((1114111 : Int) < ((c' : Nat) : Int)) = false := by simp; omega
                        have v1 : decide (1114111 < c') = false := by simp; omega
                        clear hcc
                        go_wp2_with fail
                        go_roundg (s.size - (i + (1 + 3)))
                        case measure => omega
                        case rel => exact ⟨i + (1 + 3), n + 1, rfl, by omega, by omega, by go_num, by go_num, rfl, HN⟩
              · have HM : Hid (leadM s[i].toNat = none) := by show _ = _; unfold leadM; rw [if_neg hbad, if_neg h128, if_neg h2, if_neg h3, if_neg h4]
                have HF : Hid (lettersOf s.data.toList 0 = none) := by
                  show _ = _
                  rw [HS.out, letter_bad HM.out]
                by_cases h5 : s[i].toNat < 194
                · clear hbad h2 h3 h4
                  have t0 : decide (((s[i].toNat : Nat) : Int) < 32) = false := by simp; omega
                  have u0 : decide (s[i].toNat < 32) = false := by simp; omega
                  have t1 : (((s[i].toNat : Nat) : Int) == 47) = false := by rw [beq_eq_false_iff_ne]; omega
                  have t2 : (((s[i].toNat : Nat) : Int) == 127) = false := by rw [beq_eq_false_iff_ne]; omega
                  have t3 : decide (((s[i].toNat : Nat) : Int) < 128) = false := by simp; omega
                  have u3 : decide (s[i].toNat < 128) = false := by simp; omega
                  have t4 : decide ((194 : Int) ≤ ((s[i].toNat : Nat) : Int)) = false := by simp; omega
                  have u4 : decide (194 ≤ s[i].toNat) = false := by simp; omega
                  have t5 : decide ((224 : Int) ≤ ((s[i].toNat : Nat) : Int)) = false := by simp; omega
                  have u5 : decide (224 ≤ s[i].toNat) = false := by simp; omega
                  have t6 : decide ((240 : Int) ≤ ((s[i].toNat : Nat) : Int)) = false := by simp; omega
                  have u6 : decide (240 ≤ s[i].toNat) = false := by simp; omega
                  go_wp2_with fail
                  go_ret2
                  rw [HF.out]
                  exact ⟨rfl, Keeps.refl _ _⟩
                · have h6 : 245 ≤ s[i].toNat := by omega
                  clear hbad h2 h3 h4
                  have t0 : decide (((s[i].toNat : Nat) : Int) < 32) = false := by simp; omega
                  have u0 : decide (s[i].toNat < 32) = false := by simp; omega
                  have t1 : (((s[i].toNat : Nat) : Int) == 47) = false := by rw [beq_eq_false_iff_ne]; omega
                  have t2 : (((s[i].toNat : Nat) : Int) == 127) = false := by rw [beq_eq_false_iff_ne]; omega
                  have t3 : decide (((s[i].toNat : Nat) : Int) < 128) = false := by simp; omega
                  have u3 : decide (s[i].toNat < 128) = false := by simp; omega
                  have t4 : decide ((194 : Int) ≤ ((s[i].toNat : Nat) : Int)) = true := by simp; omega
                  have u4 : decide (194 ≤ s[i].toNat) = true := by simp; omega
                  have t5 : decide (((s[i].toNat : Nat) : Int) < 224) = false := by simp; omega
                  have u5 : decide (s[i].toNat < 224) = false := by simp; omega
                  have t6 : decide ((224 : Int) ≤ ((s[i].toNat : Nat) : Int)) = true := by simp; omega
                  have u6 : decide (224 ≤ s[i].toNat) = true := by simp; omega
                  have t7 : decide (((s[i].toNat : Nat) : Int) < 240) = false := by simp; omega
                  have u7 : decide (s[i].toNat < 240) = false := by simp; omega
                  have t8 : decide ((240 : Int) ≤ ((s[i].toNat : Nat) : Int)) = true := by simp; omega
                  have u8 : decide (240 ≤ s[i].toNat) = true := by simp; omega
                  have t9 : decide (((s[i].toNat : Nat) : Int) < 245) = false := by simp; omega
                  have u9 : decide (s[i].toNat < 245) = false := by simp; omega
                  go_wp2_with fail
                  go_ret2
                  rw [HF.out]
                  exact ⟨rfl, Keeps.refl _ _⟩
    · have HF : Hid (lettersOf s.data.toList 0 = some n) := by
        show _ = _
        rw [hl.out, List.drop_eq_nil_of_le (by simp; omega)]
        rfl
      clear hl
      go_wp2_with fail
      go_ret2
      rw [HF.out]
      exact ⟨rfl, Keeps.refl _ _⟩
end Go.Proofs.YtohbjbicmgnblaaDoor
