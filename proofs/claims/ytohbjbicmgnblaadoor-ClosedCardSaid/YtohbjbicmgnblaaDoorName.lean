/- tree.data and tree.Name. -/
import Derived.Test.YtohbjbicmgnblaaDoorChecked
import Derived.Test.YtohbjbicmgnblaaDoorLib
import Derived.Test.YtohbjbicmgnblaaDoorValid
import Derived.Lib.ValidLaws
import Derived.Lib.OthersKept
namespace Go.Proofs.YtohbjbicmgnblaaDoor
open Go Go.RowKit
set_option linter.unusedVariables false

/-- may bytes stand with a node of a kind -/
def dataB (k : Int) (s : List UInt8) : Bool :=
  if k = 3 then !s.isEmpty && decide (s.length ≤ 100) && decide (Lib.indexByte s 0 < 0)
  else if k = 4 then s.isEmpty
  else if k = 1 ∨ k = 2 then decide (s.length ≤ 100)
  else false

set_option maxHeartbeats 400000 in
theorem data_any (k : Int) (s : ByteArray) (w : World) (hs : s.size ≤ maxLen) :
    Calls Tryd.prog 27 #[.int .i64 k, .string s] w fun e w' => e = .returned (.bool (dataB k s.data.toList)) ∧ w = w' := by
  unfold maxLen at hs
  have hlen : s.data.toList.length = s.size := dlen s
  by_cases h3 : k = 3
  · subst h3
    by_cases he : s.data.toList = []
    · have hb : (!s.toList.isEmpty) = false := by rw [ByteArray.toList_eq, he]; rfl
      have hb' : s.toList = [] := by rw [ByteArray.toList_eq, he]
      have HF : Hid (dataB 3 s.data.toList = false) := by show _ = _; rw [he]; rfl
      clear he hlen
      go_enter Tryd.func27, Tryd.ntmps27
      go_wp2_with fail
      go_ret
      exact ⟨bool_ret HF.out.symm, rfl⟩
    · have hb : (!s.toList.isEmpty) = true := by rw [ByteArray.toList_eq, List.isEmpty_eq_false_iff.2 he]; rfl
      have hb' : ¬ s.toList = [] := by rw [ByteArray.toList_eq]; exact he
      by_cases hl : s.size ≤ 100
      · have HF : Hid (dataB 3 s.data.toList = decide (Lib.indexByte s.data.toList 0 < 0)) := by
          show _ = _
          unfold dataB
          rw [if_pos rfl, List.isEmpty_eq_false_iff.2 he, hlen, decide_eq_true hl]; rfl
        clear he hlen
        go_enter Tryd.func27, Tryd.ntmps27
        go_wp2_with fail
        refine (indexByte_any s 0 _).mono ?_
        rintro e w' ⟨rfl, rfl⟩
        generalize Lib.indexByte s.data.toList 0 = j at *
        go_wp2_with fail
        go_ret
        exact ⟨bool_ret HF.out.symm, rfl⟩
      · have hd : decide ((s.size : Int) ≤ 100) = false := by simp; omega
        have HF : Hid (dataB 3 s.data.toList = false) := by
          show _ = _
          unfold dataB
          rw [if_pos rfl, hlen, decide_eq_false hl]; simp
        clear he hlen
        go_enter Tryd.func27, Tryd.ntmps27
        go_wp2_with fail
        go_ret
        exact ⟨bool_ret HF.out.symm, rfl⟩
  · have n3 : (k == 3) = false := beq_eq_false_iff_ne.2 h3
    by_cases h4 : k = 4
    · subst h4
      have HF : Hid (dataB 4 s.data.toList = s.toList.isEmpty) := by show _ = _; rw [ByteArray.toList_eq]; rfl
      clear h3 hlen
      go_enter Tryd.func27, Tryd.ntmps27
      go_wp2_with fail
      go_ret
      exact ⟨bool_ret HF.out.symm, rfl⟩
    · have n4 : (k == 4) = false := beq_eq_false_iff_ne.2 h4
      by_cases h2 : k = 2
      · subst h2
        have HF : Hid (dataB 2 s.data.toList = decide ((s.size : Int) ≤ 100)) := by show _ = _; unfold dataB; rw [hlen]; simp; omega
        clear h3 h4 hlen
        go_enter Tryd.func27, Tryd.ntmps27
        go_wp2_with fail
        go_ret
        exact ⟨bool_ret HF.out.symm, rfl⟩
      · have n2 : (k == 2) = false := beq_eq_false_iff_ne.2 h2
        by_cases h1 : k = 1
        · subst h1
          have HF : Hid (dataB 1 s.data.toList = decide ((s.size : Int) ≤ 100)) := by show _ = _; unfold dataB; rw [hlen]; simp; omega
          clear h3 h4 h2 hlen
          go_enter Tryd.func27, Tryd.ntmps27
          go_wp2_with fail
          go_ret
          exact ⟨bool_ret HF.out.symm, rfl⟩
        · have n1 : (k == 1) = false := beq_eq_false_iff_ne.2 h1
          have HF : Hid (dataB k s.data.toList = false) := by show _ = _; unfold dataB; simp [h1, h2, h3, h4]
          clear h1 h2 h3 h4 hlen
          go_enter Tryd.func27, Tryd.ntmps27
          go_wp2_with fail
          go_ret
          exact ⟨bool_ret HF.out.symm, rfl⟩

def badR (r : Nat) : Bool := decide (r < 32) || r == 47 || r == 127
/-- the letters of a text, while none of them is bad -/
def scanN : Nat → List UInt8 → Nat → Option Nat
  | 0, _, n => some n
  | f + 1, l, n => if l = [] then some n else if badR (Lib.decodeL l).1 then none else scanN f (l.drop (Lib.decodeL l).2) (n + 1)
theorem scanN_nil : ∀ f n, scanN f [] n = some n
  | 0, _ => rfl
  | _ + 1, _ => by simp [scanN]
theorem scanN_fuel : ∀ (f g : Nat) (l : List UInt8) (n : Nat), l.length ≤ f → l.length ≤ g → scanN f l n = scanN g l n
  | 0, g, l, n, hf, _ => by
    obtain rfl : l = [] := List.eq_nil_of_length_eq_zero (by omega)
    rw [scanN_nil, scanN_nil]
  | f + 1, 0, l, n, _, hg => by
    obtain rfl : l = [] := List.eq_nil_of_length_eq_zero (by omega)
    rw [scanN_nil, scanN_nil]
  | f + 1, g + 1, l, n, hf, hg => by
    unfold scanN
    by_cases hne : l = []
    · simp [hne]
    · have hw := Lib.decodeL_width l
      have hl : 0 < l.length := List.length_pos_iff.2 hne
      rw [if_neg hne, if_neg hne, scanN_fuel f g _ _ (by rw [List.length_drop]; omega) (by rw [List.length_drop]; omega)]
def scanOf (l : List UInt8) (n : Nat) : Option Nat := scanN l.length l n
theorem scanOf_step (l : List UInt8) (n : Nat) (h : l ≠ []) : scanOf l n = if badR (Lib.decodeL l).1 then none else scanOf (l.drop (Lib.decodeL l).2) (n + 1) := by
  have hl : 0 < l.length := List.length_pos_iff.2 h
  have hw := Lib.decodeL_width l
  obtain ⟨k, hk⟩ : ∃ k, l.length = k + 1 := ⟨l.length - 1, by omega⟩
  unfold scanOf
  rw [hk]
  show (if l = [] then _ else _) = _
  rw [if_neg h, scanN_fuel k (l.drop (Lib.decodeL l).2).length _ _ (by rw [List.length_drop]; omega) (Nat.le_refl _)]
/-- is a text a name -/
def nameB (l : List UInt8) : Bool :=
  match scanOf l 0 with
  | none => false
  | some n => decide (0 < n) && decide (n ≤ 12) && Lib.validD l && l != [46] && l != [46, 46]

set_option maxHeartbeats 400000 in
set_option maxRecDepth 100000 in
theorem name_any (s : ByteArray) (w : World) (hs : s.size ≤ maxLen) (hT : Tabs w) :
    Calls Tryd.prog 51 #[.string s] w fun e w' => e = .returned (.bool (nameB s.data.toList)) ∧ Keeps Non w w' := by
  unfold maxLen at hs
  have HT := Lib.hid hT
  clear hT
  go_enter Tryd.func51, Tryd.ntmps51
  go_wp2
  go_loopw [3] (fun c wr => ∃ pos n : Nat, wr = w.iter s pos ∧ c = .int .i64 n ∧ n ≤ pos ∧ n ≤ s.size ∧ Hid (scanOf s.data.toList 0 = scanOf (s.data.toList.drop pos) n)) (fun _ wr => s.size - wr.iterPos w.heap.size)
  case atStart => exact ⟨0, 0, rfl, rfl, by omega, by omega, rfl⟩
  case round =>
    obtain ⟨pos, n, rfl, rfl, hn, hle, hsc⟩ := hrel
    by_cases hlt : pos < s.size
    · have hnx := fun ty => run_next_any (P := Tryd.prog) w s pos ty hlt
      have hr := decode_le s pos
      have hdd := Lib.decodeL_drop s pos
      have hw := Lib.decodeL_width (s.data.toList.drop pos)
      have hstep := scanOf_step (s.data.toList.drop pos) n (by
        intro e
        have := congrArg List.length e
        rw [List.length_drop, dlen] at this
        simp at this
        omega)
      rw [hdd, List.drop_drop] at hstep
      rw [hdd] at hw
      have HSTEP := Lib.hid hstep
      clear hstep hdd
      generalize hd : Utf8.decode s pos = d at *
      obtain ⟨r, wd⟩ := d
      have HD := Lib.hid hd
      clear hd
      simp only at hnx hr HSTEP hw
      by_cases hb : badR r = true
      · have HF : Hid (nameB s.data.toList = false) := by
          show _ = _
          unfold nameB
          rw [hsc.out, HSTEP.out, if_pos hb]
        have hI : Keeps Non w (w.iter s (pos + wd)) := (Keeps.refl _ _).alloc _
        have HI := Lib.hid hI
        clear hI
        by_cases c1 : r < 32
        · have b1 : decide ((r : Int) < 32) = true := by simp; omega
          clear hb
          go_wp2
          go_ret
          exact ⟨bool_ret HF.out.symm, HI.out⟩
        · have b1 : decide ((r : Int) < 32) = false := by simp; omega
          by_cases c2 : r = 47
          · have b2 : ((r : Int) == 47) = true := by rw [beq_iff_eq]; omega
            clear hb c1 c2
            go_wp2
            go_ret
            exact ⟨bool_ret HF.out.symm, HI.out⟩
          · have b2 : ((r : Int) == 47) = false := by rw [beq_eq_false_iff_ne]; omega
            have b3 : ((r : Int) == 127) = true := by simp [badR] at hb; rw [beq_iff_eq]; omega
            clear hb c1 c2
            go_wp2
            go_ret
            exact ⟨bool_ret HF.out.symm, HI.out⟩
      · have b1 : decide ((r : Int) < 32) = false := by simp [badR] at hb; simp; omega
        have b2 : ((r : Int) == 47) = false := by simp [badR] at hb; rw [beq_eq_false_iff_ne]; omega
        have b3 : ((r : Int) == 127) = false := by simp [badR] at hb; rw [beq_eq_false_iff_ne]; omega
        have HB := Lib.hid hb
        clear hb
        go_wp2
        go_roundw
        case rel => exact ⟨pos + wd, n + 1, rfl, by go_num, by omega, by omega, (show _ = _ from by rw [hsc.out, HSTEP.out, if_neg HB.out])⟩
        case measure => rw [World.iterPos_iter, World.iterPos_iter]; omega
    · have hend := fun ty => run_next_end (P := Tryd.prog) w s pos ty hlt
      have hI : Keeps Non w (w.iter s pos) := (Keeps.refl _ _).alloc _
      have hT' := HT.out.keeps hI
      have hsc' : scanOf s.data.toList 0 = some n := by
        rw [hsc.out, List.drop_of_length_le (by rw [dlen]; omega)]; exact scanN_nil _ _
      have HSC := Lib.hid hsc'
      have HI := Lib.hid hI
      have HT' := Lib.hid hT'
      clear hI hT' hsc' hsc HT
      by_cases c1 : 0 < n
      · by_cases c2 : n ≤ 12
        · have HF : Hid (nameB s.data.toList = (Lib.validD s.data.toList && (s.data.toList != [46] && s.data.toList != [46, 46]))) := by
            show _ = _
            unfold nameB
            rw [HSC.out]
            simp [c1, c2, Bool.and_assoc]
          go_wp2_with fail
          refine (validString_any s _ (by omega) HT'.out).mono ?_
          rintro e w1 ⟨rfl, hk1⟩
          have HK1 := Lib.hid (HI.out.trans hk1 (fun _ h => h.elim))
          clear hk1 hend
          cases hv : Lib.validD s.data.toList with
          | false =>
            rw [hv] at HF
            clear hv
            go_wp2_with fail
            go_ret
            exact ⟨bool_ret HF.out.symm, HK1.out⟩
          | true =>
            rw [hv] at HF
            clear hv
            by_cases e1 : s.data.toList = [46]
            · have b1 : (!s.toList == [46]) = false := by rw [ByteArray.toList_eq, e1]; rfl
              have HF3 : Hid (nameB s.data.toList = false) := by show _ = _; rw [HF.out, e1]; rfl
              clear e1 HF
              go_wp2_with fail
              go_ret
              exact ⟨bool_ret HF3.out.symm, HK1.out⟩
            · have b1 : (!s.toList == [46]) = true := by rw [ByteArray.toList_eq]; simpa using e1
              have HF2 : Hid (nameB s.data.toList = (!s.toList == [46, 46])) := by
                show _ = _
                rw [HF.out, ByteArray.toList_eq, bne_iff_ne.2 e1]
                rfl
              clear e1 HF
              go_wp2_with fail
              go_ret
              exact ⟨bool_ret HF2.out.symm, HK1.out⟩
        · have HF : Hid (nameB s.data.toList = false) := by
            show _ = _
            unfold nameB
            rw [HSC.out]
            simp [c2]
          have d2 : decide ((n : Int) ≤ 12) = false := by simp; omega
          go_wp2_with fail
          go_ret
          exact ⟨bool_ret HF.out.symm, HI.out⟩
      · have HF : Hid (nameB s.data.toList = false) := by
          show _ = _
          unfold nameB
          rw [HSC.out]
          simp [c1]
        have d1 : decide ((0 : Int) < (n : Int)) = false := by simp; omega
        go_wp2_with fail
        go_ret
        exact ⟨bool_ret HF.out.symm, HI.out⟩
end Go.Proofs.YtohbjbicmgnblaaDoor
