/- narref: paths, and what stands with a node. -/
import Derived.Test.YtohbjbicmgnblaaDoorChecked
import Derived.Test.YtohbjbicmgnblaaDoorRefA
namespace Go.Proofs.YtohbjbicmgnblaaDoor
open Go Go.RowKit
set_option linter.unusedVariables false

theorem arr_ext {a : ByteArray} {l : List UInt8} (h : a.data.toList = l) : a = ⟨l.toArray⟩ := by
  apply ByteArray.ext; apply Array.ext'; simpa using h

set_option maxHeartbeats 400000 in
set_option maxRecDepth 100000 in
theorem rsplit_any (s : ByteArray) (w : World) (hs : s.size ≤ maxLen) :
    Calls Tryd.prog 36 #[.string s] w fun e w' => e = .returned (.tuple #[sv (dirOf s.data.toList).1, sv (dirOf s.data.toList).2]) ∧ Keeps Non w w' := by
  unfold maxLen at hs
  go_enter Tryd.func36, Tryd.ntmps36
  go_wp2
  go_loop [4] (fun i => ∃ k : Nat, k ≤ s.size ∧ i = .int .i64 ((k : Int) - 1) ∧ Hid (lastIdx s.data.toList 47 = lastAt s.data.toList 47 k)) (fun i => (intOf i + 1).toNat)
  case atStart => exact ⟨s.size, Nat.le_refl _, rfl, rfl⟩
  case round =>
    obtain ⟨k, hk, rfl, hl⟩ := hrel
    by_cases h0 : k = 0
    · subst h0
      have HF : Hid (dirOf s.data.toList = ([], s.data.toList)) := by
        show _ = _
        unfold dirOf
        rw [if_neg (by rw [hl.out]; simp [lastAt])]
      go_wp2
      go_ret2
      rw [HF.out]
      exact ⟨by rw [arr_ext (a := s) rfl]; rfl, Keeps.refl _ _⟩
    · obtain ⟨j, rfl⟩ : ∃ j, k = j + 1 := ⟨k - 1, by omega⟩
      clear h0
      have e1 : ((j + 1 : Nat) : Int) - 1 = (j : Int) := by omega
      rw [e1]
      have hlt : j < s.size := by omega
      by_cases hc : s[j] = 47
      · have hb : ((s[j].toNat : Int) == 47) = true := by rw [hc]; rfl
        have HL := Lib.hid (show s.data.toList[j]? = some 47 by rw [← hc]; exact List.getElem?_eq_getElem (by simpa using hlt))
        have HI : Hid (lastIdx s.data.toList 47 = (j : Int)) := by show _ = _; rw [hl.out, lastAt, if_pos HL.out]
        have HF : Hid (dirOf s.data.toList = (s.data.toList.take j, s.data.toList.drop (j + 1))) := by
          show _ = _
          unfold dirOf
          rw [if_pos (by rw [HI.out]; omega), HI.out]
          rfl
        have HE1 : Hid (s.extract 0 j = ⟨(s.data.toList.take j).toArray⟩) := by
          show _ = _
          apply arr_ext; rw [ext_list]; simp
        have HE2 : Hid (s.extract (j + 1) s.size = ⟨(s.data.toList.drop (j + 1)).toArray⟩) := by
          show _ = _
          apply arr_ext; rw [ext_list, List.take_of_length_le (by simp)]
        clear hc hl
        go_wp2_with fail
        have q1 : IntKind.i64.wrap ((j : Int) + 1) = (j : Int) + 1 := IntWalk.i64_in _ (by omega)
        go_quiet (fail)
        go_wp2_with fail
        go_ret2
        rw [HF.out, HE1.out, HE2.out]
        exact ⟨rfl, (Keeps.refl _ _).drewN _⟩
      · have hb : ((s[j].toNat : Int) == 47) = false := by
          rw [beq_eq_false_iff_ne]; intro e; exact hc (UInt8.toNat_inj.1 (show s[j].toNat = 47 by omega))
        have HL := Lib.hid (show ¬ s.data.toList[j]? = some 47 by rw [List.getElem?_eq_getElem (by simpa using hlt)]; intro e; exact hc (Option.some.inj e))
        clear hc
        go_wp2
        go_round
        case rel => exact ⟨j, by omega, by go_num, (show lastIdx s.data.toList 47 = lastAt s.data.toList 47 j by rw [hl.out, lastAt, if_neg HL.out])⟩
        case measure => simp [intOf]

/-- how many directories stand above a path -/
def depthL (p : List UInt8) : Nat := if p = [] then 0 else 1 + p.countP (· == 47)
theorem countP_snoc (s : ByteArray) (k : Nat) (h : k < s.size) : (s.data.toList.take (k + 1)).countP (· == 47) = (s.data.toList.take k).countP (· == 47) + (if s[k] == 47 then 1 else 0) := by
  have hl : k < s.data.toList.length := by simpa using h
  rw [List.take_succ_eq_append_getElem hl, List.countP_append, List.countP_singleton]
  rfl

set_option maxHeartbeats 400000 in
theorem rdepth_any (s : ByteArray) (w : World) (hs : s.size ≤ 4611686018427387904) :
    Calls Tryd.prog 38 #[.string s] w fun e w' => e = .returned (.int .i64 (depthL s.data.toList)) ∧ w = w' := by
  by_cases h0 : s.data.toList = []
  · have hb : s.toList.isEmpty = true := by rw [ByteArray.toList_eq, h0]; rfl
    have HF : Hid (depthL s.data.toList = 0) := by show _ = _; unfold depthL; rw [if_pos h0]
    clear h0
    go_enter Tryd.func38, Tryd.ntmps38
    go_wp2_with fail
    go_ret
    rw [HF.out]
    exact ⟨rfl, rfl⟩
  · have hb : s.toList.isEmpty = false := by rw [ByteArray.toList_eq]; simpa using h0
    have HF : Hid (depthL s.data.toList = 1 + s.data.toList.countP (· == 47)) := by show _ = _; unfold depthL; rw [if_neg h0]
    clear h0
    go_enter Tryd.func38, Tryd.ntmps38
    go_wp2_with fail
    clear hb
    go_loop [3, 4] (fun n i => ∃ (k c : Nat), k ≤ s.size ∧ i = .int .i64 k ∧ n = .int .i64 (1 + (c : Int)) ∧ c ≤ k ∧ Hid (c = (s.data.toList.take k).countP (· == 47))) (fun _ i => s.size - (intOf i).toNat)
    case atStart => exact ⟨0, 0, by omega, rfl, rfl, by omega, rfl⟩
    case round =>
      obtain ⟨k, c, hk, rfl, rfl, hck, hc⟩ := hrel
      by_cases hlt : k < s.size
      · have HS := Lib.hid (countP_snoc s k hlt)
        by_cases h47 : s[k] = 47
        · have hb : ((s[k].toNat : Int) == 47) = true := by rw [h47]; rfl
          have HC : Hid (c + 1 = (s.data.toList.take (k + 1)).countP (· == 47)) := by show _ = _; rw [HS.out, ← hc.out, h47]; rfl
          clear h47 HS hc
          go_wp2_with fail
          go_round
          case rel => exact ⟨k + 1, c + 1, by omega, by go_num, by congr 1, by omega, HC⟩
          case measure => simp [intOf]; omega
        · have hb : ((s[k].toNat : Int) == 47) = false := by
            rw [beq_eq_false_iff_ne]; intro e; exact h47 (UInt8.toNat_inj.1 (show s[k].toNat = 47 by omega))
          have HC : Hid (c = (s.data.toList.take (k + 1)).countP (· == 47)) := by show _ = _; rw [HS.out, ← hc.out, if_neg (by simpa using h47), Nat.add_zero]
          clear h47 HS hc
          go_wp2_with fail
          go_round
          case rel => exact ⟨k + 1, c, by omega, by go_num, rfl, by omega, HC⟩
          case measure => simp [intOf]; omega
      · have HC : Hid (c = s.data.toList.countP (· == 47)) := by
          have := hc.out
          rwa [List.take_of_length_le (by simp; omega)] at this
        clear hc
        go_wp2_with fail
        go_ret
        rw [HF.out, ← HC.out]
        exact ⟨int_ret (by omega), rfl⟩

/-- does a path stand within a directory -/
def belowB (p d : List UInt8) : Bool := if d = [] then !p.isEmpty else decide (d.length < p.length) && (p.take (d.length + 1) == d ++ [47])
set_option maxHeartbeats 400000 in
theorem rbelow_any (p d : ByteArray) (w : World) (hd : d.size < 9223372036854775807) (hp : p.size ≤ 4611686018427387904) :
    Calls Tryd.prog 39 #[.string p, .string d] w fun e w' => e = .returned (.bool (belowB p.data.toList d.data.toList)) ∧ w = w' := by
  by_cases h0 : d.data.toList = []
  · have hb : d.toList.isEmpty = true := by rw [ByteArray.toList_eq, h0]; rfl
    have HF : Hid (belowB p.data.toList d.data.toList = !p.toList.isEmpty) := by show _ = _; unfold belowB; rw [if_pos h0, ByteArray.toList_eq]
    clear h0
    go_enter Tryd.func39, Tryd.ntmps39
    go_wp2_with fail
    go_ret
    exact ⟨bool_ret HF.out.symm, rfl⟩
  · have hb : d.toList.isEmpty = false := by rw [ByteArray.toList_eq]; simpa using h0
    by_cases hl : d.size < p.size
    · have HF : Hid (belowB p.data.toList d.data.toList = ((p.data.toList.take (d.size + 1)) == d.data.toList ++ [47])) := by
        show _ = _
        unfold belowB
        rw [if_neg h0, dlen, dlen, decide_eq_true hl]
        rfl
      have q1 : IntKind.i64.wrap ((d.size : Int) + 1) = (d.size : Int) + 1 := IntWalk.i64_in _ (by omega)
      clear h0
      go_enter Tryd.func39, Tryd.ntmps39
      go_wp2_with fail
      go_ret
      refine ⟨bool_ret ?_, rfl⟩
      rw [HF.out]
      first | (rw [ByteArray.toList_eq, ByteArray.toList_eq, ext_list, ByteArray.data_append, Array.toList_append]; rfl) | (simp only [ByteArray.toList_eq, ext_list]; trace_state; rfl) | trace_state
    · have HF : Hid (belowB p.data.toList d.data.toList = false) := by
        show _ = _
        unfold belowB
        rw [if_neg h0, dlen, dlen, decide_eq_false hl]
        rfl
      have hl2 : decide ((d.size : Int) < (p.size : Int)) = false := by simp; omega
      clear h0
      go_enter Tryd.func39, Tryd.ntmps39
      go_wp2_with fail
      go_ret
      exact ⟨bool_ret HF.out.symm, rfl⟩

theorem idx_mem (c : UInt8) : ∀ l : List UInt8, Lib.indexByte l c < 0 ↔ c ∉ l
  | [] => by simp [Lib.indexByte]
  | b :: l => by
    have ih := idx_mem c l
    have hg := Lib.indexByte_ge l c
    unfold Lib.indexByte
    by_cases hb : b = c
    · subst hb; simp
    · rw [if_neg (by simpa using hb)]
      by_cases hm : Lib.indexByte l c = -1
      · rw [if_pos (by simpa using hm)]
        have : c ∉ l := ih.1 (by omega)
        simp [this, Ne.symm hb]
      · rw [if_neg (by simpa using hm)]
        have : c ∈ l := by
          apply Classical.byContradiction
          intro h
          have := ih.2 h
          omega
        simp [this]
        omega

set_option maxHeartbeats 400000 in
theorem rfilled_any (k : Int) (s : ByteArray) (w : World) (hs : s.size ≤ maxLen) :
    Calls Tryd.prog 35 #[.int .i64 k, .string s] w fun e w' => e = .returned (.bool (dataB k s.data.toList)) ∧ w = w' := by
  unfold maxLen at hs
  have hlen : s.data.toList.length = s.size := dlen s
  by_cases h3 : k = 3
  · subst h3
    have HL := Lib.hid hlen
    clear hlen
    go_enter Tryd.func35, Tryd.ntmps35
    go_wp2_with fail
    go_loop [5] (fun i => ∃ j : Nat, j ≤ s.size ∧ i = .int .i64 j ∧ Hid ((0 : UInt8) ∉ s.data.toList.take j)) (fun i => s.size - (intOf i).toNat)
    case atStart => exact ⟨0, by omega, rfl, by show _ ∉ _; simp⟩
    case round =>
      obtain ⟨j, hj, rfl, hz⟩ := hrel
      by_cases hlt : j < s.size
      · have hlt' : j < s.data.toList.length := by simpa using hlt
        by_cases h0 : s[j] = 0
        · have hb : ((s[j].toNat : Int) == 0) = true := by rw [h0]; rfl
          have HF : Hid (dataB 3 s.data.toList = false) := by
            show _ = _
            have hm : (0 : UInt8) ∈ s.data.toList := by rw [← h0]; exact List.getElem_mem hlt'
            have hn : ¬ Lib.indexByte s.data.toList 0 < 0 := fun h => (idx_mem 0 _).1 h hm
            unfold dataB
            rw [if_pos rfl, decide_eq_false hn, Bool.and_false]
          clear h0 hz
          go_wp2_with fail
          go_ret
          exact ⟨bool_ret HF.out.symm, rfl⟩
        · have hb : ((s[j].toNat : Int) == 0) = false := by
            rw [beq_eq_false_iff_ne]; intro e; exact h0 (UInt8.toNat_inj.1 (show s[j].toNat = 0 by omega))
          have HZ : Hid ((0 : UInt8) ∉ s.data.toList.take (j + 1)) := by
            show _ ∉ _
            rw [List.take_succ_eq_append_getElem hlt', List.mem_append, List.mem_singleton]
            rintro (h | h)
            · exact hz.out h
            · exact h0 h.symm
          clear h0 hz
          go_wp2_with fail
          go_round
          case rel => exact ⟨j + 1, by omega, by go_num, HZ⟩
          case measure => simp [intOf]; omega
      · have HF : Hid (dataB 3 s.data.toList = (decide (1 ≤ (s.size : Int)) && decide ((s.size : Int) ≤ 100))) := by
          show _ = _
          have hm : (0 : UInt8) ∉ s.data.toList := by
            have := hz.out
            rwa [List.take_of_length_le (by rw [HL.out]; omega)] at this
          unfold dataB
          rw [if_pos rfl, decide_eq_true ((idx_mem 0 _).2 hm), Bool.and_true, HL.out]
          have : s.data.toList.isEmpty = decide (s.size = 0) := by
            rw [← HL.out]
            cases s.data.toList <;> simp
          rw [this]
          congr 1
          · rcases Nat.eq_zero_or_pos s.size with h | h
            · rw [h]; rfl
            · rw [decide_eq_false (by omega), decide_eq_true (by omega)]; rfl
          · exact decide_eq_decide.2 (by omega)
        clear hz
        by_cases h1 : 1 ≤ s.size
        · have hd : decide ((1 : Int) ≤ (s.size : Int)) = true := by simp; omega
          go_wp2_with fail
          go_ret
          rw [HF.out]
          exact ⟨bool_ret (by simp; omega), rfl⟩
        · have hd : decide ((1 : Int) ≤ (s.size : Int)) = false := by simp; omega
          go_wp2_with fail
          go_ret
          rw [HF.out]
          exact ⟨bool_ret (by rw [hd]; rfl), rfl⟩
  · have n3 : (k == 3) = false := beq_eq_false_iff_ne.2 h3
    by_cases h4 : k = 4
    · subst h4
      have HF : Hid (dataB 4 s.data.toList = s.toList.isEmpty) := by show _ = _; rw [ByteArray.toList_eq]; rfl
      clear h3 hlen
      go_enter Tryd.func35, Tryd.ntmps35
      go_wp2_with fail
      go_ret
      exact ⟨bool_ret HF.out.symm, rfl⟩
    · have n4 : (k == 4) = false := beq_eq_false_iff_ne.2 h4
      by_cases h2 : k = 2
      · subst h2
        have HF : Hid (dataB 2 s.data.toList = decide ((s.size : Int) ≤ 100)) := by show _ = _; unfold dataB; rw [hlen]; simp; omega
        clear h3 h4 hlen
        go_enter Tryd.func35, Tryd.ntmps35
        go_wp2_with fail
        go_ret
        exact ⟨bool_ret HF.out.symm, rfl⟩
      · have n2 : (k == 2) = false := beq_eq_false_iff_ne.2 h2
        by_cases h1 : k = 1
        · subst h1
          have HF : Hid (dataB 1 s.data.toList = decide ((s.size : Int) ≤ 100)) := by show _ = _; unfold dataB; rw [hlen]; simp; omega
          clear h3 h4 h2 hlen
          go_enter Tryd.func35, Tryd.ntmps35
          go_wp2_with fail
          go_ret
          exact ⟨bool_ret HF.out.symm, rfl⟩
        · have n1 : (k == 1) = false := beq_eq_false_iff_ne.2 h1
          have HF : Hid (dataB k s.data.toList = false) := by show _ = _; unfold dataB; simp [h1, h2, h3, h4]
          clear h1 h2 h3 h4 hlen
          go_enter Tryd.func35, Tryd.ntmps35
          go_wp2_with fail
          go_ret
          exact ⟨bool_ret HF.out.symm, rfl⟩
end Go.Proofs.YtohbjbicmgnblaaDoor
