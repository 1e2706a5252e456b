/- Small functions of the library over strings. -/
import Derived.Test.YtohbjbicmgnblaaDoorChecked
import Derived.Test.YtohbjbicmgnblaaDoorPut
import Derived.Lib.Bytealg
namespace Go.Proofs.YtohbjbicmgnblaaDoor
open Go Go.RowKit
set_option linter.unusedVariables false

theorem ext_list (s : ByteArray) (a b : Nat) : (s.extract a b).data.toList = (s.data.toList.drop a).take (b - a) := by
  rw [ByteArray.data_extract, Array.toList_extract]
theorem dlen (s : ByteArray) : s.data.toList.length = s.size := by rw [Array.length_toList]; rfl
theorem bool_ret {a b : Bool} (h : a = b) : Ending.returned (.bool a) = .returned (.bool b) := by rw [h]
theorem int_ret {k : IntKind} {a b : Int} (h : a = b) : Ending.returned (.int k a) = .returned (.int k b) := by rw [h]
theorem str_ret {a b : ByteArray} (h : a = b) : Ending.returned (.string a) = .returned (.string b) := by rw [h]

/-- does a text begin with another -/
def preB (s p : List UInt8) : Bool := s.take p.length == p

set_option maxHeartbeats 400000 in
theorem sHasPrefix_any (s p : ByteArray) (w : World) :
    Calls Tryd.prog 62 #[.string s, .string p] w fun e w' => e = .returned (.bool (preB s.data.toList p.data.toList)) ∧ w = w' := by
  by_cases h : p.size ≤ s.size
  · go_enter Tryd.func62, Tryd.ntmps62
    go_wp2
    go_ret
    refine ⟨bool_ret ?_, rfl⟩
    rw [ByteArray.toList_eq, ByteArray.toList_eq, ext_list, preB, dlen]
    rfl
  · have hd : decide ((p.size : Int) ≤ (s.size : Int)) = false := by simp; omega
    go_enter Tryd.func62, Tryd.ntmps62
    go_wp2
    go_ret
    refine ⟨bool_ret ?_, rfl⟩
    symm
    rw [preB, beq_eq_false_iff_ne]
    intro e
    have := congrArg List.length e
    rw [List.length_take, dlen, dlen] at this
    omega

theorem hasPrefix_any (s p : ByteArray) (w : World) :
    Calls Tryd.prog 54 #[.string s, .string p] w fun e w' => e = .returned (.bool (preB s.data.toList p.data.toList)) ∧ w = w' := by
  go_enter Tryd.func54, Tryd.ntmps54
  go_wp2_with (go_at_call 62; refine (sHasPrefix_any _ _ _).mono ?_; rintro e w' ⟨rfl, rfl⟩)
  go_ret
  exact ⟨rfl, rfl⟩

/-- the place of the last such byte below k; -1 -/
def lastAt (l : List UInt8) (c : UInt8) : Nat → Int
  | 0 => -1
  | k + 1 => if l[k]? = some c then k else lastAt l c k
def lastIdx (l : List UInt8) (c : UInt8) : Int := lastAt l c l.length

set_option maxHeartbeats 400000 in
theorem lastIndexS_any (s : ByteArray) (c : UInt8) (w : World) (hs : s.size ≤ maxLen) :
    Calls Tryd.prog 55 #[.string s, .int .u8 c.toNat] w fun e w' => e = .returned (.int .i64 (lastIdx s.data.toList c)) ∧ w = w' := by
  unfold maxLen at hs
  go_enter Tryd.func55, Tryd.ntmps55
  go_wp2
  go_loop [5] (fun i => ∃ k : Nat, k ≤ s.size ∧ i = .int .i64 ((k : Int) - 1) ∧ Hid (lastIdx s.data.toList c = lastAt s.data.toList c k)) (fun i => (intOf i + 1).toNat)
  case atStart => exact ⟨s.size, Nat.le_refl _, rfl, rfl⟩
  case round =>
    obtain ⟨k, hk, rfl, hl⟩ := hrel
    by_cases h0 : k = 0
    · subst h0
      go_wp2
      go_ret
      exact ⟨by rw [hl.out]; rfl, rfl⟩
    · obtain ⟨j, rfl⟩ : ∃ j, k = j + 1 := ⟨k - 1, by omega⟩
      clear h0
      have e1 : ((j + 1 : Nat) : Int) - 1 = (j : Int) := by omega
      rw [e1]
      have hlt : j < s.size := by omega
      by_cases hc : s[j] = c
      · have hb : ((s[j].toNat : Int) == (c.toNat : Int)) = true := by rw [hc]; simp
        have HL := Lib.hid (show s.data.toList[j]? = some c by rw [← hc]; exact List.getElem?_eq_getElem (by simpa using hlt))
        clear hc
        go_wp2
        go_ret
        exact ⟨int_ret (by rw [hl.out, lastAt, if_pos HL.out]), rfl⟩
      · have hb : ((s[j].toNat : Int) == (c.toNat : Int)) = false := by
          rw [beq_eq_false_iff_ne]; intro e; exact hc (UInt8.toNat_inj.1 (by omega))
        have HL := Lib.hid (show ¬ s.data.toList[j]? = some c by rw [List.getElem?_eq_getElem (by simpa using hlt)]; intro e; exact hc (Option.some.inj e))
        clear hc
        go_wp2
        go_round
        case rel => exact ⟨j, by omega, by go_num, (show lastIdx s.data.toList c = lastAt s.data.toList c j by rw [hl.out, lastAt, if_neg HL.out])⟩
        case measure => simp [intOf]

theorem lastIndex_any (s : ByteArray) (c : UInt8) (w : World) (hs : s.size ≤ maxLen) :
    Calls Tryd.prog 33 #[.string s, .int .u8 c.toNat] w fun e w' => e = .returned (.int .i64 (lastIdx s.data.toList c)) ∧ w = w' := by
  go_enter Tryd.func33, Tryd.ntmps33
  go_wp2_with (go_at_call 55; refine (lastIndexS_any _ _ _ hs).mono ?_; rintro e w' ⟨rfl, rfl⟩)
  go_ret
  exact ⟨rfl, rfl⟩

set_option maxRecDepth 100000 in
theorem sIndexByte_any (s : ByteArray) (c : UInt8) (w : World) :
    Calls Tryd.prog 59 #[.string s, .int .u8 c.toNat] w fun e w' => e = .returned (.int .i64 (Lib.indexByte s.data.toList c)) ∧ w = w' := by
  go_enter Tryd.func59, Tryd.ntmps59
  go_wp2_with fail
  rw [run_callFunc_extern Tryd.func64 (by kernel_rfl) (by kernel_rfl) (by kernel_rfl) (e := Extern.BytealgIndexByte.indexByte) (by kernel_rfl)]
  rw [Lib.run_indexByteString]
  simp only [Result.andThen]
  rw [Oper.upon_value]
  go_wp2
  go_ret
  exact ⟨int_ret (by simp), rfl⟩
theorem indexByte_any (s : ByteArray) (c : UInt8) (w : World) :
    Calls Tryd.prog 50 #[.string s, .int .u8 c.toNat] w fun e w' => e = .returned (.int .i64 (Lib.indexByte s.data.toList c)) ∧ w = w' := by
  go_enter Tryd.func50, Tryd.ntmps50
  go_wp2_with (go_at_call 59; refine (sIndexByte_any _ _ _).mono ?_; rintro e w' ⟨rfl, rfl⟩)
  go_ret
  exact ⟨rfl, rfl⟩

/-- does a path stand within a directory -/
def underB (p d : List UInt8) : Bool := p != d && (d.isEmpty || preB p (d ++ [47]))
set_option maxHeartbeats 400000 in
theorem under_any (p d : ByteArray) (w : World) (hd : d.size < 9223372036854775807) :
    Calls Tryd.prog 32 #[.string p, .string d] w fun e w' => e = .returned (.bool (underB p.data.toList d.data.toList)) ∧ w = w' := by
  by_cases h1 : p.data.toList = d.data.toList
  · have hb : (!p.toList == d.toList) = false := by rw [ByteArray.toList_eq, ByteArray.toList_eq, h1]; simp
    have HF : Hid (underB p.data.toList d.data.toList = false) := by show _ = _; simp [underB, h1]
    clear h1
    go_enter Tryd.func32, Tryd.ntmps32
    go_wp2_with fail
    go_ret
    exact ⟨bool_ret HF.out.symm, rfl⟩
  · have hb : (!p.toList == d.toList) = true := by rw [ByteArray.toList_eq, ByteArray.toList_eq]; simpa using h1
    by_cases h2 : d.data.toList = []
    · have hb2 : d.toList.isEmpty = true := by rw [ByteArray.toList_eq, h2]; rfl
      have HF : Hid (underB p.data.toList d.data.toList = true) := by
        show _ = _
        unfold underB
        rw [show (p.data.toList != d.data.toList) = true from bne_iff_ne.2 h1, List.isEmpty_iff.2 h2]
        rfl
      clear h1 h2
      go_enter Tryd.func32, Tryd.ntmps32
      go_wp2_with fail
      go_ret
      exact ⟨bool_ret HF.out.symm, rfl⟩
    · have hb2 : d.toList.isEmpty = false := by rw [ByteArray.toList_eq]; simpa using h2
      have HF : Hid (underB p.data.toList d.data.toList = preB p.data.toList (d.data.toList ++ [47])) := by
        show _ = _
        unfold underB
        rw [show (p.data.toList != d.data.toList) = true from bne_iff_ne.2 h1, List.isEmpty_eq_false_iff.2 h2]
        rfl
      clear h1 h2
      go_enter Tryd.func32, Tryd.ntmps32
      go_wp2_with fail
      refine (hasPrefix_any _ _ _).mono ?_
      rintro e w' ⟨rfl, rfl⟩
      go_wp2_with fail
      go_ret
      exact ⟨bool_ret HF.out.symm, rfl⟩
end Go.Proofs.YtohbjbicmgnblaaDoor
