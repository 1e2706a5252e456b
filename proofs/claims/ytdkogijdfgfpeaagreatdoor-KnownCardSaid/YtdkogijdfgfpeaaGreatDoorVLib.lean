/- Small functions of the library over strings. -/
import Derived.Test.YtdkogijdfgfpeaaGreatDoorVBuild
import Derived.Lib.Bytealg
import Derived.Shelf.Unicode.ValidAny
import Derived.Ground.NamesProg
import Derived.KernelRfl
import Derived.Test.YtdkogijdfgfpeaaGreatDoorVMem
import Derived.Lib.ValidLaws
import Derived.Lib.OthersKept
set_option linter.unusedVariables false
namespace Go.Proofs.YtdkogijdfgfpeaaGreatDoor
open Go Go.RowKit
theorem ext_list (s : ByteArray) (a b : Nat) : (s.extract a b).data.toList = (s.data.toList.drop a).take (b - a) := by
 rw [ByteArray.data_extract, Array.toList_extract]
theorem dlen (s : ByteArray) : s.data.toList.length = s.size := by rw [Array.length_toList]; rfl
theorem bool_ret {a b : Bool} (h : a = b) : Ending.returned (.bool a) = .returned (.bool b) := by rw [h]
theorem int_ret {k : IntKind} {a b : Int} (h : a = b) : Ending.returned (.int k a) = .returned (.int k b) := by rw [h]
def preB (s p : List UInt8) : Bool := s.take p.length == p
set_option maxHeartbeats 400000 in
theorem sHasPrefix_any (s p : ByteArray) (w : World) :
 Calls Tryz.prog 148 #[.string s, .string p] w fun e w' => e = .returned (.bool (preB s.data.toList p.data.toList)) ∧ w = w' := by
 by_cases h : p.size ≤ s.size
 ·go_enter Tryz.func148, Tryz.ntmps148
  go_wp2
  go_ret
  refine ⟨bool_ret ?_, rfl⟩
  rw [ByteArray.toList_eq, ByteArray.toList_eq, ext_list, preB, dlen]
  rfl
 ·have hd : decide ((p.size : Int) ≤ (s.size : Int)) = false := by simp; omega
  go_enter Tryz.func148, Tryz.ntmps148
  go_wp2
  go_ret
  refine ⟨bool_ret ?_, rfl⟩
  symm
  rw [preB, beq_eq_false_iff_ne]
  intro e
  have := congrArg List.length e
  rw [List.length_take, dlen, dlen] at this
  omega
theorem hasPrefix_any (s p : ByteArray) (w : World) :
 Calls Tryz.prog 122 #[.string s, .string p] w fun e w' => e = .returned (.bool (preB s.data.toList p.data.toList)) ∧ w = w' := by
 go_enter Tryz.func122, Tryz.ntmps122
 go_wp2_with (go_at_call 148; refine (sHasPrefix_any _ _ _).mono ?_; rintro e w' ⟨rfl, rfl⟩)
 go_ret
 exact ⟨rfl, rfl⟩
def lastAt (l : List UInt8) (c : UInt8) : Nat → Int
 | 0 => -1
 | k + 1 => if l[k]? = some c then k else lastAt l c k
def lastIdx (l : List UInt8) (c : UInt8) : Int := lastAt l c l.length
set_option maxHeartbeats 400000 in
theorem lastIndexS_any (s : ByteArray) (c : UInt8) (w : World) (hs : s.size ≤ maxLen) :
 Calls Tryz.prog 123 #[.string s, .int .u8 c.toNat] w fun e w' => e = .returned (.int .i64 (lastIdx s.data.toList c)) ∧ w = w' := by
 unfold maxLen at hs
 go_enter Tryz.func123, Tryz.ntmps123
 go_wp2
 go_loop [5] (fun i => ∃ k : Nat, k ≤ s.size ∧ i = .int .i64 ((k : Int) - 1) ∧ Hid (lastIdx s.data.toList c = lastAt s.data.toList c k)) (fun i => (intOf i + 1).toNat)
 case atStart => exact ⟨s.size, Nat.le_refl _, rfl, rfl⟩
 case round =>
  obtain ⟨k, hk, rfl, hl⟩ := hrel
  by_cases h0 : k = 0
  ·subst h0
   go_wp2
   go_ret
   exact ⟨by rw [hl.out]; rfl, rfl⟩
  ·obtain ⟨j, rfl⟩ : ∃ j, k = j + 1 := ⟨k - 1, by omega⟩
   clear h0
   have e1 : ((j + 1 : Nat) : Int) - 1 = (j : Int) := by omega
   rw [e1]
   have hlt : j < s.size := by omega
   by_cases hc : s[j] = c
   ·have hb : ((s[j].toNat : Int) == (c.toNat : Int)) = true := by rw [hc]; simp
    have HL := Lib.hid (show s.data.toList[j]? = some c by rw [← hc]; exact List.getElem?_eq_getElem (by simpa using hlt))
    clear hc
    go_wp2
    go_ret
    exact ⟨int_ret (by rw [hl.out, lastAt, if_pos HL.out]), rfl⟩
   ·have hb : ((s[j].toNat : Int) == (c.toNat : Int)) = false := by
     rw [beq_eq_false_iff_ne]; intro e; exact hc (UInt8.toNat_inj.1 (by omega))
    have HL := Lib.hid (show ¬ s.data.toList[j]? = some c by rw [List.getElem?_eq_getElem (by simpa using hlt)]; intro e; exact hc (Option.some.inj e))
    clear hc
    go_wp2
    go_round
    case rel => exact ⟨j, by omega, by go_num, (show lastIdx s.data.toList c = lastAt s.data.toList c j by rw [hl.out, lastAt, if_neg HL.out])⟩
    case measure => simp [intOf]
theorem lastIndex_any (s : ByteArray) (c : UInt8) (w : World) (hs : s.size ≤ maxLen) :
 Calls Tryz.prog 94 #[.string s, .int .u8 c.toNat] w fun e w' => e = .returned (.int .i64 (lastIdx s.data.toList c)) ∧ w = w' := by
 go_enter Tryz.func94, Tryz.ntmps94
 go_wp2_with (go_at_call 123; refine (lastIndexS_any _ _ _ hs).mono ?_; rintro e w' ⟨rfl, rfl⟩)
 go_ret
 exact ⟨rfl, rfl⟩
set_option maxRecDepth 100000 in
theorem sIndexByte_any (s : ByteArray) (c : UInt8) (w : World) :
 Calls Tryz.prog 146 #[.string s, .int .u8 c.toNat] w fun e w' => e = .returned (.int .i64 (Lib.indexByte s.data.toList c)) ∧ w = w' := by
 go_enter Tryz.func146, Tryz.ntmps146
 go_wp2_with fail
 rw [run_callFunc_extern Tryz.func164 (by kernel_rfl) (by kernel_rfl) (by kernel_rfl) (e := Extern.BytealgIndexByte.indexByte) (by kernel_rfl)]
 rw [Lib.run_indexByteString]
 simp only [Result.andThen]
 rw [Oper.upon_value]
 go_wp2
 go_ret
 exact ⟨int_ret (by simp), rfl⟩
theorem indexByte_any (s : ByteArray) (c : UInt8) (w : World) :
 Calls Tryz.prog 120 #[.string s, .int .u8 c.toNat] w fun e w' => e = .returned (.int .i64 (Lib.indexByte s.data.toList c)) ∧ w = w' := by
 go_enter Tryz.func120, Tryz.ntmps120
 go_wp2_with (go_at_call 146; refine (sIndexByte_any _ _ _).mono ?_; rintro e w' ⟨rfl, rfl⟩)
 go_ret
 exact ⟨rfl, rfl⟩
def underB (p d : List UInt8) : Bool := p != d && (d.isEmpty || preB p (d ++ [47]))
set_option maxHeartbeats 400000 in
theorem under_any (p d : ByteArray) (w : World) (hd : d.size < 9223372036854775807) :
 Calls Tryz.prog 93 #[.string p, .string d] w fun e w' => e = .returned (.bool (underB p.data.toList d.data.toList)) ∧ w = w' := by
 by_cases h1 : p.data.toList = d.data.toList
 ·have hb : (!p.toList == d.toList) = false := by rw [ByteArray.toList_eq, ByteArray.toList_eq, h1]; simp
  have HF : Hid (underB p.data.toList d.data.toList = false) := by show _ = _; simp [underB, h1]
  clear h1
  go_enter Tryz.func93, Tryz.ntmps93
  go_wp2_with fail
  go_ret
  exact ⟨bool_ret HF.out.symm, rfl⟩
 ·have hb : (!p.toList == d.toList) = true := by rw [ByteArray.toList_eq, ByteArray.toList_eq]; simpa using h1
  by_cases h2 : d.data.toList = []
  ·have hb2 : d.toList.isEmpty = true := by rw [ByteArray.toList_eq, h2]; rfl
   have HF : Hid (underB p.data.toList d.data.toList = true) := by
    show _ = _
    unfold underB
    rw [show (p.data.toList != d.data.toList) = true from bne_iff_ne.2 h1, List.isEmpty_iff.2 h2]
    rfl
   clear h1 h2
   go_enter Tryz.func93, Tryz.ntmps93
   go_wp2_with fail
   go_ret
   exact ⟨bool_ret HF.out.symm, rfl⟩
  ·have hb2 : d.toList.isEmpty = false := by rw [ByteArray.toList_eq]; simpa using h2
   have HF : Hid (underB p.data.toList d.data.toList = preB p.data.toList (d.data.toList ++ [47])) := by
    show _ = _
    unfold underB
    rw [show (p.data.toList != d.data.toList) = true from bne_iff_ne.2 h1, List.isEmpty_eq_false_iff.2 h2]
    rfl
   clear h1 h2
   go_enter Tryz.func93, Tryz.ntmps93
   go_wp2_with fail
   refine (hasPrefix_any _ _ _).mono ?_
   rintro e w' ⟨rfl, rfl⟩
   go_wp2_with fail
   go_ret
   exact ⟨bool_ret HF.out.symm, rfl⟩
end Go.Proofs.YtdkogijdfgfpeaaGreatDoor
namespace Go.Proofs
open Go.Shelf
def Tryz.laysValid_ren : Go.Shelf.Ren := ⟨fun | 196 => 147 | 259 => 165 | n => n, fun | 9 => 9 | 4 => 4 | 3 => 3 | 5 => 5 | 12 => 12 | 119 => 209 | 0 => 0 | 46 => 180 | 139 => 212 | 138 => 211 | 53 => 149 | n => n, fun | 3 => 1 | 4 => 2 | n => n⟩
theorem Tryz.laysValid : Go.Proofs.Lays.n196 Tryz.prog Tryz.laysValid_ren := {
 mixed := by kernel_rfl
 f196 := Tryz.func147.trans (congrArg some (by kernel_rfl))
 f259 := Tryz.func165.trans (congrArg some (by kernel_rfl))
 t0 := Tryz.underlying0
 a0 := Tryz.isAgg0
 z0 := Tryz.sizeOf0
 v0 := Tryz.zeroValue0
 t3 := Tryz.underlying3
 a3 := Tryz.isAgg3
 z3 := Tryz.sizeOf3
 v3 := Tryz.zeroValue3
 t4 := Tryz.underlying4
 a4 := Tryz.isAgg4
 z4 := Tryz.sizeOf4
 v4 := Tryz.zeroValue4
 t5 := Tryz.underlying5
 a5 := Tryz.isAgg5
 z5 := Tryz.sizeOf5
 v5 := Tryz.zeroValue5
 t9 := Tryz.underlying9
 a9 := Tryz.isAgg9
 z9 := Tryz.sizeOf9
 v9 := Tryz.zeroValue9
 t12 := Tryz.underlying12
 a12 := Tryz.isAgg12
 z12 := Tryz.sizeOf12
 v12 := Tryz.zeroValue12
 t46 := Tryz.underlying180
 a46 := Tryz.isAgg180
 z46 := Tryz.sizeOf180
 v46 := Tryz.zeroValue180
 t53 := Tryz.underlying149
 a53 := Tryz.isAgg149
 z53 := Tryz.sizeOf149
 v53 := Tryz.zeroValue149
 t119 := Tryz.underlying209
 a119 := Tryz.isAgg209
 z119 := Tryz.sizeOf209
 t138 := Tryz.underlying211
 a138 := Tryz.isAgg211
 z138 := Tryz.sizeOf211
 v138 := Tryz.zeroValue211
 t139 := Tryz.underlying212
 a139 := Tryz.isAgg212
 z139 := Tryz.sizeOf212
 v139 := Tryz.zeroValue212
 g3 := by kernel_rfl
 g4 := by kernel_rfl }
end Go.Proofs
namespace Go.Proofs.YtdkogijdfgfpeaaGreatDoor
open Go Go.RowKit
def Tabs (w : World) : Prop := Lib.Utf8Tabs 1 2 w
def tabTop : Nat := max 1 2 + 1
theorem Tabs.below {B : Nat} {w w' : World} (h : Tabs w) (k : Below B w w') (hB : tabTop ≤ B) : Tabs w' := by
 unfold tabTop at hB
 refine ⟨fun c hc => ?_, fun i hi => ?_⟩
 ·rw [k.cell (by simp; omega)]; exact h.1 c hc
 ·rw [k.cell (by simp; omega), k.cell (by simp; omega)]; exact h.2 i hi
theorem Tabs.top {w : World} (h : Tabs w) : tabTop ≤ w.heap.size := by
 have h1 := World.block_lt_of_cell? _ _ (h.1 0 (by decide))
 have h2 := World.block_lt_of_cell? _ _ (h.2 0 (by decide)).1
 unfold tabTop
 simp at h1 h2
 omega
theorem Tabs.keeps {w w' : World} (h : Tabs w) (k : Keeps Non w w') : Tabs w' := h.below (k.below (Nat.le_refl _) (fun _ _ h => h)) h.top
theorem Tabs.kp {w w' : World} (h : Tabs w) {B : Nat} {Ts : List TypeId} (k : Kp B Ts w w') (hB : tabTop ≤ B) : Tabs w' := by
 refine h.below (B := tabTop) ?_ (Nat.le_refl _)
 exact ⟨k.os, k.tape, k.output, k.size, fun i hi => by
  rcases k.block i (Nat.lt_of_lt_of_le hi h.top) with e | ⟨hb, _⟩
  ·exact e
  ·omega⟩
theorem validString_any (s : ByteArray) (w : World) (hs : s.size ≤ 9223372036854775807) (hT : Tabs w) :
 Calls Tryz.prog 147 #[.string s] w fun e w' => e = .returned (.bool (Lib.validD s.data.toList)) ∧ Keeps Non w w' :=
 (Any.utf8_ValidString Tryz.laysValid s w hs hT).mono fun e w' ⟨he, hb⟩ => ⟨he, Keeps.of_below hb (fun k hk _ => hk)⟩
end Go.Proofs.YtdkogijdfgfpeaaGreatDoor
namespace Go.Proofs.YtdkogijdfgfpeaaGreatDoor
open Go Go.RowKit
def dataB (k : Int) (s : List UInt8) : Bool :=
 if k = 3 then !s.isEmpty && decide (s.length ≤ 100) && decide (Lib.indexByte s 0 < 0)
 else if k = 4 then s.isEmpty
 else if k = 1 ∨ k = 2 then decide (s.length ≤ 100)
 else false
set_option maxHeartbeats 400000 in
theorem data_any (k : Int) (s : ByteArray) (w : World) (hs : s.size ≤ maxLen) :
 Calls Tryz.prog 90 #[.int .i64 k, .string s] w fun e w' => e = .returned (.bool (dataB k s.data.toList)) ∧ w = w' := by
 unfold maxLen at hs
 have hlen : s.data.toList.length = s.size := dlen s
 by_cases h3 : k = 3
 ·subst h3
  by_cases he : s.data.toList = []
  ·have hb : (!s.toList.isEmpty) = false := by rw [ByteArray.toList_eq, he]; rfl
   have hb' : s.toList = [] := by rw [ByteArray.toList_eq, he]
   have HF : Hid (dataB 3 s.data.toList = false) := by show _ = _; rw [he]; rfl
   clear he hlen
   go_enter Tryz.func90, Tryz.ntmps90
   go_wp2_with fail
   go_ret
   exact ⟨bool_ret HF.out.symm, rfl⟩
  ·have hb : (!s.toList.isEmpty) = true := by rw [ByteArray.toList_eq, List.isEmpty_eq_false_iff.2 he]; rfl
   have hb' : ¬ s.toList = [] := by rw [ByteArray.toList_eq]; exact he
   by_cases hl : s.size ≤ 100
   ·have HF : Hid (dataB 3 s.data.toList = decide (Lib.indexByte s.data.toList 0 < 0)) := by
     show _ = _
     unfold dataB
     rw [if_pos rfl, List.isEmpty_eq_false_iff.2 he, hlen, decide_eq_true hl]; rfl
    clear he hlen
    go_enter Tryz.func90, Tryz.ntmps90
    go_wp2_with fail
    refine (indexByte_any s 0 _).mono ?_
    rintro e w' ⟨rfl, rfl⟩
    generalize Lib.indexByte s.data.toList 0 = j at *
    go_wp2_with fail
    go_ret
    exact ⟨bool_ret HF.out.symm, rfl⟩
   ·have hd : decide ((s.size : Int) ≤ 100) = false := by simp; omega
    have HF : Hid (dataB 3 s.data.toList = false) := by
     show _ = _
     unfold dataB
     rw [if_pos rfl, hlen, decide_eq_false hl]; simp
    clear he hlen
    go_enter Tryz.func90, Tryz.ntmps90
    go_wp2_with fail
    go_ret
    exact ⟨bool_ret HF.out.symm, rfl⟩
 ·have n3 : (k == 3) = false := beq_eq_false_iff_ne.2 h3
  by_cases h4 : k = 4
  ·subst h4
   have HF : Hid (dataB 4 s.data.toList = s.toList.isEmpty) := by show _ = _; rw [ByteArray.toList_eq]; rfl
   clear h3 hlen
   go_enter Tryz.func90, Tryz.ntmps90
   go_wp2_with fail
   go_ret
   exact ⟨bool_ret HF.out.symm, rfl⟩
  ·have n4 : (k == 4) = false := beq_eq_false_iff_ne.2 h4
   by_cases h2 : k = 2
   ·subst h2
    have HF : Hid (dataB 2 s.data.toList = decide ((s.size : Int) ≤ 100)) := by show _ = _; unfold dataB; rw [hlen]; simp; omega
    clear h3 h4 hlen
    go_enter Tryz.func90, Tryz.ntmps90
    go_wp2_with fail
    go_ret
    exact ⟨bool_ret HF.out.symm, rfl⟩
   ·have n2 : (k == 2) = false := beq_eq_false_iff_ne.2 h2
    by_cases h1 : k = 1
    ·subst h1
     have HF : Hid (dataB 1 s.data.toList = decide ((s.size : Int) ≤ 100)) := by show _ = _; unfold dataB; rw [hlen]; simp; omega
     clear h3 h4 h2 hlen
     go_enter Tryz.func90, Tryz.ntmps90
     go_wp2_with fail
     go_ret
     exact ⟨bool_ret HF.out.symm, rfl⟩
    ·have n1 : (k == 1) = false := beq_eq_false_iff_ne.2 h1
     have HF : Hid (dataB k s.data.toList = false) := by show _ = _; unfold dataB; simp [h1, h2, h3, h4]
     clear h1 h2 h3 h4 hlen
     go_enter Tryz.func90, Tryz.ntmps90
     go_wp2_with fail
     go_ret
     exact ⟨bool_ret HF.out.symm, rfl⟩
def badR (r : Nat) : Bool := decide (r < 32) || r == 47 || r == 127
def scanN : Nat → List UInt8 → Nat → Option Nat
 | 0, _, n => some n
 | f + 1, l, n => if l = [] then some n else if badR (Lib.decodeL l).1 then none else scanN f (l.drop (Lib.decodeL l).2) (n + 1)
theorem scanN_nil : ∀ f n, scanN f [] n = some n
 | 0, _ => rfl
 | _ + 1, _ => by simp [scanN]
theorem scanN_fuel : ∀ (f g : Nat) (l : List UInt8) (n : Nat), l.length ≤ f → l.length ≤ g → scanN f l n = scanN g l n
 | 0, g, l, n, hf, _ => by
   obtain rfl : l = [] := List.eq_nil_of_length_eq_zero (by omega)
   rw [scanN_nil, scanN_nil]
 | f + 1, 0, l, n, _, hg => by
   obtain rfl : l = [] := List.eq_nil_of_length_eq_zero (by omega)
   rw [scanN_nil, scanN_nil]
 | f + 1, g + 1, l, n, hf, hg => by
   unfold scanN
   by_cases hne : l = []
   ·simp [hne]
   ·have hw := Lib.decodeL_width l
    have hl : 0 < l.length := List.length_pos_iff.2 hne
    rw [if_neg hne, if_neg hne, scanN_fuel f g _ _ (by rw [List.length_drop]; omega) (by rw [List.length_drop]; omega)]
def scanOf (l : List UInt8) (n : Nat) : Option Nat := scanN l.length l n
theorem scanOf_step (l : List UInt8) (n : Nat) (h : l ≠ []) : scanOf l n = if badR (Lib.decodeL l).1 then none else scanOf (l.drop (Lib.decodeL l).2) (n + 1) := by
 have hl : 0 < l.length := List.length_pos_iff.2 h
 have hw := Lib.decodeL_width l
 obtain ⟨k, hk⟩ : ∃ k, l.length = k + 1 := ⟨l.length - 1, by omega⟩
 unfold scanOf
 rw [hk]
 show (if l = [] then _ else _) = _
 rw [if_neg h, scanN_fuel k (l.drop (Lib.decodeL l).2).length _ _ (by rw [List.length_drop]; omega) (Nat.le_refl _)]
def nameB (l : List UInt8) : Bool :=
 match scanOf l 0 with
 | none => false
 | some n => decide (0 < n) && decide (n ≤ 12) && Lib.validD l && l != [46] && l != [46, 46]
set_option maxHeartbeats 400000 in
set_option maxRecDepth 100000 in
theorem name_any (s : ByteArray) (w : World) (hs : s.size ≤ maxLen) (hT : Tabs w) :
 Calls Tryz.prog 121 #[.string s] w fun e w' => e = .returned (.bool (nameB s.data.toList)) ∧ Keeps Non w w' := by
 unfold maxLen at hs
 have HT := Lib.hid hT
 clear hT
 go_enter Tryz.func121, Tryz.ntmps121
 go_wp2
 go_loopw [3] (fun c wr => ∃ pos n : Nat, wr = w.iter s pos ∧ c = .int .i64 n ∧ n ≤ pos ∧ n ≤ s.size ∧ Hid (scanOf s.data.toList 0 = scanOf (s.data.toList.drop pos) n)) (fun _ wr => s.size - wr.iterPos w.heap.size)
 case atStart => exact ⟨0, 0, rfl, rfl, by omega, by omega, rfl⟩
 case round =>
  obtain ⟨pos, n, rfl, rfl, hn, hle, hsc⟩ := hrel
  by_cases hlt : pos < s.size
  ·have hnx := fun ty => run_next_any (P := Tryz.prog) w s pos ty hlt
   have hr := decode_le s pos
   have hdd := Lib.decodeL_drop s pos
   have hw := Lib.decodeL_width (s.data.toList.drop pos)
   have hstep := scanOf_step (s.data.toList.drop pos) n (by
    intro e
    have := congrArg List.length e
    rw [List.length_drop, dlen] at this
    simp at this
    omega)
   rw [hdd, List.drop_drop] at hstep
   rw [hdd] at hw
   have HSTEP := Lib.hid hstep
   clear hstep hdd
   generalize hd : Utf8.decode s pos = d at *
   obtain ⟨r, wd⟩ := d
   have HD := Lib.hid hd
   clear hd
   simp only at hnx hr HSTEP hw
   by_cases hb : badR r = true
   ·have HF : Hid (nameB s.data.toList = false) := by
     show _ = _
     unfold nameB
     rw [hsc.out, HSTEP.out, if_pos hb]
    have hI : Keeps Non w (w.iter s (pos + wd)) := (Keeps.refl _ _).alloc _
    have HI := Lib.hid hI
    clear hI
    by_cases c1 : r < 32
    ·have b1 : decide ((r : Int) < 32) = true := by simp; omega
     clear hb
     go_wp2
     go_ret
     exact ⟨bool_ret HF.out.symm, HI.out⟩
    ·have b1 : decide ((r : Int) < 32) = false := by simp; omega
     by_cases c2 : r = 47
     ·have b2 : ((r : Int) == 47) = true := by rw [beq_iff_eq]; omega
      clear hb c1 c2
      go_wp2
      go_ret
      exact ⟨bool_ret HF.out.symm, HI.out⟩
     ·have b2 : ((r : Int) == 47) = false := by rw [beq_eq_false_iff_ne]; omega
      have b3 : ((r : Int) == 127) = true := by simp [badR] at hb; rw [beq_iff_eq]; omega
      clear hb c1 c2
      go_wp2
      go_ret
      exact ⟨bool_ret HF.out.symm, HI.out⟩
   ·have b1 : decide ((r : Int) < 32) = false := by simp [badR] at hb; simp; omega
    have b2 : ((r : Int) == 47) = false := by simp [badR] at hb; rw [beq_eq_false_iff_ne]; omega
    have b3 : ((r : Int) == 127) = false := by simp [badR] at hb; rw [beq_eq_false_iff_ne]; omega
    have HB := Lib.hid hb
    clear hb
    go_wp2
    go_roundw
    case rel => exact ⟨pos + wd, n + 1, rfl, by go_num, by omega, by omega, (show _ = _ from by rw [hsc.out, HSTEP.out, if_neg HB.out])⟩
    case measure => rw [World.iterPos_iter, World.iterPos_iter]; omega
  ·have hend := fun ty => run_next_end (P := Tryz.prog) w s pos ty hlt
   have hI : Keeps Non w (w.iter s pos) := (Keeps.refl _ _).alloc _
   have hT' := HT.out.keeps hI
   have hsc' : scanOf s.data.toList 0 = some n := by
    rw [hsc.out, List.drop_of_length_le (by rw [dlen]; omega)]; exact scanN_nil _ _
   have HSC := Lib.hid hsc'
   have HI := Lib.hid hI
   have HT' := Lib.hid hT'
   clear hI hT' hsc' hsc HT
   by_cases c1 : 0 < n
   ·by_cases c2 : n ≤ 12
    ·have HF : Hid (nameB s.data.toList = (Lib.validD s.data.toList && (s.data.toList != [46] && s.data.toList != [46, 46]))) := by
      show _ = _
      unfold nameB
      rw [HSC.out]
      simp [c1, c2, Bool.and_assoc]
     go_wp2_with fail
     refine (validString_any s _ (by omega) HT'.out).mono ?_
     rintro e w1 ⟨rfl, hk1⟩
     have HK1 := Lib.hid (HI.out.trans hk1 (fun _ h => h.elim))
     clear hk1 hend
     cases hv : Lib.validD s.data.toList with
     | false =>
       rw [hv] at HF
       clear hv
       go_wp2_with fail
       go_ret
       exact ⟨bool_ret HF.out.symm, HK1.out⟩
     | true =>
       rw [hv] at HF
       clear hv
       by_cases e1 : s.data.toList = [46]
       ·have b1 : (!s.toList == [46]) = false := by rw [ByteArray.toList_eq, e1]; rfl
        have HF3 : Hid (nameB s.data.toList = false) := by show _ = _; rw [HF.out, e1]; rfl
        clear e1 HF
        go_wp2_with fail
        go_ret
        exact ⟨bool_ret HF3.out.symm, HK1.out⟩
       ·have b1 : (!s.toList == [46]) = true := by rw [ByteArray.toList_eq]; simpa using e1
        have HF2 : Hid (nameB s.data.toList = (!s.toList == [46, 46])) := by
         show _ = _
         rw [HF.out, ByteArray.toList_eq, bne_iff_ne.2 e1]
         rfl
        clear e1 HF
        go_wp2_with fail
        go_ret
        exact ⟨bool_ret HF2.out.symm, HK1.out⟩
    ·have HF : Hid (nameB s.data.toList = false) := by
      show _ = _
      unfold nameB
      rw [HSC.out]
      simp [c2]
     have d2 : decide ((n : Int) ≤ 12) = false := by simp; omega
     go_wp2_with fail
     go_ret
     exact ⟨bool_ret HF.out.symm, HI.out⟩
   ·have HF : Hid (nameB s.data.toList = false) := by
     show _ = _
     unfold nameB
     rw [HSC.out]
     simp [c1]
    have d1 : decide ((0 : Int) < (n : Int)) = false := by simp; omega
    go_wp2_with fail
    go_ret
    exact ⟨bool_ret HF.out.symm, HI.out⟩
end Go.Proofs.YtdkogijdfgfpeaaGreatDoor
