/- (*tree.stack).come: a node of a path comes: does it stand where it may? -/
import Derived.Test.YtdkogijdfgfpeaaGreatDoorVLib
import Derived.Deep.LoopGhost
import Derived.Deep.RegionHeld3
import Derived.StillTailTactics
import Derived.Deep.DeepCutAuto
set_option linter.unusedVariables false
namespace Go.Proofs.YtdkogijdfgfpeaaGreatDoor
open Go Go.RowKit
abbrev Opens := List (List UInt8 × List UInt8)
def opCells (st : Opens) : List Value := st.flatMap fun o => [sv o.1, sv o.2]
theorem opCells_length (st : Opens) : (opCells st).length = st.length * 2 := by
 induction st with
 | nil => rfl
 | cons o st ih => simp only [opCells, List.flatMap_cons, List.length_append, List.length_cons, List.length_nil] at *; omega
theorem opCells_append (a b : Opens) : opCells (a ++ b) = opCells a ++ opCells b := by simp [opCells]
def StackAt (w : World) (B t : Nat) (st : Opens) : Prop := ∃ v, Blk w t #[v] 105 ∧ B ≤ t ∧ Sl w B 160 2 v st.length (opCells st)
def dirOf (p : List UInt8) : List UInt8 × List UInt8 := if 0 ≤ lastIdx p 47 then (p.take (lastIdx p 47).toNat, p.drop ((lastIdx p 47).toNat + 1)) else ([], p)
def popTo (dir : List UInt8) (st : Opens) : Opens := (st.reverse.dropWhile fun o => o.1 != dir).reverse
theorem popTo_snoc (dir : List UInt8) (st : Opens) (o : List UInt8 × List UInt8) : popTo dir (st ++ [o]) = if o.1 = dir then st ++ [o] else popTo dir st := by
 unfold popTo
 rw [List.reverse_append]
 show (List.dropWhile _ (o :: st.reverse)).reverse = _
 rw [List.dropWhile_cons]
 by_cases h : o.1 = dir
 ·simp [h]
 ·simp [h]
def leS (a b : List UInt8) : Bool := Op.bytesLess a b || a == b
def comeB (path : List UInt8) (st : Opens) : Bool × Opens :=
 let st' := popTo (dirOf path).1 st
 match st'.getLast? with
 | none => (false, st')
 | some o =>
   if !nameB (dirOf path).2 || path.head? == some 47 || leS (dirOf path).2 o.2 then (false, st')
   else (true, st'.dropLast ++ [(o.1, (dirOf path).2)])
theorem head_47 {p : ByteArray} (h : 0 < p.size) (e : p[0] = 47) : (p.data.toList.head? == some 47) = true := by
 have : p.data.toList.head? = some p[0] := by
  rw [List.head?_eq_getElem?]; exact List.getElem?_eq_getElem (by simpa using h)
 rw [this, e]; rfl
theorem head_not47 {p : ByteArray} (h : 0 < p.size) (e : ¬ p[0] = 47) : (p.data.toList.head? == some 47) = false := by
 have : p.data.toList.head? = some p[0] := by
  rw [List.head?_eq_getElem?]; exact List.getElem?_eq_getElem (by simpa using h)
 rw [this]; simpa using e
theorem comeB_nil {path : List UInt8} {st : Opens} (h : popTo (dirOf path).1 st = []) : comeB path st = (false, []) := by
 unfold comeB; rw [h]; rfl
theorem lastAt_lt (l : List UInt8) (c : UInt8) : ∀ k, lastAt l c k < (k : Int)
 | 0 => by simp [lastAt]
 | k + 1 => by
   unfold lastAt
   split
   ·omega
   ·have := lastAt_lt l c k; omega
theorem lastIdx_lt (l : List UInt8) (c : UInt8) : lastIdx l c < (l.length : Int) := lastAt_lt l c _
theorem dirOf_neg (path : ByteArray) (h : ¬ 0 ≤ lastIdx path.data.toList 47) : dirOf path.data.toList = ((⟨#[]⟩ : ByteArray).data.toList, path.data.toList) := by
 unfold dirOf; rw [if_neg h]
theorem dirOf_pos (path : ByteArray) (h : 0 ≤ lastIdx path.data.toList 47) : dirOf path.data.toList =
 ((path.extract 0 (lastIdx path.data.toList 47).toNat).data.toList, (path.extract ((lastIdx path.data.toList 47).toNat + 1) path.size).data.toList) := by
 unfold dirOf
 rw [if_pos h, ext_list, ext_list]
 congr 1
 rw [List.take_of_length_le]
 rw [List.length_drop, dlen]
 exact Nat.le_refl _
set_option maxHeartbeats 800000 in
set_option maxRecDepth 100000 in
theorem come_any (B t : Nat) (st : Opens) (path : ByteArray) (w : World) (hp : path.size ≤ maxLen) (hT : Tabs w) (hB : tabTop ≤ B) (h : StackAt w B t st) :
 Calls Tryz.prog 91 #[.pointer (some ⟨t, 0, none⟩), .string path] w fun e w' =>
  e = .returned (.bool (comeB path.data.toList st).1) ∧ StackAt w' B t (comeB path.data.toList st).2 ∧ Kp B [105, 160] w w' := by
 have hp' := hp
 unfold maxLen at hp'
 have hlast := lastIdx_lt path.data.toList 47
 rw [dlen] at hlast
 go_enter Tryz.func91, Tryz.ntmps91
 go_wp2_with fail
 refine (lastIndex_any path 47 _ hp).mono ?_
 rintro e w' ⟨rfl, rfl⟩
 have hd1 := dirOf_pos path
 have hd2 := dirOf_neg path
 have HD1 := Lib.hid hd1
 have HD2 := Lib.hid hd2
 clear hd1 hd2
 generalize lastIdx path.data.toList 47 = L at *
 go_upto_if 13 with (fail)
 go_cut [5, 6] (fun d n wx => ∃ dir name : ByteArray, d = .string dir ∧ n = .string name ∧ Hid (dirOf path.data.toList = (dir.data.toList, name.data.toList)) ∧ name.size ≤ path.size ∧ ∃ q, wx = w.drewN q)
 case first =>
  by_cases hk : 0 ≤ L
  ·have HD' := Lib.hid (HD1.out (by omega))
   clear HD1 HD2
   go_wp2_with fail
   go_quiet (fail)
   go_wp2_with fail
   go_meet
   exact ⟨_, _, rfl, rfl, (by rw [show (L + 1).toNat = L.toNat + 1 by omega]; exact HD'.out), by rw [ByteArray.size_extract]; omega, _, rfl⟩
  ·have HD := Lib.hid (HD2.out (by omega))
   clear HD1 HD2
   go_wp2_with fail
   go_meet
   exact ⟨⟨#[]⟩, path, rfl, rfl, HD.out, Nat.le_refl _, 0, rfl⟩
 case rest =>
  obtain ⟨dir, name, rfl, rfl, hdn, hns, q, rfl⟩ := hcut
  have hT' : Tabs (w.drewN q) := hT
  have h' : StackAt (w.drewN q) B t st := h
  generalize hW : w.drewN q = W at *
  have hkw : Kp B [105, 160] w W := by rw [← hW]; exact (Kp.refl _ _ _).drewN q
  have HKW := Lib.hid hkw
  have HT := Lib.hid hT'
  clear hW hkw hT' hT h hlast
  clear HD1 HD2
  go_wp2_with fail
  go_loopg [] (st.length + 1) (fun gk wr => ∃ st' : Opens, StackAt wr B t st' ∧ st'.length < gk ∧ Hid (popTo dir.data.toList st = popTo dir.data.toList st') ∧ Kp B [105] W wr)
  case atStart => exact ⟨st, h', by omega, rfl, Kp.refl _ _ _⟩
  case round =>
   obtain ⟨st', hst, hg, hpop, hkp⟩ := hrel
   obtain ⟨v, hv, hBt, hs⟩ := hst
   have c0 : wr.cell? ⟨t, 0, none⟩ = some v := hv.cell 0
   have f0 := hv.free 0
   rcases List.eq_nil_or_concat st' with rfl | ⟨st2, o, rfl⟩
   ·-- nothing is left
    obtain ⟨-, ⟨rfl, -⟩ | ⟨b, off, cap, c, rfl, hBb, hb, h3, h4, h5, h6⟩⟩ := hs
    ·have HF : Hid (comeB path.data.toList st = (false, [])) := comeB_nil (by rw [hdn.out]; exact hpop.out)
     have HS : Hid (StackAt (wr.drewN 1) B t []) := ⟨_, hv, hBt, Sl.nil _ _ _ _⟩
     have HK := Lib.hid (HKW.out.trans (hkp.mono (.inr ⟨Nat.le_refl _, by simp⟩)))
     clear hkp hv HKW
     go_wp2_with fail
     go_quiet (fail)
     go_wp2_with fail
     go_ret
     rw [HF.out]
     exact ⟨rfl, HS.out, HK.out.drewN _⟩
    ·have c0' : wr.cell? ⟨t, 0, none⟩ = some (.slice (some ⟨b, off, none⟩) 0 cap) := c0
     have HF : Hid (comeB path.data.toList st = (false, [])) := comeB_nil (by rw [hdn.out]; exact hpop.out)
     have HS : Hid (StackAt (wr.drewN 1) B t []) := ⟨_, hv, hBt, ⟨rfl, .inr ⟨b, off, cap, c, rfl, hBb, hb, h3, h4, h5, h6⟩⟩⟩
     have HK := Lib.hid (HKW.out.trans (hkp.mono (.inr ⟨Nat.le_refl _, by simp⟩)))
     clear hkp hv HKW c0 hb h6
     go_wp2_with fail
     go_quiet (fail)
     go_wp2_with fail
     go_ret
     rw [HF.out]
     exact ⟨rfl, HS.out, HK.out.drewN _⟩
   ·rw [List.concat_eq_append] at hs hg hpop
    obtain ⟨b, off, cap, rfl, hBb, hnc, hcm, hlt, hcell, hfree⟩ := hs.pos (by simp)
    unfold maxLen at hcm
    obtain ⟨op, ol⟩ := o
    have e1 : (st2 ++ [(op, ol)]).length = st2.length + 1 := by simp
    rw [e1] at c0 hnc hcell hg
    clear e1
    have c1 : wr.cell? ⟨b, off + st2.length * 2, none⟩ = some (sv op) := by
     rw [hcell _ (by omega), opCells_append, List.getElem?_append_right (by rw [opCells_length]; exact Nat.le_refl _), opCells_length]
     simp [opCells]
    unfold sv at c1
    have HCELL := Lib.hid hcell
    clear hcell
    have q1 : IntKind.i64.wrap (st2.length : Int) = (st2.length : Int) := IntWalk.i64_in _ (by omega)
    have q2 : (0 : Int) ≤ (st2.length : Int) := by omega
    have q3 : (st2.length : Int) < (st2.length : Int) + 1 := by omega
    have q4 : st2.length < st2.length + 1 := by omega
    have q5 : (0 : Int) < (st2.length : Int) + 1 := by omega
    have q7 : (st2.length : Int) ≤ (cap : Int) := by omega
    have q8 : st2.length ≤ cap := by omega
    have q6 : IntKind.i64.wrap ((st2.length : Int) + 1 - 1) = (st2.length : Int) := by rw [IntWalk.i64_in _ (by omega)]; omega
    by_cases he : op = dir.data.toList
    ·have hb : (!op == dir.toList) = false := by rw [ByteArray.toList_eq, he]; simp
     have hT2 : Tabs wr := HT.out.kp hkp hB
     have HPOP : Hid (popTo (dirOf path.data.toList).1 st = st2 ++ [(op, ol)]) := by
      show _ = _
      rw [hdn.out, hpop.out, popTo_snoc, if_pos he]
     clear hpop
     clear he
     go_wp2_with fail
     go_quiet (fail)
     go_wp2_with fail
     refine (name_any name _ (by unfold maxLen; omega) (show Tabs (wr.drewN nq) from hT2)).mono ?_
     rintro e w2 ⟨rfl, hk2⟩
     have hv2 : Blk w2 t #[.slice (some ⟨b, off, none⟩) (st2 ++ [(op, ol)]).length cap] 105 := Blk.keeps (w := wr.drewN nq) hv hk2 (fun h => h)
     have hs2 : Sl w2 B 160 2 (.slice (some ⟨b, off, none⟩) (st2 ++ [(op, ol)]).length cap) (st2 ++ [(op, ol)]).length (opCells (st2 ++ [(op, ol)])) :=
      hs.keep fun b' c _ _ hb => Blk.keeps (w := wr.drewN nq) hb hk2 (fun h => h)
     have hst2 : StackAt w2 B t (st2 ++ [(op, ol)]) := ⟨_, hv2, hBt, hs2⟩
     have hkp2 : Kp B [105, 160] w w2 := ((HKW.out.trans (hkp.mono (.inr ⟨Nat.le_refl _, by simp⟩))).drewN nq).trans (Kp.of_keeps hk2)
     have HS2 := Lib.hid hst2
     have HK2 := Lib.hid hkp2
     have HSL := Lib.hid hs2
     have HV2 := Lib.hid hv2
     have d0 : w2.cell? ⟨t, 0, none⟩ = some (.slice (some ⟨b, off, none⟩) (st2.length + 1) cap) := by
      have := hv2.cell 0
      simpa using this
     have d1 : w2.cell? ⟨b, off + st2.length * 2 + 1, none⟩ = some (sv ol) := by
      have := (hs2.at (st2.length * 2 + 1) (by simp; omega)).1
      rw [← Nat.add_assoc] at this
      rw [this, opCells_append, List.getElem?_append_right (by rw [opCells_length]; omega), opCells_length]
      simp [opCells]
     have g1 : w2.frozen? ⟨b, off + st2.length * 2 + 1, none⟩ = false := by
      have := (hs2.at (st2.length * 2 + 1) (by simp; omega)).2
      rwa [← Nat.add_assoc] at this
     unfold sv at d1
     clear hs hv hkp HKW HT hT2 hst2 hkp2 hk2 hv2 c0 c1 f0 hfree HCELL hs2
     cases hn : nameB name.data.toList with
     | false =>
       have HF : Hid (comeB path.data.toList st = (false, st2 ++ [(op, ol)])) := by
        show _ = _
        unfold comeB
        rw [HPOP.out, hdn.out]
        simp [hn]
       clear hn
       go_wp2_with fail
       go_ret
       rw [HF.out]
       exact ⟨rfl, HS2.out, HK2.out⟩
     | true =>
       have hpos : 0 < path.size := by
        rcases Nat.eq_zero_or_pos path.size with h0 | h0
        ·have : name.data.toList = [] := List.eq_nil_of_length_eq_zero (by rw [dlen]; omega)
         rw [this] at hn
         cases hn
        ·exact h0
       by_cases h47 : path[0] = 47
       ·have HF : Hid (comeB path.data.toList st = (false, st2 ++ [(op, ol)])) := by
         show _ = _
         unfold comeB
         rw [HPOP.out, hdn.out]
         simp [head_47 hpos h47]
        have hb7 : ((path[0].toNat : Int) == 47) = true := by rw [h47]; rfl
        clear hn h47
        go_wp2_with fail
        go_ret
        rw [HF.out]
        exact ⟨rfl, HS2.out, HK2.out⟩
       ·have hb7 : ((path[0].toNat : Int) == 47) = false := by
         rw [beq_eq_false_iff_ne]; intro e; exact h47 (UInt8.toNat_inj.1 (show path[0].toNat = 47 by omega))
        have HC : Hid (comeB path.data.toList st = if leS name.data.toList ol then (false, st2 ++ [(op, ol)]) else (true, st2 ++ [(op, name.data.toList)])) := by
         show _ = _
         unfold comeB
         rw [HPOP.out, hdn.out]
         simp [hn, head_not47 hpos h47]
        clear hn h47
        go_wp2_with fail
        obtain ⟨w3, hw3⟩ : ∃ w3, w2 = w3 := ⟨_, rfl⟩
        rw [hw3] at d0 d1 g1 HS2 HK2 HSL HV2 ⊢
        clear hw3
        go_quiet (fail)
        by_cases hle : leS name.data.toList ol = true
        ·have hb8 : (Op.bytesLess name.toList ol || name.toList == ol) = true := by rw [ByteArray.toList_eq]; exact hle
         rw [if_pos hle] at HC
         clear hle
         go_wp2_with fail
         go_ret
         rw [HC.out]
         exact ⟨rfl, HS2.out, HK2.out.drewN _⟩
        ·have hb8 : (Op.bytesLess name.toList ol || name.toList == ol) = false := by rw [ByteArray.toList_eq]; exact Bool.eq_false_iff.2 hle
         rw [if_neg hle] at HC
         clear hle
         go_wp2_with fail
         go_ret
         rw [HC.out]
         have hsl := HSL.out.set (st2.length * 2 + 1) (by simp; omega) (.string name)
         obtain ⟨c3, hc3, hBc3⟩ := HSL.out.blk
         rw [← Nat.add_assoc] at hsl
         have hkp3 : Kp B [105, 160] w (w3.setCell ⟨b, off + st2.length * 2 + 1, none⟩ (.string name)) := HK2.out.set hc3 (.inr ⟨hBc3, by simp⟩) _ _
         refine ⟨rfl, ?_, hkp3.drewN _⟩
         have hvb := HV2.out.set_ne ⟨b, off + st2.length * 2 + 1, none⟩ (.string name) (fun e => by
          cases e; exact absurd (HV2.out.inj hc3).2 (by decide))
         have e9 : (opCells (st2 ++ [(op, ol)])).set (st2.length * 2 + 1) (.string name) = opCells (st2 ++ [(op, name.data.toList)]) := by
          rw [opCells_append, opCells_append, List.set_append_right _ _ (by rw [opCells_length]; omega), opCells_length]
          simp [opCells, sv]
         rw [e9] at hsl
         have e8 : (st2 ++ [(op, name.data.toList)]).length = (st2 ++ [(op, ol)]).length := by simp
         refine ⟨_, hvb, hBt, ?_⟩
         rw [e8]
         exact hsl
    ·have hb : (!op == dir.toList) = true := by rw [ByteArray.toList_eq]; simpa using he
     have HPOP : Hid (popTo dir.data.toList st = popTo dir.data.toList st2) := by
      show _ = _
      rw [hpop.out, popTo_snoc, if_neg he]
     clear hpop he
     go_wp2_with fail
     go_quiet (fail)
     go_wp2_with fail
     obtain ⟨w1, hw1⟩ : ∃ w1, wr.drewN nq = w1 := ⟨_, rfl⟩
     have d0 : w1.cell? ⟨t, 0, none⟩ = some (.slice (some ⟨b, off, none⟩) (st2.length + 1) cap) := by rw [← hw1]; exact c0
     have g0 : w1.frozen? ⟨t, 0, none⟩ = false := by rw [← hw1]; exact f0
     rw [hw1]
     have HW1 := Lib.hid hw1
     clear hw1 c0 f0 hfree c1
     go_still_tail 11, (by kernel_rfl)
     go_wp2_with fail
     go_roundg (st2.length + 1)
     case measure => omega
     case rel =>
      have hb1 : Blk w1.drew t #[.slice (some ⟨b, off, none⟩) (st2 ++ [(op, ol)]).length cap] 105 := by rw [← HW1.out]; exact hv
      have hkp1 : Kp B [105] W w1.drew := by rw [← HW1.out]; exact (hkp.drewN nq).drew
      have hs1 : Sl w1.drew B 160 2 (.slice (some ⟨b, off, none⟩) (st2 ++ [(op, ol)]).length cap) (st2 ++ [(op, ol)]).length (opCells (st2 ++ [(op, ol)])) := by rw [← HW1.out]; exact hs
      refine ⟨st2, ⟨_, hb1.set 0 _, hBt, ?_⟩, by omega, HPOP.out, hkp1.set hb1 (.inr ⟨hBt, by simp⟩) _ _⟩
      have hs2 := (hs1.take (m := st2.length) (by simp)).kp ((Kp.refl B [105] w1.drew).set hb1 (.inr ⟨hBt, by simp⟩) 0 (.slice (some ⟨b, off, none⟩) st2.length cap)) (.inl (by decide))
      rwa [opCells_append, List.take_append_of_le_length (by rw [opCells_length]; exact Nat.le_refl _), List.take_of_length_le (by rw [opCells_length]; exact Nat.le_refl _)] at hs2
structure Node where
 path : List UInt8
 kind : Int
 data : List UInt8
def nodeC (n : Node) : List Value := [sv n.path, .int .i64 n.kind, sv n.data]
def nodeCells (l : List Node) : List Value := l.flatMap nodeC
theorem nodeCells_length (l : List Node) : (nodeCells l).length = l.length * 3 := by
 induction l with
 | nil => rfl
 | cons o st ih => simp only [nodeCells, List.flatMap_cons, List.length_append, List.length_cons, nodeC, List.length_nil] at *; omega
theorem nodeCells_append (a b : List Node) : nodeCells (a ++ b) = nodeCells a ++ nodeCells b := by simp [nodeCells]
theorem nodeCells_at (l : List Node) (k : Nat) (h : k < l.length) : (nodeCells l)[k * 3]? = some (sv l[k].path) ∧ (nodeCells l)[k * 3 + 1]? = some (.int .i64 l[k].kind) ∧ (nodeCells l)[k * 3 + 2]? = some (sv l[k].data) := by
 have e : nodeCells l = nodeCells (l.take k) ++ (nodeC l[k] ++ nodeCells (l.drop (k + 1))) := by
  have e1 : l = l.take k ++ (l[k] :: l.drop (k + 1)) := by rw [← List.drop_eq_getElem_cons h, List.take_append_drop]
  have e2 : nodeCells (l[k] :: l.drop (k + 1)) = nodeC l[k] ++ nodeCells (l.drop (k + 1)) := rfl
  rw [← e2, ← nodeCells_append, ← e1]
 have hl : (nodeCells (l.take k)).length = k * 3 := by rw [nodeCells_length, List.length_take]; omega
 refine ⟨?_, ?_, ?_⟩ <;> rw [e, List.getElem?_append_right (by omega), hl]
 ·simp [nodeC]
 ·rw [show k * 3 + 1 - k * 3 = 1 by omega]; simp [nodeC]
 ·rw [show k * 3 + 2 - k * 3 = 2 by omega]; simp [nodeC]
def nodeOk (k : Nat) (n : Node) (st : Opens) : Option Opens :=
 if k = 30 ∨ dataB n.kind n.data = false then none
 else if k = 0 then (if n.path = [] ∧ st.length ≤ 5 then some st else none)
 else if (comeB n.path st).1 = true ∧ (comeB n.path st).2.length ≤ 5 then some (comeB n.path st).2 else none
def pushD (n : Node) (st : Opens) : Opens := if n.kind = 4 then st ++ [(n.path, [])] else st
def wrongGo : List Node → Nat → Opens → Int
 | [], _, _ => -1
 | n :: r, k, st => match nodeOk k n st with
   | none => k
   | some st' => wrongGo r (k + 1) (pushD n st')
def wrongL (l : List Node) : Int := if l = [] then 0 else wrongGo l 0 []
theorem popTo_le (dir : List UInt8) (st : Opens) : (popTo dir st).length ≤ st.length := by
 unfold popTo
 rw [List.length_reverse]
 exact Nat.le_trans (List.dropWhile_sublist _).length_le (by simp)
theorem comeB_le (p : List UInt8) (st : Opens) : (comeB p st).2.length ≤ st.length := by
 have h := popTo_le (dirOf p).1 st
 unfold comeB
 simp only
 split
 ·exact h
 ·rename_i o ho
  split
  ·exact h
  ·have : 0 < (popTo (dirOf p).1 st).length := by
    cases hq : popTo (dirOf p).1 st with
    | nil => rw [hq] at ho; cases ho
    | cons a b => simp
   simp; omega
theorem infoOpen : (Tryz.prog.info? 160).map (fun i => (i.zero, i.size, i.bytes)) = some (some (.agg #[.string ⟨#[]⟩, .string ⟨#[]⟩]), 2, 32) := by kernel_rfl
def NodesFit (l : List Node) : Prop := ∀ n ∈ l, n.path.length ≤ 4611686018427387904 ∧ n.data.length ≤ 4611686018427387904
set_option maxHeartbeats 1600000 in
set_option maxRecDepth 100000 in
theorem wrong_any (v : Value) (l : List Node) (w : World) (hv : Rd w 3 v l.length (nodeCells l)) (hT : Tabs w) (hfit : NodesFit l) :
 Calls Tryz.prog 55 #[v] w fun e w' => e = .returned (.int .i64 (wrongL l)) ∧ Keeps Non w w' := by
 rcases Nat.eq_zero_or_pos l.length with h0 | hpos
 ·obtain ⟨a, c, rfl, -, -⟩ := hv.shape
  obtain rfl : l = [] := List.eq_nil_of_length_eq_zero h0
  clear hv
  go_enter Tryz.func55, Tryz.ntmps55
  go_wp2_with fail
  go_ret
  exact ⟨rfl, Keeps.refl _ _⟩
 ·obtain ⟨b, off, cap, rfl, -, hnc, hcm, hbl, hc, -⟩ := hv.pos hpos
  have hwl : wrongL l = wrongGo l 0 [] := by unfold wrongL; rw [if_neg (by intro e; rw [e] at hpos; simp at hpos)]
  rw [hwl]
  unfold maxLen at hcm
  have hne : ((l.length : Int) == 0) = false := by rw [beq_eq_false_iff_ne]; omega
  have HC : Hid (∀ j, j < l.length * 3 → w.cell? ⟨b, off + j, none⟩ = (nodeCells l)[j]?) := hc
  have HT := Lib.hid hT
  have HFIT := Lib.hid hfit
  clear hc hv hT hwl hfit
  go_enter Tryz.func55, Tryz.ntmps55
  go_wp2_with fail
  go_loopw [12] (fun i wr => ∃ (k : Nat) (st : Opens), k ≤ l.length ∧ k ≤ 30 ∧ i = .int .i64 k ∧ st.length ≤ k ∧ StackAt wr w.heap.size w.heap.size st ∧ Kp w.heap.size [105, 160] w wr ∧ Hid (wrongGo l 0 [] = wrongGo (l.drop k) k st)) (fun i _ => l.length - (intOf i).toNat)
  case atStart => exact ⟨0, [], by omega, by omega, rfl, by simp, ⟨_, Blk.new w _ _, Nat.le_refl _, Sl.nil _ _ _ _⟩, (Kp.refl _ _ _).alloc _, rfl⟩
  case round =>
   obtain ⟨k, st, hk, hk30, rfl, hst, hsa, hkp, hwg⟩ := hrel
   by_cases hlt : k < l.length
   ·have hbelow := hkp.below (Nat.le_refl _)
    have hat := nodeCells_at l k hlt
    have hgo : wrongGo l 0 [] = match nodeOk k l[k] st with
     | none => (k : Int)
     | some st' => wrongGo (l.drop (k + 1)) (k + 1) (pushD l[k] st') := by
     rw [hwg.out, List.drop_eq_getElem_cons hlt]; rfl
    have hf := HFIT.out l[k] (List.getElem_mem hlt)
    generalize hN : l[k] = N at *
    obtain ⟨p, kd, da⟩ := N
    simp only at hat hf
    have c0 : wr.cell? ⟨b, off + k * 3, none⟩ = some (sv p) := (hbelow.cell (p := ⟨b, off + k * 3, none⟩) hbl).trans ((HC.out _ (by omega)).trans hat.1)
    have c1 : wr.cell? ⟨b, off + k * 3 + 1, none⟩ = some (.int .i64 kd) := (hbelow.cell (p := ⟨b, off + k * 3 + 1, none⟩) hbl).trans ((HC.out _ (by omega)).trans hat.2.1)
    have c2 : wr.cell? ⟨b, off + k * 3 + 2, none⟩ = some (sv da) := (hbelow.cell (p := ⟨b, off + k * 3 + 2, none⟩) hbl).trans ((HC.out _ (by omega)).trans hat.2.2)
    have HTr := Lib.hid (HT.out.below hbelow HT.out.top)
    unfold sv at c0 c2
    have hsz : (⟨da.toArray⟩ : ByteArray).size ≤ maxLen := by show da.toArray.size ≤ _; simp; unfold maxLen; omega
    have HSZ := Lib.hid hsz
    have hpz : (⟨p.toArray⟩ : ByteArray).size ≤ maxLen := by show p.toArray.size ≤ _; simp; unfold maxLen; omega
    have HPZ := Lib.hid hpz
    clear hsz hpz
    have HGO := Lib.hid hgo
    have HKP := Lib.hid hkp
    clear hat hgo hwg hkp hbelow hN hf
    go_upto_region 8 with (fail)
    obtain ⟨w1, hw1⟩ : ∃ w1, wr.alloc (.cells #[.string ⟨p.toArray⟩, .int .i64 kd, .string ⟨da.toArray⟩] 49) = w1 := ⟨_, rfl⟩
    have hbox : Blk w1 wr.heap.size #[.string ⟨p.toArray⟩, .int .i64 kd, .string ⟨da.toArray⟩] 49 := by rw [← hw1]; exact Blk.new _ _ _
    have hsa1 : StackAt w1 w.heap.size w.heap.size st := by
     obtain ⟨va, hva, hBa, hsl⟩ := hsa
     rw [← hw1]; exact ⟨va, hva.alloc _, hBa, hsl.alloc _⟩
    have HKP1 : Hid (Kp w.heap.size [105, 160] w w1) := by rw [← hw1]; exact HKP.out.alloc _
    have HT1 : Hid (Tabs w1) := HT.out.below (HKP1.out.below (Nat.le_refl _)) HT.out.top
    rw [hw1]
    clear hw1 hsa HKP c0 c1 c2 HTr
    generalize hbx : wr.heap.size = bx at *
    clear hbx
    go_cut [6, 51] (fun _ c wx => (c = .bool true ∧ Hid (wrongGo l 0 [] = k) ∧ Keeps Non w wx) ∨ (c = .bool false ∧ ∃ st' : Opens, k < 30 ∧ st'.length ≤ k ∧ StackAt wx w.heap.size w.heap.size st' ∧ Kp w.heap.size [105, 160] w wx ∧
     Blk wx bx #[.string ⟨p.toArray⟩, .int .i64 kd, .string ⟨da.toArray⟩] 49 ∧ Hid (wrongGo l 0 [] = wrongGo (l.drop (k + 1)) (k + 1) (pushD ⟨p, kd, da⟩ st'))))
    case first =>
     have n0 : w1.cell? ⟨bx, 0, none⟩ = some (.string ⟨p.toArray⟩) := hbox.cell 0
     have n1 : w1.cell? ⟨bx, 1, none⟩ = some (.int .i64 kd) := hbox.cell 1
     have n2 : w1.cell? ⟨bx, 2, none⟩ = some (.string ⟨da.toArray⟩) := hbox.cell 2
     have HBOX := Lib.hid hbox
     have hk30' : Hid (k ≤ 30) := hk30
     clear hbox
     by_cases h30 : k = 30
     ·have hb : ((k : Int) == 30) = true := by rw [beq_iff_eq]; omega
      have HF : Hid (wrongGo l 0 [] = k) := by
       show _ = _
       rw [HGO.out]
       unfold nodeOk
       rw [if_pos (.inl h30)]
      clear h30
      go_wp2_with fail
      go_meet
      exact .inl ⟨rfl, HF.out, HKP1.out.keeps (Nat.le_refl _)⟩
     ·have hb : ((k : Int) == 30) = false := by rw [beq_eq_false_iff_ne]; omega
      cases hd : dataB kd da with
      | false =>
        have HF : Hid (wrongGo l 0 [] = k) := by
         show _ = _
         rw [HGO.out]
         unfold nodeOk
         rw [if_pos (.inr hd)]
        have HD := Lib.hid hd
        clear hd h30
        go_wp2_with fail
        refine (data_any kd ⟨da.toArray⟩ _ HSZ.out).mono ?_
        rintro e w2 ⟨rfl, rfl⟩
        rw [show dataB kd (⟨da.toArray⟩ : ByteArray).data.toList = false from HD.out]
        go_wp2_with fail
        go_meet
        exact .inl ⟨rfl, HF.out, HKP1.out.keeps (Nat.le_refl _)⟩
      | true =>
        have HD := Lib.hid hd
        have hdd : ¬ (k = 30 ∨ dataB kd da = false) := by rw [hd]; simp; omega
        have HDD := Lib.hid hdd
        clear hd hdd
        by_cases hk0 : k = 0
        ·have hz : ((k : Int) == 0) = true := by rw [beq_iff_eq]; omega
         by_cases hp0 : p = []
         ·have hb0 : (!p.isEmpty) = false := by rw [hp0]; rfl
          have HF : Hid (wrongGo l 0 [] = wrongGo (l.drop (k + 1)) (k + 1) (pushD ⟨p, kd, da⟩ st)) := by
           show _ = _
           rw [HGO.out]
           unfold nodeOk
           rw [if_neg HDD.out, if_pos hk0, if_pos ⟨hp0, by omega⟩]
          have hst5 : decide ((5 : Int) < (st.length : Int)) = false := by simp; omega
          have HSA := Lib.hid hsa1
          obtain ⟨va, hva, hBa, hsl⟩ := hsa1
          obtain ⟨aa, ac, rfl, -, -⟩ := hsl.shape
          have d0 : w1.cell? ⟨w.heap.size, 0, none⟩ = some (.slice aa st.length ac) := hva.cell 0
          have hk3 : k < 30 := by omega
          clear hp0 hk0 h30 hva hsl
          go_wp2_with fail
          refine (data_any kd ⟨da.toArray⟩ _ HSZ.out).mono ?_
          rintro e w2 ⟨rfl, rfl⟩
          rw [show dataB kd (⟨da.toArray⟩ : ByteArray).data.toList = true from HD.out]
          go_wp2_with fail
          go_meet
          exact .inr ⟨rfl, st, hk3, hst, HSA.out, HKP1.out, HBOX.out, HF.out⟩
         ·have hb0 : (!p.isEmpty) = true := by rw [List.isEmpty_eq_false_iff.2 hp0]; rfl
          have HF : Hid (wrongGo l 0 [] = k) := by
           show _ = _
           rw [HGO.out]
           unfold nodeOk
           rw [if_neg HDD.out, if_pos hk0, if_neg (fun h => hp0 h.1)]
          clear hp0 hk0 h30
          go_wp2_with fail
          refine (data_any kd ⟨da.toArray⟩ _ HSZ.out).mono ?_
          rintro e w2 ⟨rfl, rfl⟩
          rw [show dataB kd (⟨da.toArray⟩ : ByteArray).data.toList = true from HD.out]
          go_wp2_with fail
          go_meet
          exact .inl ⟨rfl, HF.out, HKP1.out.keeps (Nat.le_refl _)⟩
        ·have hz : ((k : Int) == 0) = false := by rw [beq_eq_false_iff_ne]; omega
         have hc := comeB_le p st
         have HK0 := Lib.hid hk0
         have hk3 : k < 30 := by omega
         clear hk0 h30
         go_wp2_with fail
         refine (data_any kd ⟨da.toArray⟩ _ HSZ.out).mono ?_
         rintro e w2 ⟨rfl, rfl⟩
         rw [show dataB kd (⟨da.toArray⟩ : ByteArray).data.toList = true from HD.out]
         go_wp2_with fail
         refine (come_any w.heap.size w.heap.size st ⟨p.toArray⟩ _ HPZ.out HT1.out HT.out.top hsa1).mono ?_
         rintro e w2 ⟨rfl, hsa2, hkp2⟩
         have hpp : (⟨p.toArray⟩ : ByteArray).data.toList = p := rfl
         rw [hpp] at hsa2 ⊢
         have HKP2 : Hid (Kp w.heap.size [105, 160] w w2) := HKP1.out.trans hkp2
         have HBOX2 : Hid (Blk w2 bx #[.string ⟨p.toArray⟩, .int .i64 kd, .string ⟨da.toArray⟩] 49) := HBOX.out.kp hkp2 (.inr (by decide))
         clear n0 n1 n2 hkp2 hsa1 hpp
         generalize hcb : comeB p st = cb at *
         obtain ⟨cb1, st2⟩ := cb
         simp only at hsa2 hc ⊢
         have HSA := Lib.hid hsa2
         obtain ⟨va, hva, hBa, hsl⟩ := hsa2
         obtain ⟨aa, ac, rfl, -, -⟩ := hsl.shape
         have d0 : w2.cell? ⟨w.heap.size, 0, none⟩ = some (.slice aa st2.length ac) := hva.cell 0
         have HCB := Lib.hid hcb
         clear hcb hva hsl
         cases cb1 with
         | false =>
           have HF : Hid (wrongGo l 0 [] = k) := by
            show _ = _
            rw [HGO.out]
            unfold nodeOk
            rw [if_neg HDD.out, if_neg HK0.out]
            simp only [HCB.out]
            simp
           go_wp2_with fail
           go_meet
           exact .inl ⟨rfl, HF.out, HKP2.out.keeps (Nat.le_refl _)⟩
         | true =>
           by_cases h5 : st2.length ≤ 5
           ·have hst5 : decide ((5 : Int) < (st2.length : Int)) = false := by simp; omega
            have HF : Hid (wrongGo l 0 [] = wrongGo (l.drop (k + 1)) (k + 1) (pushD ⟨p, kd, da⟩ st2)) := by
             show _ = _
             rw [HGO.out]
             unfold nodeOk
             rw [if_neg HDD.out, if_neg HK0.out]
             simp only [HCB.out]
             rw [if_pos ⟨trivial, h5⟩]
            have hl2 : st2.length ≤ k := by omega
            clear h5
            go_wp2_with fail
            go_meet
            exact .inr ⟨rfl, st2, hk3, hl2, HSA.out, HKP2.out, HBOX2.out, HF.out⟩
           ·have hst5 : decide ((5 : Int) < (st2.length : Int)) = true := by simp; omega
            have HF : Hid (wrongGo l 0 [] = k) := by
             show _ = _
             rw [HGO.out]
             unfold nodeOk
             rw [if_neg HDD.out, if_neg HK0.out]
             simp only [HCB.out]
             rw [if_neg (fun h => h5 h.2)]
            clear h5
            go_wp2_with fail
            go_meet
            exact .inl ⟨rfl, HF.out, HKP2.out.keeps (Nat.le_refl _)⟩
    case rest =>
     rcases hcut with ⟨rfl, hF, hK⟩ | ⟨rfl, st', hk3, hst', hsa', hkp', hbox', hF⟩
     ·have HK := Lib.hid hK
      clear hK
      go_wp2_with fail
      go_ret
      exact ⟨int_ret hF.out.symm, HK.out⟩
     ·have n0 : wc.cell? ⟨bx, 0, none⟩ = some (.string ⟨p.toArray⟩) := hbox'.cell 0
      have n1 : wc.cell? ⟨bx, 1, none⟩ = some (.int .i64 kd) := hbox'.cell 1
      by_cases h4 : kd = 4
      ·have hb4 : (kd == 4) = true := by rw [h4]; rfl
       have hpu : pushD ⟨p, kd, da⟩ st' = st' ++ [(p, [])] := by unfold pushD; exact if_pos h4
       rw [hpu] at hF
       obtain ⟨va, hva, hBa, hsl⟩ := hsa'
       obtain ⟨aa, ac, rfl, -, -⟩ := hsl.shape
       have d0 : wc.cell? ⟨w.heap.size, 0, none⟩ = some (.slice aa st'.length ac) := hva.cell 0
       have HF := Lib.hid hF.out
       have HBOX := Lib.hid hbox'
       clear h4 hF hbox' hpu HKP1 HT1 hbox hsa1
       have HKX := Lib.hid hkp'
       clear hkp'
       obtain ⟨i0, hi, hz0, hz1, hz2⟩ := info_parts infoOpen
       go_wp2_with (at_builtin; go_loud (refine wpList_append_sl rfl _ _ 105 105 rfl 160 i0 (.agg #[.string ⟨#[]⟩, .string ⟨#[]⟩]) 2 32 Tryz.underlying105 hi hz0 hz1 hz2 rfl w.heap.size _ _ _ rfl _ rfl 1 [.string ⟨p.toArray⟩, .string ⟨#[]⟩] ?c1 (hsl.alloc _) ?c2 ?c3 ?c4 ?_))
       case c1 => have := HKX.out.size; simp; omega
       case c2 => exact Src.ofSl Tryz.underlying105 (Sl.of_new wc 0 (Nat.zero_le _) 160 2 1 [.string ⟨p.toArray⟩, .string ⟨#[]⟩] rfl (by simp [maxLen])) (by simp [Value.oneCell'])
       case c3 => unfold maxLen; omega
       case c4 => omega
       intro v' w2 hs2 hk2 hb2
       obtain ⟨ao, cc, rfl, -, -⟩ := hs2.shape
       have hkp2 : Kp w.heap.size [105, 160] w w2 := (HKX.out.alloc _).trans' hk2 (.inr ⟨Nat.le_refl _, by simp⟩)
       have hva2 := (hva.alloc (.cells #[.string ⟨p.toArray⟩, .string ⟨#[]⟩] 160)).kp hk2 (.inr (by decide))
       have f2 := hva2.free 0
       have d2 : w2.cell? ⟨w.heap.size, 0, none⟩ = some (.slice aa st'.length ac) := hva2.cell 0
       have HKP2 := Lib.hid hkp2
       have HVA2 := Lib.hid hva2
       have HSL2 := Lib.hid hs2
       clear hb2 hsl hva d0 hi hz0 hz1 hz2 hkp2 hva2 hs2 hk2 HKX HBOX n0 n1
       go_wp2_with fail
       go_roundw
       case measure => simp only [intOf]; omega
       case rel =>
        refine ⟨k + 1, st' ++ [(p, [])], by omega, by omega, rfl, by simp; omega, ⟨_, HVA2.out.set 0 _, Nat.le_refl _, ?_⟩, HKP2.out.set HVA2.out (.inr ⟨Nat.le_refl _, by simp⟩) _ _, HF.out⟩
        have := HSL2.out.kp ((Kp.refl w.heap.size [105] w2).set HVA2.out (.inr ⟨Nat.le_refl _, by simp⟩) 0 (.slice ao (st'.length + 1) cc)) (.inl (by decide))
        rw [opCells_append]
        simpa [opCells, sv] using this
      ·have hb4 : (kd == 4) = false := by rw [beq_eq_false_iff_ne]; exact h4
       have hpu : pushD ⟨p, kd, da⟩ st' = st' := by unfold pushD; exact if_neg h4
       rw [hpu] at hF
       clear h4 hpu
       have HF := Lib.hid hF.out
       clear hF
       go_wp2_with fail
       go_roundw
       case measure => simp only [intOf]; omega
       case rel => exact ⟨k + 1, st', by omega, by omega, rfl, by omega, hsa', hkp', HF.out⟩
   ·have hlen : l.drop k = [] := List.drop_eq_nil_of_le (by omega)
    have HF : Hid (wrongGo l 0 [] = -1) := by
     show _ = _
     rw [hwg.out, hlen]; rfl
    have HKP := Lib.hid hkp
    clear hlen hwg hkp
    go_wp2_with fail
    go_ret
    exact ⟨int_ret HF.out.symm, HKP.out.keeps (Nat.le_refl _)⟩
end Go.Proofs.YtdkogijdfgfpeaaGreatDoor
