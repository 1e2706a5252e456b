/- (*tree.stack).come: a node of a path comes: does it stand where it may? -/
import Derived.Test.YtohbjbicmgnblaaDoorChecked
import Derived.Test.YtohbjbicmgnblaaDoorName
import Derived.Deep.LoopGhost
import Derived.Deep.RegionHeld3
import Derived.StillTailTactics
import Derived.Deep.DeepCutAuto
namespace Go.Proofs.YtohbjbicmgnblaaDoor
open Go Go.RowKit
set_option linter.unusedVariables false

/-- open directories: path, last name; the top is the last -/
abbrev Opens := List (List UInt8 × List UInt8)
def opCells (st : Opens) : List Value := st.flatMap fun o => [sv o.1, sv o.2]
theorem opCells_length (st : Opens) : (opCells st).length = st.length * 2 := by
  induction st with
  | nil => rfl
  | cons o st ih => simp only [opCells, List.flatMap_cons, List.length_append, List.length_cons, List.length_nil] at *; omega
theorem opCells_one (st : Opens) : ∀ u ∈ opCells st, u.oneCell' = true := fun u hu => by
  obtain ⟨o, _, h⟩ := List.mem_flatMap.1 hu
  simp at h
  rcases h with rfl | rfl <;> rfl
theorem opCells_append (a b : Opens) : opCells (a ++ b) = opCells a ++ opCells b := by simp [opCells]
/-- the stack variable in block t: its slice is st, all from block B on -/
def StackAt (w : World) (B t : Nat) (st : Opens) : Prop := ∃ v, Blk w t #[v] 68 ∧ B ≤ t ∧ Sl w B 72 2 v st.length (opCells st)

def dirOf (p : List UInt8) : List UInt8 × List UInt8 := if 0 ≤ lastIdx p 47 then (p.take (lastIdx p 47).toNat, p.drop ((lastIdx p 47).toNat + 1)) else ([], p)
/-- directories that are over are taken off -/
def popTo (dir : List UInt8) (st : Opens) : Opens := (st.reverse.dropWhile fun o => o.1 != dir).reverse
theorem popTo_nil (dir : List UInt8) : popTo dir [] = [] := rfl
theorem popTo_snoc (dir : List UInt8) (st : Opens) (o : List UInt8 × List UInt8) : popTo dir (st ++ [o]) = if o.1 = dir then st ++ [o] else popTo dir st := by
  unfold popTo
  rw [List.reverse_append]
  show (List.dropWhile _ (o :: st.reverse)).reverse = _
  rw [List.dropWhile_cons]
  by_cases h : o.1 = dir
  · simp [h]
  · simp [h]
/-- a string is below another -/
def leS (a b : List UInt8) : Bool := Op.bytesLess a b || a == b
def comeB (path : List UInt8) (st : Opens) : Bool × Opens :=
  let st' := popTo (dirOf path).1 st
  match st'.getLast? with
  | none => (false, st')
  | some o =>
    if !nameB (dirOf path).2 || path.head? == some 47 || leS (dirOf path).2 o.2 then (false, st')
    else (true, st'.dropLast ++ [(o.1, (dirOf path).2)])

theorem head_47 {p : ByteArray} (h : 0 < p.size) (e : p[0] = 47) : (p.data.toList.head? == some 47) = true := by
  have : p.data.toList.head? = some p[0] := by
    rw [List.head?_eq_getElem?]; exact List.getElem?_eq_getElem (by simpa using h)
  rw [this, e]; rfl
theorem head_not47 {p : ByteArray} (h : 0 < p.size) (e : ¬ p[0] = 47) : (p.data.toList.head? == some 47) = false := by
  have : p.data.toList.head? = some p[0] := by
    rw [List.head?_eq_getElem?]; exact List.getElem?_eq_getElem (by simpa using h)
  rw [this]; simpa using e
theorem comeB_nil {path : List UInt8} {st : Opens} (h : popTo (dirOf path).1 st = []) : comeB path st = (false, []) := by
  unfold comeB; rw [h]; rfl
theorem lastAt_lt (l : List UInt8) (c : UInt8) : ∀ k, lastAt l c k < (k : Int)
  | 0 => by simp [lastAt]
  | k + 1 => by
    unfold lastAt
    split
    · omega
    · have := lastAt_lt l c k; omega
theorem lastIdx_lt (l : List UInt8) (c : UInt8) : lastIdx l c < (l.length : Int) := lastAt_lt l c _
theorem dirOf_neg (path : ByteArray) (h : ¬ 0 ≤ lastIdx path.data.toList 47) : dirOf path.data.toList = ((⟨#[]⟩ : ByteArray).data.toList, path.data.toList) := by
  unfold dirOf; rw [if_neg h]
theorem dirOf_pos (path : ByteArray) (h : 0 ≤ lastIdx path.data.toList 47) : dirOf path.data.toList =
    ((path.extract 0 (lastIdx path.data.toList 47).toNat).data.toList, (path.extract ((lastIdx path.data.toList 47).toNat + 1) path.size).data.toList) := by
  unfold dirOf
  rw [if_pos h, ext_list, ext_list]
  congr 1
  rw [List.take_of_length_le]
  rw [List.length_drop, dlen]
  exact Nat.le_refl _

set_option maxHeartbeats 800000 in
set_option maxRecDepth 100000 in
theorem come_any (B t : Nat) (st : Opens) (path : ByteArray) (w : World) (hp : path.size ≤ maxLen) (hT : Tabs w) (hB : tabTop ≤ B) (h : StackAt w B t st) :
    Calls Tryd.prog 28 #[.pointer (some ⟨t, 0, none⟩), .string path] w fun e w' =>
      e = .returned (.bool (comeB path.data.toList st).1) ∧ StackAt w' B t (comeB path.data.toList st).2 ∧ Kp B [68, 72] w w' := by
  have hp' := hp
  unfold maxLen at hp'
  have hlast := lastIdx_lt path.data.toList 47
  rw [dlen] at hlast
  go_enter Tryd.func28, Tryd.ntmps28
  go_wp2_with fail
  refine (lastIndex_any path 47 _ hp).mono ?_
  rintro e w' ⟨rfl, rfl⟩
  have hd1 := dirOf_pos path
  have hd2 := dirOf_neg path
  have HD1 := Lib.hid hd1
  have HD2 := Lib.hid hd2
  clear hd1 hd2
  generalize lastIdx path.data.toList 47 = L at *
  go_upto_if 13 with (fail)
  go_cut [5, 6] (fun d n wx => ∃ dir name : ByteArray, d = .string dir ∧ n = .string name ∧ Hid (dirOf path.data.toList = (dir.data.toList, name.data.toList)) ∧ name.size ≤ path.size ∧ ∃ q, wx = w.drewN q)
  case first =>
    by_cases hk : 0 ≤ L
    · have HD' := Lib.hid (HD1.out (by omega))
      clear HD1 HD2
      go_wp2_with fail
      go_quiet (fail)
      go_wp2_with fail
      go_meet
      exact ⟨_, _, rfl, rfl, (by rw [show (L + 1).toNat = L.toNat + 1 by omega]; exact HD'.out), by rw [ByteArray.size_extract]; omega, _, rfl⟩
    · have HD := Lib.hid (HD2.out (by omega))
      clear HD1 HD2
      go_wp2_with fail
      go_meet
      exact ⟨⟨#[]⟩, path, rfl, rfl, HD.out, Nat.le_refl _, 0, rfl⟩
  case rest =>
    obtain ⟨dir, name, rfl, rfl, hdn, hns, q, rfl⟩ := hcut
    have hT' : Tabs (w.drewN q) := hT
    have h' : StackAt (w.drewN q) B t st := h
    generalize hW : w.drewN q = W at *
    have hkw : Kp B [68, 72] w W := by rw [← hW]; exact (Kp.refl _ _ _).drewN q
    have HKW := Lib.hid hkw
    have HT := Lib.hid hT'
    clear hW hkw hT' hT h hlast
    clear HD1 HD2
    go_wp2_with fail
    go_loopg [] (st.length + 1) (fun gk wr => ∃ st' : Opens, StackAt wr B t st' ∧ st'.length < gk ∧ Hid (popTo dir.data.toList st = popTo dir.data.toList st') ∧ Kp B [68] W wr)
    case atStart => exact ⟨st, h', by omega, rfl, Kp.refl _ _ _⟩
    case round =>
      obtain ⟨st', hst, hg, hpop, hkp⟩ := hrel
      obtain ⟨v, hv, hBt, hs⟩ := hst
      have c0 : wr.cell? ⟨t, 0, none⟩ = some v := hv.cell 0
      have f0 := hv.free 0
      rcases List.eq_nil_or_concat st' with rfl | ⟨st2, o, rfl⟩
      · -- nothing is left
        obtain ⟨-, ⟨rfl, -⟩ | ⟨b, off, cap, c, rfl, hBb, hb, h3, h4, h5, h6⟩⟩ := hs
        · have HF : Hid (comeB path.data.toList st = (false, [])) := comeB_nil (by rw [hdn.out]; exact hpop.out)
          have HS : Hid (StackAt (wr.drewN 1) B t []) := ⟨_, hv, hBt, Sl.nil _ _ _ _⟩
          have HK := Lib.hid (HKW.out.trans (hkp.mono (.inr ⟨Nat.le_refl _, by simp⟩)))
          clear hkp hv HKW
          go_wp2_with fail
          go_quiet (fail)
          go_wp2_with fail
          go_ret
          rw [HF.out]
          exact ⟨rfl, HS.out, HK.out.drewN _⟩
        · have c0' : wr.cell? ⟨t, 0, none⟩ = some (.slice (some ⟨b, off, none⟩) 0 cap) := c0
          have HF : Hid (comeB path.data.toList st = (false, [])) := comeB_nil (by rw [hdn.out]; exact hpop.out)
          have HS : Hid (StackAt (wr.drewN 1) B t []) := ⟨_, hv, hBt, ⟨rfl, .inr ⟨b, off, cap, c, rfl, hBb, hb, h3, h4, h5, h6⟩⟩⟩
          have HK := Lib.hid (HKW.out.trans (hkp.mono (.inr ⟨Nat.le_refl _, by simp⟩)))
          clear hkp hv HKW c0 hb h6
          go_wp2_with fail
          go_quiet (fail)
          go_wp2_with fail
          go_ret
          rw [HF.out]
          exact ⟨rfl, HS.out, HK.out.drewN _⟩
      · rw [List.concat_eq_append] at hs hg hpop
        obtain ⟨b, off, cap, rfl, hBb, hnc, hcm, hlt, hcell, hfree⟩ := hs.pos (by simp)
        unfold maxLen at hcm
        obtain ⟨op, ol⟩ := o
        have e1 : (st2 ++ [(op, ol)]).length = st2.length + 1 := by simp
        rw [e1] at c0 hnc hcell hg
        clear e1
        have c1 : wr.cell? ⟨b, off + st2.length * 2, none⟩ = some (sv op) := by
          rw [hcell _ (by omega), opCells_append, List.getElem?_append_right (by rw [opCells_length]; exact Nat.le_refl _), opCells_length]
          simp [opCells]
        unfold sv at c1
        have HCELL := Lib.hid hcell
        clear hcell
        have q1 : IntKind.i64.wrap (st2.length : Int) = (st2.length : Int) := IntWalk.i64_in _ (by omega)
        have q2 : (0 : Int) ≤ (st2.length : Int) := by omega
        have q3 : (st2.length : Int) < (st2.length : Int) + 1 := by omega
        have q4 : st2.length < st2.length + 1 := by omega
        have q5 : (0 : Int) < (st2.length : Int) + 1 := by omega
        have q7 : (st2.length : Int) ≤ (cap : Int) := by omega
        have q8 : st2.length ≤ cap := by omega
        have q6 : IntKind.i64.wrap ((st2.length : Int) + 1 - 1) = (st2.length : Int) := by rw [IntWalk.i64_in _ (by omega)]; omega
        by_cases he : op = dir.data.toList
        · have hb : (!op == dir.toList) = false := by rw [ByteArray.toList_eq, he]; simp
          have hT2 : Tabs wr := HT.out.kp hkp hB
          have HPOP : Hid (popTo (dirOf path.data.toList).1 st = st2 ++ [(op, ol)]) := by
            show _ = _
            rw [hdn.out, hpop.out, popTo_snoc, if_pos he]
          clear hpop
          clear he
          go_wp2_with fail
          go_quiet (fail)
          go_wp2_with fail
          refine (name_any name _ (by unfold maxLen; omega) (show Tabs (wr.drewN nq) from hT2)).mono ?_
          rintro e w2 ⟨rfl, hk2⟩
          have hv2 : Blk w2 t #[.slice (some ⟨b, off, none⟩) (st2 ++ [(op, ol)]).length cap] 68 := Blk.keeps (w := wr.drewN nq) hv hk2 (fun h => h)
          have hs2 : Sl w2 B 72 2 (.slice (some ⟨b, off, none⟩) (st2 ++ [(op, ol)]).length cap) (st2 ++ [(op, ol)]).length (opCells (st2 ++ [(op, ol)])) :=
            hs.keep fun b' c _ _ hb => Blk.keeps (w := wr.drewN nq) hb hk2 (fun h => h)
          have hst2 : StackAt w2 B t (st2 ++ [(op, ol)]) := ⟨_, hv2, hBt, hs2⟩
          have hkp2 : Kp B [68, 72] w w2 := ((HKW.out.trans (hkp.mono (.inr ⟨Nat.le_refl _, by simp⟩))).drewN nq).trans (Kp.of_keeps hk2)
          have HS2 := Lib.hid hst2
          have HK2 := Lib.hid hkp2
          have HSL := Lib.hid hs2
          have HV2 := Lib.hid hv2
          have d0 : w2.cell? ⟨t, 0, none⟩ = some (.slice (some ⟨b, off, none⟩) (st2.length + 1) cap) := by
            have := hv2.cell 0
            simpa using this
          have d1 : w2.cell? ⟨b, off + st2.length * 2 + 1, none⟩ = some (sv ol) := by
            have := (hs2.at (st2.length * 2 + 1) (by simp; omega)).1
            rw [← Nat.add_assoc] at this
            rw [this, opCells_append, List.getElem?_append_right (by rw [opCells_length]; omega), opCells_length]
            simp [opCells]
          have g1 : w2.frozen? ⟨b, off + st2.length * 2 + 1, none⟩ = false := by
            have := (hs2.at (st2.length * 2 + 1) (by simp; omega)).2
            rwa [← Nat.add_assoc] at this
          unfold sv at d1
          clear hs hv hkp HKW HT hT2 hst2 hkp2 hk2 hv2 c0 c1 f0 hfree HCELL hs2
          cases hn : nameB name.data.toList with
          | false =>
            have HF : Hid (comeB path.data.toList st = (false, st2 ++ [(op, ol)])) := by
              show _ = _
              unfold comeB
              rw [HPOP.out, hdn.out]
              simp [hn]
            clear hn
            go_wp2_with fail
            go_ret
            rw [HF.out]
            exact ⟨rfl, HS2.out, HK2.out⟩
          | true =>
            have hpos : 0 < path.size := by
              rcases Nat.eq_zero_or_pos path.size with h0 | h0
              · have : name.data.toList = [] := List.eq_nil_of_length_eq_zero (by rw [dlen]; omega)
                rw [this] at hn
                cases hn
              · exact h0
            by_cases h47 : path[0] = 47
            · have HF : Hid (comeB path.data.toList st = (false, st2 ++ [(op, ol)])) := by
                show _ = _
                unfold comeB
                rw [HPOP.out, hdn.out]
                simp [head_47 hpos h47]
              have hb7 : ((path[0].toNat : Int) == 47) = true := by rw [h47]; rfl
              clear hn h47
              go_wp2_with fail
              go_ret
              rw [HF.out]
              exact ⟨rfl, HS2.out, HK2.out⟩
            · have hb7 : ((path[0].toNat : Int) == 47) = false := by
                rw [beq_eq_false_iff_ne]; intro e; exact h47 (UInt8.toNat_inj.1 (show path[0].toNat = 47 by omega))
              have HC : Hid (comeB path.data.toList st = if leS name.data.toList ol then (false, st2 ++ [(op, ol)]) else (true, st2 ++ [(op, name.data.toList)])) := by
                show _ = _
                unfold comeB
                rw [HPOP.out, hdn.out]
                simp [hn, head_not47 hpos h47]
              clear hn h47
              go_wp2_with fail
              obtain ⟨w3, hw3⟩ : ∃ w3, w2 = w3 := ⟨_, rfl⟩
              rw [hw3] at d0 d1 g1 HS2 HK2 HSL HV2 ⊢
              clear hw3
              go_quiet (fail)
              by_cases hle : leS name.data.toList ol = true
              · have hb8 : (Op.bytesLess name.toList ol || name.toList == ol) = true := by rw [ByteArray.toList_eq]; exact hle
                rw [if_pos hle] at HC
                clear hle
                go_wp2_with fail
                go_ret
                rw [HC.out]
                exact ⟨rfl, HS2.out, HK2.out.drewN _⟩
              · have hb8 : (Op.bytesLess name.toList ol || name.toList == ol) = false := by rw [ByteArray.toList_eq]; exact Bool.eq_false_iff.2 hle
                rw [if_neg hle] at HC
                clear hle
                go_wp2_with fail
                go_ret
                rw [HC.out]
                have hsl := HSL.out.set (st2.length * 2 + 1) (by simp; omega) (.string name)
                obtain ⟨c3, hc3, hBc3⟩ := HSL.out.blk
                rw [← Nat.add_assoc] at hsl
                have hkp3 : Kp B [68, 72] w (w3.setCell ⟨b, off + st2.length * 2 + 1, none⟩ (.string name)) := HK2.out.set hc3 (.inr ⟨hBc3, by simp⟩) _ _
                refine ⟨rfl, ?_, hkp3.drewN _⟩
                have hvb := HV2.out.set_ne ⟨b, off + st2.length * 2 + 1, none⟩ (.string name) (fun e => by
                  cases e; exact absurd (HV2.out.inj hc3).2 (by decide))
                have e9 : (opCells (st2 ++ [(op, ol)])).set (st2.length * 2 + 1) (.string name) = opCells (st2 ++ [(op, name.data.toList)]) := by
                  rw [opCells_append, opCells_append, List.set_append_right _ _ (by rw [opCells_length]; omega), opCells_length]
                  simp [opCells, sv]
                rw [e9] at hsl
                have e8 : (st2 ++ [(op, name.data.toList)]).length = (st2 ++ [(op, ol)]).length := by simp
                refine ⟨_, hvb, hBt, ?_⟩
                rw [e8]
                exact hsl
        · have hb : (!op == dir.toList) = true := by rw [ByteArray.toList_eq]; simpa using he
          have HPOP : Hid (popTo dir.data.toList st = popTo dir.data.toList st2) := by
            show _ = _
            rw [hpop.out, popTo_snoc, if_neg he]
          clear hpop he
          go_wp2_with fail
          go_quiet (fail)
          go_wp2_with fail
          obtain ⟨w1, hw1⟩ : ∃ w1, wr.drewN nq = w1 := ⟨_, rfl⟩
          have d0 : w1.cell? ⟨t, 0, none⟩ = some (.slice (some ⟨b, off, none⟩) (st2.length + 1) cap) := by rw [← hw1]; exact c0
          have g0 : w1.frozen? ⟨t, 0, none⟩ = false := by rw [← hw1]; exact f0
          rw [hw1]
          have HW1 := Lib.hid hw1
          clear hw1 c0 f0 hfree c1
          go_still_tail 11, (by kernel_rfl)
          go_wp2_with fail
          go_roundg (st2.length + 1)
          case measure => omega
          case rel =>
            have hb1 : Blk w1.drew t #[.slice (some ⟨b, off, none⟩) (st2 ++ [(op, ol)]).length cap] 68 := by rw [← HW1.out]; exact hv
            have hkp1 : Kp B [68] W w1.drew := by rw [← HW1.out]; exact (hkp.drewN nq).drew
            have hs1 : Sl w1.drew B 72 2 (.slice (some ⟨b, off, none⟩) (st2 ++ [(op, ol)]).length cap) (st2 ++ [(op, ol)]).length (opCells (st2 ++ [(op, ol)])) := by rw [← HW1.out]; exact hs
            refine ⟨st2, ⟨_, hb1.set 0 _, hBt, ?_⟩, by omega, HPOP.out, hkp1.set hb1 (.inr ⟨hBt, by simp⟩) _ _⟩
            have hs2 := (hs1.take (m := st2.length) (by simp)).kp ((Kp.refl B [68] w1.drew).set hb1 (.inr ⟨hBt, by simp⟩) 0 (.slice (some ⟨b, off, none⟩) st2.length cap)) (.inl (by decide))
            rwa [opCells_append, List.take_append_of_le_length (by rw [opCells_length]; exact Nat.le_refl _), List.take_of_length_le (by rw [opCells_length]; exact Nat.le_refl _)] at hs2
end Go.Proofs.YtohbjbicmgnblaaDoor
