/- (*tree.Parser).name. -/
import Derived.Test.YtflkafnhhadphaaDoorChecked
import Derived.Test.YtflkafnhhadphaaDoorPAdd
import Derived.Test.YtflkafnhhadphaaDoorRefA
namespace Go.Proofs.YtflkafnhhadphaaDoor
open Go Go.RowKit
set_option linter.unusedVariables false

/-- the last name of the directory on top -/
theorem last_step {B b : Nat} {tail : List Value} {ts : List (Job × Value)} {σ : PSt} {w : World} {vr vt vl : Value} {ba off m cap : Nat} {ab : Opens} {op ol : List UInt8} (H : PAt B b tail ts σ w vr vt vl (.slice (some ⟨ba, off, none⟩) (m + 1) cap)) (hm : m = ab.length) (ha : σ.above = ab ++ [(op, ol)]) (s : List UInt8) :
    PAt B b tail ts { σ with above := ab ++ [(op, s)] } (w.setCell ⟨ba, off + m * 2 + 1, none⟩ (sv s)) vr vt vl (.slice (some ⟨ba, off, none⟩) (m + 1) cap) ∧ Kp B [72] w (w.setCell ⟨ba, off + m * 2 + 1, none⟩ (sv s)) := by
  subst hm
  have hl : σ.above.length = ab.length + 1 := by rw [ha]; simp
  have hs := H.above
  rw [hl] at hs
  obtain ⟨c, hb, hB⟩ := hs.blk
  have k : Kp B [72] w (w.setCell ⟨ba, off + ab.length * 2 + 1, none⟩ (sv s)) := (Kp.refl _ _ _).set hb (.inr ⟨hB, by simp⟩) _ _
  have sub : ∀ T ∈ ([72] : List TypeId), T ∈ paTs := by intro T hT; simp only [List.mem_singleton] at hT; subst hT; simp
  refine ⟨⟨H.blk.kp k (.inr (by decide)), H.le, H.rest.kp k (.inl (by decide)), H.todo.kp k (.inl (by decide)), H.nodes.kp k (.inl (by decide)), ?_, fun t ht => (H.jobs t ht).kp k sub⟩, k⟩
  have h2 := hs.set (ab.length * 2 + 1) (by omega) (sv s)
  rw [← Nat.add_assoc] at h2
  have e9 : (opCells σ.above).set (ab.length * 2 + 1) (sv s) = opCells (ab ++ [(op, s)]) := by
    rw [ha, opCells_append, opCells_append, List.set_append_right _ _ (by rw [opCells_length]; omega), opCells_length]
    simp [opCells]
  rw [e9] at h2
  show Sl _ B _ 2 _ (ab ++ [(op, s)]).length _
  rw [List.length_append]
  exact h2
theorem path_step {B b : Nat} {tail : List Value} {ts : List (Job × Value)} {σ : PSt} {w : World} {vr vt vl va : Value} (H : PAt B b tail ts σ w vr vt vl va) (p : List UInt8) :
    PAt B b tail ts { σ with path := p } (w.setCell ⟨b, 7, none⟩ (sv p)) vr vt vl va ∧ Kp B [TB] w (w.setCell ⟨b, 7, none⟩ (sv p)) := by
  have k := H.kpSet 7 (sv p)
  have b1 := H.blk.set 7 (sv p)
  rw [(pcells_set ..).2.2.2.2.2.2.2] at b1
  obtain ⟨p1, p2, p3, p4, p5⟩ := H.parts k
  exact ⟨⟨b1, H.le, p1, p2, p3, p4, p5⟩, k⟩

set_option maxHeartbeats 1600000 in
set_option maxRecDepth 100000 in
theorem pname_any {B b : Nat} {tail : List Value} {ts : List (Job × Value)} {σ : PSt} {w : World} (h : PA B b tail ts σ w) (hT : Tabs w) (s : ByteArray) (hs : s.size ≤ 1000) (p : Int) (ab : Opens) (op ol : List UInt8) (ha : σ.above = ab ++ [(op, ol)]) (hl : ab.length ≤ 1099511627776) (hop : op.length ≤ 1099511627776) :
    Calls Tryd.prog 89 #[.pointer (some ⟨b, 0, none⟩), .string s, .int .i64 p] w fun ed w' => ed = .returned (.tuple #[]) ∧ PA B b tail ts (doJob .name s.data.toList p σ).2 w' ∧ Kp B [72, TB] w w' := by
  obtain ⟨vr, vt, vl, va, h⟩ := h
  have c6 : w.cell? ⟨b, 6, none⟩ = some va := (h.blk.cell 6).trans (pcells_get ..).2.2.2.2.2.2.1
  have habv := h.above
  rw [ha] at habv
  obtain ⟨ba, off, cap, rfl, hBb, hnc, hcm, hlt, hcell, hfree⟩ := habv.pos (by simp)
  unfold maxLen at hcm
  have e1 : (ab ++ [(op, ol)]).length = ab.length + 1 := by simp
  have H0 := Lib.hid h
  rw [e1] at c6 hnc hcell H0
  have c1 : w.cell? ⟨ba, off + ab.length * 2 + 1, none⟩ = some (sv ol) := by
    rw [Nat.add_assoc, hcell _ (by omega), opCells_append, List.getElem?_append_right (by rw [opCells_length]; omega), opCells_length]
    simp [opCells]
  clear e1 h habv hcell hfree
  obtain ⟨m, hm⟩ : ∃ m, ab.length = m := ⟨_, rfl⟩
  rw [hm] at c6 hnc H0 c1 hl
  have HM := Lib.hid hm
  have HA := Lib.hid ha
  have HT := Lib.hid hT
  clear hm ha hT
  have q1 : IntKind.i64.wrap (m : Int) = (m : Int) := IntWalk.i64_in _ (by omega)
  have q2 : (0 : Int) ≤ (m : Int) := by omega
  have q3 : (m : Int) < (m : Int) + 1 := by omega
  have q4 : m < m + 1 := by omega
  have q6 : IntKind.i64.wrap ((m : Int) + 1 - 1) = (m : Int) := by rw [IntWalk.i64_in _ (by omega)]; omega
  unfold sv at c1
  have HD1 : Hid ((σ.above.getLastD ([], [])) = (op, ol)) := by show _ = _; rw [HA.out, List.getLastD_concat]
  have HD2 : Hid (σ.above.dropLast = ab) := by show _ = _; rw [HA.out, List.dropLast_concat]
  go_enter Tryd.func89, Tryd.ntmps89
  go_wp2_with fail
  go_quiet (fail)
  go_wp2_with fail
  refine (name_any s _ (by unfold maxLen; omega) (show Tabs (w.drewN nq) from HT.out)).mono ?_
  rintro e w4 ⟨rfl, hk2'⟩
  have hk2 := hk2'.of_drewN
  clear hk2'
  have H4 : Hid (PAt B b tail ts σ w4 vr vt vl (.slice (some ⟨ba, off, none⟩) (m + 1) cap)) := H0.out.keeps hk2
  have K4 : Hid (Kp B [72, TB] w w4) := Kp.of_keeps hk2
  have habv := H4.out.above
  rw [HA.out, show (ab ++ [(op, ol)]).length = m + 1 by rw [← HM.out]; simp] at habv
  have d1 : w4.cell? ⟨ba, off + m * 2 + 1, none⟩ = some (sv ol) := by
    have := (habv.at (m * 2 + 1) (by omega)).1
    rw [← Nat.add_assoc] at this
    rw [this, opCells_append, List.getElem?_append_right (by rw [opCells_length, HM.out]; omega), opCells_length, HM.out]
    simp [opCells]
  unfold sv at d1
  clear hk2 habv H0 c1 c6
  have hcs : nameB s.data.toList = false ∨ (nameB s.data.toList = true ∧ leS s.data.toList ol = true) ∨ (nameB s.data.toList = true ∧ leS s.data.toList ol = false) := by
    cases nameB s.data.toList <;> cases leS s.data.toList ol <;> simp
  rcases hcs with hn | ⟨hn, hle⟩ | ⟨hn, hle⟩
  case' inl =>
    have HF : Hid ((doJob .name s.data.toList p σ).2 = { σ.fail 6 p with above := ab ++ [(op, s.data.toList)], path := joinP op s.data.toList }) := by
      show _ = _
      simp only [doJob, hn, HD1.out, HD2.out, Bool.not_false, if_true]
    have HA4 : Hid ((σ.fail 6 p).above = ab ++ [(op, ol)]) := by show _ = _; rw [← HA.out]; unfold PSt.fail; split <;> rfl
    go_wp2_with fail
    refine (fail_at H4.out 6 p).mono ?_
    clear H4
    rintro e w4 ⟨rfl, ⟨vr, h4⟩, k4⟩
    have H4 := Lib.hid h4
    have K4 : Hid (Kp B [72, TB] w w4) := K4.out.trans (k4.mono (.inr ⟨Nat.le_refl _, by simp⟩))
    clear h4 k4 hn d1
    generalize σ.fail 6 p = σ4 at *
  case' inr.inl =>
    have HF : Hid ((doJob .name s.data.toList p σ).2 = { σ.fail 7 p with above := ab ++ [(op, s.data.toList)], path := joinP op s.data.toList }) := by
      show _ = _
      simp only [doJob, hn, hle, HD1.out, HD2.out, Bool.not_true, Bool.false_eq_true, if_true, if_false]
    have HA4 : Hid ((σ.fail 7 p).above = ab ++ [(op, ol)]) := by show _ = _; rw [← HA.out]; unfold PSt.fail; split <;> rfl
    have hb8 : (Op.bytesLess s.toList ol || s.toList == ol) = true := by rw [ByteArray.toList_eq]; exact hle
    clear hle
    go_wp2_with fail
    refine (fail_at H4.out 7 p).mono ?_
    clear H4
    rintro e w4 ⟨rfl, ⟨vr, h4⟩, k4⟩
    have H4 := Lib.hid h4
    have K4 : Hid (Kp B [72, TB] w w4) := K4.out.trans (k4.mono (.inr ⟨Nat.le_refl _, by simp⟩))
    clear h4 k4 hn d1
    generalize σ.fail 7 p = σ4 at *
  case' inr.inr =>
    have HF : Hid ((doJob .name s.data.toList p σ).2 = { σ with above := ab ++ [(op, s.data.toList)], path := joinP op s.data.toList }) := by
      show _ = _
      simp only [doJob, hn, hle, HD1.out, HD2.out, Bool.not_true, Bool.false_eq_true, if_false]
    have HA4 : Hid (σ.above = ab ++ [(op, ol)]) := HA
    have hb8 : (Op.bytesLess s.toList ol || s.toList == ol) = false := by rw [ByteArray.toList_eq]; exact hle
    clear hle
    go_upto_region 5 with (fail)
    clear hn d1 hb8
    obtain ⟨σ4, HF, H4', HA4⟩ : ∃ σ4 : PSt, Hid ((doJob .name s.data.toList p σ).2 = { σ4 with above := ab ++ [(op, s.data.toList)], path := joinP op s.data.toList }) ∧ Hid (PAt B b tail ts σ4 w4 vr vt vl (.slice (some ⟨ba, off, none⟩) (m + 1) cap)) ∧ Hid (σ4.above = ab ++ [(op, ol)]) := ⟨σ, HF, H4, HA⟩
    clear H4
    have H4 := H4'
    clear H4'
  all_goals (
    have habv := H4.out.above
    rw [HA4.out, show (ab ++ [(op, ol)]).length = m + 1 by rw [← HM.out]; simp] at habv
    have d1 : w4.cell? ⟨ba, off + m * 2 + 1, none⟩ = some (sv ol) := by
      have := (habv.at (m * 2 + 1) (by omega)).1
      rw [← Nat.add_assoc] at this
      rw [this, opCells_append, List.getElem?_append_right (by rw [opCells_length, HM.out]; omega), opCells_length, HM.out]
      simp [opCells]
    have g1 : w4.frozen? ⟨ba, off + m * 2 + 1, none⟩ = false := by
      have := (habv.at (m * 2 + 1) (by omega)).2
      rwa [← Nat.add_assoc] at this
    unfold sv at d1
    clear habv
    go_upto_region 6 with (fail)
    have hst := last_step H4.out HM.out.symm HA4.out s.data.toList
    rw [show sv s.data.toList = .string s from rfl] at hst
    generalize World.setCell w4 _ _ = w5 at *
    have H5 := Lib.hid hst.1
    have K5 : Hid (Kp B [72, TB] w w5) := K4.out.trans (hst.2.mono (.inr ⟨Nat.le_refl _, by simp⟩))
    clear hst d1 g1 H4 K4
    have d7 : w5.cell? ⟨b, 7, none⟩ = some (sv σ4.path) := (H5.out.blk.cell 7).trans (pcells_get ..).2.2.2.2.2.2.2
    have g7 := H5.out.blk.free 7
    unfold sv at d7
    go_upto_region 7 with (fail)
    have hst := path_step H5.out s.data.toList
    rw [show sv s.data.toList = .string s from rfl] at hst
    generalize World.setCell w5 _ _ = w6 at *
    have H6 := Lib.hid hst.1
    have K6 : Hid (Kp B [72, TB] w w6) := K5.out.trans (hst.2.mono (.inr ⟨Nat.le_refl _, by simp⟩))
    clear hst d7 g7 H5 K5
    have d7 : w6.cell? ⟨b, 7, none⟩ = some (sv s.data.toList) := (H6.out.blk.cell 7).trans (pcells_get ..).2.2.2.2.2.2.2
    have g7 := H6.out.blk.free 7
    have habv : Sl w6 B 72 2 (.slice (some ⟨ba, off, none⟩) (m + 1) cap) (ab ++ [(op, s.data.toList)]).length (opCells (ab ++ [(op, s.data.toList)])) := H6.out.above
    rw [show (ab ++ [(op, s.data.toList)]).length = m + 1 by rw [← HM.out]; simp] at habv
    have d1 : w6.cell? ⟨ba, off + m * 2, none⟩ = some (sv op) := by
      have := (habv.at (m * 2) (by omega)).1
      rw [this, opCells_append, List.getElem?_append_right (by rw [opCells_length, HM.out]; omega), opCells_length, HM.out]
      simp [opCells]
    unfold sv at d1 d7
    clear habv
    by_cases hde : op = []
    · subst hde
      go_wp2_with fail
      go_end0
      refine ⟨rfl, ?_, K6.out⟩
      rw [HF.out, show joinP [] s.data.toList = s.data.toList by rw [joinP, if_pos rfl]]
      exact ⟨_, _, _, _, H6.out⟩
    · have hb1 : (!op.isEmpty) = true := by cases op <;> simp at hde ⊢
      have hb2 : op.isEmpty = false := by cases op <;> simp at hde ⊢
      have HJ : Hid ((⟨op.toArray⟩ : ByteArray) ++ ⟨#[47]⟩ ++ s = ⟨(joinP op s.data.toList).toArray⟩) := by
        show _ = _
        rw [joinP, if_neg hde, show (⟨#[47]⟩ : ByteArray) = ⟨([47] : List UInt8).toArray⟩ from rfl, show s = ⟨s.data.toList.toArray⟩ from rfl, str_app, str_app, List.append_assoc, List.singleton_append]
      have hst := path_step H6.out (joinP op s.data.toList)
      have HST := Lib.hid hst
      clear hst
      go_wp2_with fail
      go_end0
      rw [show Value.string ((⟨op.toArray⟩ : ByteArray) ++ ⟨#[47]⟩ ++ s) = sv (joinP op s.data.toList) from congrArg Value.string HJ.out]
      refine ⟨rfl, ?_, K6.out.trans (HST.out.2.mono (.inr ⟨Nat.le_refl _, by simp⟩))⟩
      rw [HF.out]
      exact ⟨_, _, _, _, HST.out.1⟩)
end Go.Proofs.YtflkafnhhadphaaDoor
