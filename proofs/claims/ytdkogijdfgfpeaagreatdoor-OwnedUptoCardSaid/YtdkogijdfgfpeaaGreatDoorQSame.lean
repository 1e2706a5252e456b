/- The document's store: two entries compared; the paths; an entry. -/
import Derived.Test.YtdkogijdfgfpeaaGreatDoorChecked
import Derived.Test.YtdkogijdfgfpeaaGreatDoorQStore
import Derived.Test.YtdkogijdfgfpeaaGreatDoorStr
import Derived.Test.YtdkogijdfgfpeaaGreatDoorGet
namespace Go.Proofs.YtdkogijdfgfpeaaGreatDoor
open Go Go.RowKit
set_option linter.unusedVariables false

set_option maxHeartbeats 3200000 in
set_option maxRecDepth 100000 in
theorem rsame_any (w : World) (a b : Ent) (pa pb : ByteArray) (vta vra vtb vrb : Value) (ha : Rd w 3 vta a.tree.length (nodeCells a.tree)) (ha2 : Rd w 1 vra a.refs.length (svs a.refs)) (hb : Rd w 3 vtb b.tree.length (nodeCells b.tree)) (hb2 : Rd w 1 vrb b.refs.length (svs b.refs))
    (wa : wrongL a.tree = -1) (wb : wrongL b.tree = -1) (fa : EntFit a) (fb : EntFit b) :
    Calls Tryz.prog 99 #[.agg #[.string pa, vta, vra], .agg #[.string pb, vtb, vrb]] w fun e w' => e = .returned (.bool (sameE a b)) ∧ Keeps Non w w' := by
  obtain ⟨a1, c1, rfl, -, -⟩ := ha.shape
  obtain ⟨a2, c2, rfl, -, -⟩ := ha2.shape
  obtain ⟨a3, c3, rfl, -, -⟩ := hb.shape
  obtain ⟨a4, c4, rfl, -, -⟩ := hb2.shape
  have hk0 : Keeps Non w ((w.alloc (.cells #[.string pa, .slice a1 a.tree.length c1, .slice a2 a.refs.length c2] 165)).alloc (.cells #[.string pb, .slice a3 b.tree.length c3, .slice a4 b.refs.length c4] 165)) := ((Keeps.refl _ _).alloc _).alloc _
  have hba : Blk ((w.alloc (.cells #[.string pa, .slice a1 a.tree.length c1, .slice a2 a.refs.length c2] 165)).alloc (.cells #[.string pb, .slice a3 b.tree.length c3, .slice a4 b.refs.length c4] 165)) w.heap.size #[.string pa, .slice a1 a.tree.length c1, .slice a2 a.refs.length c2] 165 := (Blk.new _ _ _).alloc _
  have hbb : Blk ((w.alloc (.cells #[.string pa, .slice a1 a.tree.length c1, .slice a2 a.refs.length c2] 165)).alloc (.cells #[.string pb, .slice a3 b.tree.length c3, .slice a4 b.refs.length c4] 165)) (w.heap.size + 1) #[.string pb, .slice a3 b.tree.length c3, .slice a4 b.refs.length c4] 165 := by
    have h1 := Blk.new (w.alloc (.cells #[.string pa, .slice a1 a.tree.length c1, .slice a2 a.refs.length c2] 165)) #[.string pb, .slice a3 b.tree.length c3, .slice a4 b.refs.length c4] 165
    simpa using h1
  obtain ⟨W, hW⟩ : ∃ W, W = (w.alloc (.cells #[.string pa, .slice a1 a.tree.length c1, .slice a2 a.refs.length c2] 165)).alloc (.cells #[.string pb, .slice a3 b.tree.length c3, .slice a4 b.refs.length c4] 165) := ⟨_, rfl⟩
  obtain ⟨xa, hxa⟩ : ∃ xa, xa = w.heap.size := ⟨_, rfl⟩
  obtain ⟨xb, hxb⟩ : ∃ xb, xb = w.heap.size + 1 := ⟨_, rfl⟩
  rw [← hW] at hk0 hba hbb
  rw [← hxb] at hbb
  rw [← hxa] at hba
  have HK0 := Lib.hid hk0
  have HBA := Lib.hid hba
  have HBB := Lib.hid hbb
  have HPA : Hid (∀ wx, Keeps Non W wx → Calls Tryz.prog 105 #[.slice a1 a.tree.length c1] wx fun ed w' => ed = .returned (.string ⟨(packP a.tree).toArray⟩) ∧ Keeps Non wx w') := fun wx hk => rPack_any _ a.tree wx ((ha.non hk0).non hk) fa.nodes wa fa.pack
  have HPB : Hid (∀ wx, Keeps Non W wx → Calls Tryz.prog 105 #[.slice a3 b.tree.length c3] wx fun ed w' => ed = .returned (.string ⟨(packP b.tree).toArray⟩) ∧ Keeps Non wx w') := fun wx hk => rPack_any _ b.tree wx ((hb.non hk0).non hk) fb.nodes wb fb.pack
  have HTX : Hid (∀ wx, Keeps Non W wx → Calls Tryz.prog 125 #[.slice a2 a.refs.length c2, .slice a4 b.refs.length c4] wx fun ed w' => ed = .returned (.bool (a.refs == b.refs)) ∧ Keeps Non wx w') := fun wx hk => (rtext_any a.refs b.refs _ _ wx ((ha2.non hk0).non hk) ((hb2.non hk0).non hk)).mono (by rintro ed w' ⟨rfl, n, rfl⟩; exact ⟨rfl, (Keeps.refl _ _).drewN _⟩)
  clear ha ha2 hb hb2 wa wb fa fb
  unfold sameE
  generalize packP a.tree = x at *
  generalize packP b.tree = y at *
  go_enter Tryz.func99, Tryz.ntmps99
  go_upto_region 1 with (fail)
  rw [← hW, ← hxb, ← hxa]
  clear hW hxa hxb hk0 hba hbb
  have hc : Keeps Non W W := Keeps.refl _ _
  have q1 := HBA.out.cell 1
  have q2 := HBA.out.cell 2
  have r1 := HBB.out.cell 1
  have r2 := HBB.out.cell 2
  simp only [List.getElem?_toArray, List.getElem?_cons_zero, List.getElem?_cons_succ] at q1 q2 r1 r2
  by_cases hxy : x = y
  · have hd : (x == y) = true := by rw [hxy]; exact beq_self_eq_true _
    clear hxy
    go_region_with (first
      | (go_at_call 105; (first | (refine (HPA.out _ (by first | exact hc | exact hc.drew)).mono ?_) | (refine (HPB.out _ (by first | exact hc | exact hc.drew)).mono ?_)); rintro ed w' ⟨rfl, hk⟩; replace hc := Keeps.tn hc (by first | exact hk | exact hk.un); clear hk; have q1 := (HBA.out.keeps hc (fun h => h)).cell 1; have q2 := (HBA.out.keeps hc (fun h => h)).cell 2; have r1 := (HBB.out.keeps hc (fun h => h)).cell 1; have r2 := (HBB.out.keeps hc (fun h => h)).cell 2; simp only [List.getElem?_toArray, List.getElem?_cons_zero, List.getElem?_cons_succ] at q1 q2 r1 r2)
      | (go_at_call 125; refine (HTX.out _ (by first | exact hc | exact hc.drew)).mono ?_; rintro ed w' ⟨rfl, hk⟩; replace hc := Keeps.tn hc (by first | exact hk | exact hk.un); clear hk))
    all_goals (
      go_wp2_with fail
      go_ret
      refine ⟨bool_ret ?_, HK0.out.tn (by first | exact hc | exact hc.drew)⟩
      rw [hd, Bool.true_and])
  · have hd : (x == y) = false := by rw [beq_eq_false_iff_ne]; exact hxy
    clear hxy
    first
    | (go_region_with (first
        | (go_at_call 105; (first | (refine (HPA.out _ (by first | exact hc | exact hc.drew)).mono ?_) | (refine (HPB.out _ (by first | exact hc | exact hc.drew)).mono ?_)); rintro ed w' ⟨rfl, hk⟩; replace hc := Keeps.tn hc (by first | exact hk | exact hk.un); clear hk; have q1 := (HBA.out.keeps hc (fun h => h)).cell 1; have r1 := (HBB.out.keeps hc (fun h => h)).cell 1; simp only [List.getElem?_toArray, List.getElem?_cons_zero, List.getElem?_cons_succ] at q1 r1)))
    | fail
    all_goals (
      go_wp2_with fail
      go_ret
      refine ⟨bool_ret ?_, HK0.out.tn (by first | exact hc | exact hc.drew)⟩
      rw [hd, Bool.false_and])
end Go.Proofs.YtdkogijdfgfpeaaGreatDoor
