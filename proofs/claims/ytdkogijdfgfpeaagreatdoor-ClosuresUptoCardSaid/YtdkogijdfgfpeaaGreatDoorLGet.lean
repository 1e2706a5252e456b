/- (*narlaw.World).get: what Get tells on both sides, and what it gave. -/
import Derived.Test.YtdkogijdfgfpeaaGreatDoorChecked
import Derived.Test.YtdkogijdfgfpeaaGreatDoorBase
import Derived.Test.YtdkogijdfgfpeaaGreatDoorGet
import Derived.Test.YtdkogijdfgfpeaaGreatDoorQGet
namespace Go.Proofs.YtdkogijdfgfpeaaGreatDoor
open Go Go.RowKit
set_option linter.unusedVariables false

theorem getP {w w' : World} {L : Ents} {nm : List UInt8} {ed : Ending} (h : GetPost w L nm ed w') :
    ∃ (ta ra : Option Addr) (tc rc : Nat) (T : List Node) (R : List (List UInt8)) (sm : ByteArray) (er : Int), ed = .returned (.tuple #[.agg #[.slice ta T.length tc, .slice ra R.length rc, .string sm], .int .i64 er]) ∧
      Sl w' w.heap.size 49 3 (.slice ta T.length tc) T.length (nodeCells T) ∧ Sl w' w.heap.size 9 1 (.slice ra R.length rc) R.length (svs R) ∧ Keeps Non w w' ∧
      ((findE L nm = none ∧ T = [] ∧ R = [] ∧ sm = ⟨#[]⟩ ∧ er = 15) ∨ ∃ e, findE L nm = some e ∧ T = e.tree ∧ R = e.refs ∧ sm = sumOf (packP e.tree) ∧ er = 0) := by
  rcases h with ⟨hf, rfl, hk⟩ | ⟨e, vt, vr, hf, rfl, h1, h2, hk⟩
  · exact ⟨none, none, 0, 0, [], [], _, _, rfl, Sl.nil _ _ _ _, Sl.nil _ _ _ _, hk, .inl ⟨hf, rfl, rfl, rfl, rfl⟩⟩
  · obtain ⟨a1, c1, rfl, -, -⟩ := h1.shape
    obtain ⟨a2, c2, rfl, -, -⟩ := h2.shape
    exact ⟨a1, a2, c1, c2, _, _, _, _, rfl, h1, h2, hk, .inr ⟨e, hf, rfl, rfl, rfl, rfl⟩⟩
theorem qgetP {w w' : World} {L : Ents} {nm : List UInt8} {ed : Ending} (h : QGetPost w L nm ed w') :
    ∃ (ta ra : Option Addr) (tc rc : Nat) (T : List Node) (R : List (List UInt8)) (sm : ByteArray) (ok : Bool), ed = .returned (.tuple #[.agg #[.slice ta T.length tc, .slice ra R.length rc, .string sm], .bool ok]) ∧
      Rd w' 3 (.slice ta T.length tc) T.length (nodeCells T) ∧ Rd w' 1 (.slice ra R.length rc) R.length (svs R) ∧ Keeps Non w w' ∧
      ((findE L nm = none ∧ ok = false) ∨ ∃ e, findE L nm = some e ∧ T = e.tree ∧ R = e.refs ∧ sm = sumOf (packP e.tree) ∧ ok = true) := by
  rcases h with ⟨hf, rfl, hk⟩ | ⟨e, vt, vr, hf, rfl, h1, h2, hk⟩
  · exact ⟨none, none, 0, 0, [], [], _, _, rfl, (Sl.nil w' 0 49 3).rd, (Sl.nil w' 0 9 1).rd, hk, .inl ⟨hf, rfl⟩⟩
  · obtain ⟨a1, c1, rfl, -, -⟩ := h1.shape
    obtain ⟨a2, c2, rfl, -, -⟩ := h2.shape
    exact ⟨a1, a2, c1, c2, _, _, _, _, rfl, h1, h2, hk, .inr ⟨e, hf, rfl, rfl, rfl, rfl⟩⟩
theorem good_short {l : List Node} (h1 : wrongL l = -1) : l.length ≤ 1099511627776 := by
  unfold wrongL at h1
  split at h1
  · cases h1
  · have := wrong_len l 0 [] h1 (by omega)
    omega
abbrev TEn : TypeId := 52
set_option maxHeartbeats 3200000 in
set_option maxRecDepth 100000 in
theorem getl_any (X : List Part) (D : LD) (w : World) (p : Pr) (hp : p ∈ D.ps) (nm : List UInt8) (h : Parts (X ++ lawParts D) w) (hn : nm.length ≤ 1099511627776) (hnl : D.ls.length ≤ 1000000) (hnt : D.ts.length ≤ 1000000) :
    Calls Tryz.prog 64 #[pv D.b, .agg #[pv p.x, pv p.r], sv nm] w fun e w' => e = .returned (.bool true) ∧ ∃ D', D.Next D' ∧ Parts (X ++ lawParts D') w' := by
  obtain ⟨px, s, r, F, G, L⟩ := p
  obtain ⟨nb, hnb⟩ : ∃ nb, w.heap.size = nb := ⟨_, rfl⟩
  have HP1 : Hid (Parts (blkPart nb #[pv px, pv r] TPr :: (X ++ lawParts D)) (w.alloc (.cells #[pv px, pv r] TPr))) := by
    rw [← hnb]
    exact h.blk _ _
  clear h
  have HMEM : Hid ((⟨px, s, r, F, G, L⟩ : Pr) ∈ D.ps) := hp
  clear hp
  unfold pv sv at *
  go_enter Tryz.func64, Tryz.ntmps64
  go_upto_region 1 with (fail)
  generalize w.alloc (.cells #[.pointer (some ⟨px, 0, none⟩), .pointer (some ⟨r, 0, none⟩)] 132) = w1 at *
  clear hnb
  have hb1 : Blk w1 nb #[.pointer (some ⟨px, 0, none⟩), .pointer (some ⟨r, 0, none⟩)] TPr := HP1.out.head
  have b0 := hb1.cell 0
  have hpa := law_pr (X := blkPart nb _ TPr :: X) HP1.out HMEM.out
  have b1 := hpa.box.cell 0
  unfold pv at b1
  simp only [List.getElem?_toArray, List.getElem?_cons_zero] at b0 b1
  have HST := Lib.hid hpa.st
  have HFIT := Lib.hid hpa.st.fit
  have HOK := Lib.hid hpa.st.ok
  clear hb1 hpa
  go_wp2_with fail
  refine (get_any w1 HST.out nm hn).mono ?_
  rintro e w2 hg
  obtain ⟨ta, ra, tc, rc, T, R, sm, er, rfl, hT, hR, hk2, hcase⟩ := getP hg
  have HP2 : Hid (Parts (slPart TNd 3 (.slice ta T.length tc) T.length (nodeCells T) :: slPart TStr 1 (.slice ra R.length rc) R.length (svs R) :: ((blkPart nb #[.pointer (some ⟨px, 0, none⟩), .pointer (some ⟨r, 0, none⟩)] TPr :: X) ++ lawParts D)) w2) := HP1.out.two hk2 hT hR (by decide)
  have HCASE := Lib.hid hcase
  have HTL : Hid (T.length ≤ 1099511627776 ∧ R.length ≤ 1099511627776) := by
    show _ ∧ _
    rcases hcase with ⟨_, rfl, rfl, _, _⟩ | ⟨e, hf, rfl, rfl, _, _⟩
    · simp
    · have hel := (findE_some hf).1
      exact ⟨good_short (HOK.out.good e hel).2.1, (HFIT.out e hel).refs⟩
  clear hg hT hR hk2 hcase HST b0 b1 HP1
  go_upto_region 2 with (fail)
  have HP3 : Hid (Parts (blkPart w2.heap.size #[.slice ta T.length tc, .slice ra R.length rc, .string sm] TEn :: (slPart TNd 3 (.slice ta T.length tc) T.length (nodeCells T) :: slPart TStr 1 (.slice ra R.length rc) R.length (svs R) :: ((blkPart nb #[.pointer (some ⟨px, 0, none⟩), .pointer (some ⟨r, 0, none⟩)] TPr :: X) ++ lawParts D))) (w2.alloc (.cells #[.slice ta T.length tc, .slice ra R.length rc, .string sm] TEn))) := HP2.out.blk _ _
  generalize w2.heap.size = eb at *
  generalize w2.alloc (.cells #[.slice ta T.length tc, .slice ra R.length rc, .string sm] 52) = w3 at *
  clear HP2
  have hb3 : Blk w3 nb #[.pointer (some ⟨px, 0, none⟩), .pointer (some ⟨r, 0, none⟩)] TPr := HP3.out.all (blkPart nb _ TPr) (by simp)
  have b0 := hb3.cell 1
  simp only [List.getElem?_toArray, List.getElem?_cons_zero, List.getElem?_cons_succ] at b0
  have HRG : Hid (Calls Tryz.prog 101 #[pv r, .string ⟨nm.toArray⟩] w3 (QGetPost w3 L nm)) := by
    have hpa := law_pr (X := blkPart eb _ TEn :: slPart TNd _ _ _ _ :: slPart TStr _ _ _ _ :: blkPart nb _ TPr :: X) HP3.out HMEM.out
    exact rget_any w3 hpa.qt HOK.out HFIT.out ⟨nm.toArray⟩
  clear hb3
  go_wp2_with fail
  refine HRG.out.mono ?_
  rintro e w4 hq
  obtain ⟨ua, va, uc, vc, T2, R2, sm2, ok, rfl, hT2, hR2, hk4, hcase2⟩ := qgetP hq
  have HP4 := Lib.hid (HP3.out.non hk4)
  have HC : Hid ((T = [] ∧ R = [] ∧ sm = ⟨#[]⟩ ∧ er = 15 ∧ ok = false) ∨ (T = T2 ∧ R = R2 ∧ sm = sm2 ∧ er = 0 ∧ ok = true)) := by
    show _ ∨ _
    rcases HCASE.out with ⟨hf, rfl, rfl, rfl, rfl⟩ | ⟨e, hf, rfl, rfl, rfl, rfl⟩
    · rcases hcase2 with ⟨_, rfl⟩ | ⟨e, hf2, _⟩
      · exact .inl ⟨rfl, rfl, rfl, rfl, rfl⟩
      · rw [hf] at hf2; cases hf2
    · rcases hcase2 with ⟨hf2, _⟩ | ⟨e', hf2, rfl, rfl, rfl, rfl⟩
      · rw [hf] at hf2; cases hf2
      · rw [hf] at hf2
        cases hf2
        exact .inr ⟨rfl, rfl, rfl, rfl, rfl⟩
  have HT2 := Lib.hid hT2
  have HR2 := Lib.hid hR2
  clear hq hT2 hR2 hk4 hcase2 HRG b0 HCASE HP3
  go_upto_region 3 with (fail)
  have hkA : Keeps Non w4 (w4.alloc (.cells #[.slice ua T2.length uc, .slice va R2.length vc, .string sm2] 52)) := (Keeps.refl _ _).alloc _
  have hbA := Blk.new w4 #[.slice ua T2.length uc, .slice va R2.length vc, .string sm2] 52
  have HP5 := Lib.hid (HP4.out.non hkA)
  have HT5 := Lib.hid (HT2.out.non hkA)
  have HR5 := Lib.hid (HR2.out.non hkA)
  have HB5 := Lib.hid hbA
  generalize w4.heap.size = fb at *
  generalize w4.alloc (.cells #[.slice ua T2.length uc, .slice va R2.length vc, .string sm2] 52) = w5 at *
  clear hkA hbA HP4 HT2 HR2
  have hb5 : Blk w5 eb #[.slice ta T.length tc, .slice ra R.length rc, .string sm] TEn := HP5.out.head
  have e0 := hb5.cell 0
  have e1 := hb5.cell 1
  have e2 := hb5.cell 2
  simp only [List.getElem?_toArray, List.getElem?_cons_zero, List.getElem?_cons_succ] at e0 e1 e2
  clear hb5
  rcases HC.out with ⟨rfl, rfl, rfl, rfl, rfl⟩ | ⟨rfl, rfl, rfl, rfl, rfl⟩
  · simp only [List.length_nil] at e0 e1
    have HE : Hid (∀ (ta ra : Option Addr) (tc rc : Nat), (Value.slice ta ([] : List Node).length tc = .slice ta 0 tc) ∧ (Value.slice ra ([] : List (List UInt8)).length rc = .slice ra 0 rc)) := fun _ _ _ _ => ⟨rfl, rfl⟩
    clear HC HT5 HR5
    go_wp2_with fail
    refine (nodes_any (blkPart eb #[.slice ta 0 tc, .slice ra 0 rc, .string ⟨#[]⟩] TEn :: slPart TStr 1 (.slice ra 0 rc) 0 (svs []) :: blkPart nb #[.pointer (some ⟨px, 0, none⟩), .pointer (some ⟨r, 0, none⟩)] TPr :: X) D w5 (.slice ta 0 tc) [] (HP5.out.perm (List.Perm.swap ..)) (by simp) hnt).mono ?_
    rintro e w6 ⟨rfl, vts', v', hp6⟩
    have HP6 := Lib.hid hp6
    have hb6 : Blk w6 eb #[.slice ta 0 tc, .slice ra 0 rc, .string ⟨#[]⟩] TEn := HP6.out.head
    have e1 := hb6.cell 1
    simp only [List.getElem?_toArray, List.getElem?_cons_zero, List.getElem?_cons_succ] at e1
    clear hp6 hb6 e0 e2 HP5
    go_wp2_with fail
    refine (mine_any (blkPart eb #[.slice ta 0 tc, .slice ra 0 rc, .string ⟨#[]⟩] TEn :: blkPart nb #[.pointer (some ⟨px, 0, none⟩), .pointer (some ⟨r, 0, none⟩)] TPr :: X) _ w6 (.slice ra 0 rc) 0 (svs []) (HP6.out.perm (List.Perm.swap ..)) (by omega) hnl).mono ?_
    rintro e w7 ⟨rfl, vls', v2, hp7⟩
    have HP7 := Lib.hid hp7
    clear hp7 e1 HP6
    go_wp2_with fail
    go_ret
    exact ⟨rfl, _, LD.next_both D _ _ _ _ _ _, HP7.out.tail.tail⟩
  · have hb9 := HB5.out
    have f0 := hb9.cell 0
    have f1 := hb9.cell 1
    have f2 := hb9.cell 2
    simp only [List.getElem?_toArray, List.getElem?_cons_zero, List.getElem?_cons_succ] at f0 f1 f2
    clear HC hb9
    have HTA : Hid (Rd w5 3 (.slice ta T.length tc) T.length (nodeCells T)) := (show Sl w5 0 TNd 3 _ _ _ from HP5.out.tail.head).rd
    have HRA : Hid (Rd w5 1 (.slice ra R.length rc) R.length (svs R)) := (show Sl w5 0 TStr 1 _ _ _ from HP5.out.tail.tail.head).rd
    go_wp2_with fail
    refine (sameTree_any _ _ T w5 HTA.out HT5.out (by have := HTL.out.1; omega)).mono ?_
    rintro e w6 ⟨rfl, hk6⟩
    have HP6 := Lib.hid (HP5.out.non hk6)
    have HRB := Lib.hid (HRA.out.non hk6)
    have HRC := Lib.hid (HR5.out.non hk6)
    have hb6 : Blk w6 eb #[.slice ta T.length tc, .slice ra R.length rc, .string sm] TEn := HP6.out.head
    have hf6 := HB5.out.keeps hk6 fun h => h
    have e0 := hb6.cell 0
    have e1 := hb6.cell 1
    have f1 := hf6.cell 1
    simp only [List.getElem?_toArray, List.getElem?_cons_zero, List.getElem?_cons_succ] at e0 e1 f1
    clear hk6 hb6 hf6 e2 f0 f2 HP5 HT5 HR5 HTA HRA HB5
    go_wp2_with fail
    refine (ltext_any R R _ _ w6 HRB.out HRC.out).mono ?_
    rintro e w7 ⟨rfl, nd, rfl⟩
    have heq : (R == R) = true := beq_self_eq_true _
    rw [heq]
    have HP7 := Lib.hid (HP6.out.non ((Keeps.refl _ _).drewN nd))
    clear heq HP6 HRB HRC f1
    go_wp2_with fail
    refine (nodes_any (blkPart eb #[.slice ta T.length tc, .slice ra R.length rc, .string sm] TEn :: slPart TStr 1 (.slice ra R.length rc) R.length (svs R) :: blkPart nb #[.pointer (some ⟨px, 0, none⟩), .pointer (some ⟨r, 0, none⟩)] TPr :: X) D _ (.slice ta T.length tc) T (HP7.out.perm (List.Perm.swap ..)) HTL.out.1 hnt).mono ?_
    rintro e w8 ⟨rfl, vts', v', hp8⟩
    have HP8 := Lib.hid hp8
    have hb8 : Blk w8 eb #[.slice ta T.length tc, .slice ra R.length rc, .string sm] TEn := HP8.out.head
    have e1 := hb8.cell 1
    simp only [List.getElem?_toArray, List.getElem?_cons_zero, List.getElem?_cons_succ] at e1
    clear hp8 hb8 e0 HP7
    go_wp2_with fail
    refine (mine_any (blkPart eb #[.slice ta T.length tc, .slice ra R.length rc, .string sm] TEn :: blkPart nb #[.pointer (some ⟨px, 0, none⟩), .pointer (some ⟨r, 0, none⟩)] TPr :: X) _ w8 (.slice ra R.length rc) R.length (svs R) (HP8.out.perm (List.Perm.swap ..)) HTL.out.2 hnl).mono ?_
    rintro e w9 ⟨rfl, vls', v2, hp9⟩
    have HP9 := Lib.hid hp9
    clear hp9 e1 HP8
    go_wp2_with fail
    go_ret
    exact ⟨rfl, _, LD.next_both D _ _ _ _ _ _, HP9.out.tail.tail⟩
end Go.Proofs.YtdkogijdfgfpeaaGreatDoor
