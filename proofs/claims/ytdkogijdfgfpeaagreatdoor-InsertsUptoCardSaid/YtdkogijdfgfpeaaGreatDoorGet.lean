/- (*Store).Get. -/
import Derived.Test.YtdkogijdfgfpeaaGreatDoorChecked
import Derived.Test.YtdkogijdfgfpeaaGreatDoorSMem
import Derived.Test.YtdkogijdfgfpeaaGreatDoorSum
namespace Go.Proofs.YtdkogijdfgfpeaaGreatDoor
open Go Go.RowKit
set_option linter.unusedVariables false

theorem Sl.non {w w' : World} {B : Nat} {E : TypeId} {size : Nat} {v : Value} {n : Nat} {xs : List Value} (h : Sl w B E size v n xs) (k : Keeps Non w w') : Sl w' B E size v n xs := h.keep fun _ _ _ _ hb => hb.keeps k fun h => h
theorem Keeps.un {S : Nat → Prop} {a w : World} (h : Keeps S a.drew w) : Keeps S a w := ⟨h.os, h.tape, h.output, h.size, h.block⟩
theorem Keeps.tn {a b c : World} (h : Keeps Non a b) (k : Keeps Non b c) : Keeps Non a c := h.trans k fun _ h => h.elim
theorem drew_drew (w : World) (n : Nat) : (w.drewN n).drew = w.drewN (n + 1) := rfl
theorem get_done {w W w' : World} {rb tl rl : Nat} {vt vr : Value} {xs ys : List Value} (HK0 : Keeps Non w W) (HB0 : Blk W rb #[.slice none 0 0, .slice none 0 0, .string ⟨#[]⟩] 52) (HRB : rb = w.heap.size) (hc : Keeps Non W w') (hn : Sl w' W.heap.size 49 3 vt tl xs) (hs : Sl w' W.heap.size 9 1 vr rl ys) (sum : ByteArray) :
    Blk (((w'.setCell ⟨rb, 0, none⟩ vt).setCell ⟨rb, 1, none⟩ vr).setCell ⟨rb, 2, none⟩ (.string sum)) rb #[vt, vr, .string sum] 52 ∧
      Sl (((w'.setCell ⟨rb, 0, none⟩ vt).setCell ⟨rb, 1, none⟩ vr).setCell ⟨rb, 2, none⟩ (.string sum)) w.heap.size 49 3 vt tl xs ∧ Sl (((w'.setCell ⟨rb, 0, none⟩ vt).setCell ⟨rb, 1, none⟩ vr).setCell ⟨rb, 2, none⟩ (.string sum)) w.heap.size 9 1 vr rl ys ∧
      Keeps Non w (((w'.setCell ⟨rb, 0, none⟩ vt).setCell ⟨rb, 1, none⟩ vr).setCell ⟨rb, 2, none⟩ (.string sum)) := by
  have hlt := HB0.lt
  have hge : w.heap.size ≤ rb := Nat.le_of_eq HRB.symm
  have hb := HB0.keeps hc fun h => h
  refine ⟨?_, ?_, ?_, ?_⟩
  · simpa using ((hb.set 0 vt).set 1 vr).set 2 (.string sum)
  · refine (hn.keep fun b c _ hB hbk => ?_).mono HK0.size
    have hne : b ≠ rb := by omega
    exact ((hbk.set_ne _ _ hne).set_ne _ _ hne).set_ne _ _ hne
  · refine (hs.keep fun b c _ hB hbk => ?_).mono HK0.size
    have hne : b ≠ rb := by omega
    exact ((hbk.set_ne _ _ hne).set_ne _ _ hne).set_ne _ _ hne
  · exact ((((HK0.tn hc).setCell _ _ (.inr hge)).setCell _ _ (.inr hge)).setCell _ _ (.inr hge))
/-- what Get tells -/
def GetPost (w : World) (L : Ents) (name : List UInt8) (ed : Ending) (w' : World) : Prop :=
  (findE L name = none ∧ ed = .returned (.tuple #[.agg #[.slice none 0 0, .slice none 0 0, .string ⟨#[]⟩], .int .i64 15]) ∧ Keeps Non w w') ∨
  ∃ e vt vr, findE L name = some e ∧ ed = .returned (.tuple #[.agg #[vt, vr, .string (sumOf (packP e.tree))], .int .i64 0]) ∧ Sl w' w.heap.size 49 3 vt e.tree.length (nodeCells e.tree) ∧ Sl w' w.heap.size 9 1 vr e.refs.length (svs e.refs) ∧ Keeps Non w w'
set_option maxHeartbeats 3200000 in
set_option maxRecDepth 100000 in
theorem get_any {F : Nat → Prop} {s : Nat} {L : Ents} (w : World) (h : StoreAt w F s L) (name : List UInt8) (hn : name.length ≤ 1099511627776) :
    Calls Tryz.prog 25 #[pv s, sv name] w (GetPost w L name) := by
  have HS := Lib.hid h
  have HTE : Hid (Tryz.prog.underlying 82 = some (.map 9 81)) := Tryz.underlying82
  clear h
  unfold pv sv
  go_enter Tryz.func25, Tryz.ntmps25
  go_upto_region 1 with (fail)
  have hk0 : Keeps Non w (w.alloc (.cells #[.slice none 0 0, .slice none 0 0, .string ⟨#[]⟩] 52)) := (Keeps.refl _ _).alloc _
  have hb0 := Blk.new w #[.slice none 0 0, .slice none 0 0, .string ⟨#[]⟩] 52
  obtain ⟨W, hW⟩ : ∃ W, W = w.alloc (.cells #[.slice none 0 0, .slice none 0 0, .string ⟨#[]⟩] 52) := ⟨_, rfl⟩
  obtain ⟨rb, hrb⟩ : ∃ rb, rb = w.heap.size := ⟨_, rfl⟩
  rw [← hW] at hk0 hb0
  rw [← hrb] at hb0
  rw [← hW, ← hrb]
  have HK0 := Lib.hid hk0
  have HB0 := Lib.hid hb0
  have HRB := Lib.hid hrb
  have HSW := Lib.hid (HS.out.non hk0)
  clear hW hrb hk0 hb0
  obtain ⟨mb, m, g1, g2, g3, g4, g5, g6⟩ := HSW.out.map
  have cs := g2.cell 0
  simp only [List.getElem?_toArray, List.getElem?_cons_zero] at cs
  have HMB := Lib.hid g3
  rcases StoreAt.look g3 g5 g6 name with ⟨hf, hg⟩ | ⟨e, q, hf, hel, hep, hg, hE⟩
  · have HVAL : Hid ((getM m name).getD (.pointer none) = .pointer none) := by show _ = _; rw [hg]; rfl
    have HFN := Lib.hid hf
    have r0 := HB0.out.cell 0
    have r1 := HB0.out.cell 1
    have r2 := HB0.out.cell 2
    have f0 := HB0.out.free 0
    have f1 := HB0.out.free 1
    have f2 := HB0.out.free 2
    simp only [List.getElem?_toArray, List.getElem?_cons_zero, List.getElem?_cons_succ] at r0 r1 r2
    clear hf hg g1 g2 g3 g4 g5 g6
    go_wp2_with (first | (at_lookup; refine wpl_look _ rfl _ _ _ rfl _ _ HTE.out Tryz.underlying9 (.pointer none) (Tryz.zeroValue81 _) mb m rfl HMB.out name rfl hn ?_; rw [HVAL.out]))
    have hb3 := ((HB0.out.set 0 (.slice none 0 0)).set 1 (.slice none 0 0)).set 2 (.string ⟨#[]⟩)
    have hk3 : Keeps Non w (((W.setCell ⟨rb, 0, none⟩ (.slice none 0 0)).setCell ⟨rb, 1, none⟩ (.slice none 0 0)).setCell ⟨rb, 2, none⟩ (.string ⟨#[]⟩)) := ((HK0.out.setCell _ _ (.inr (Nat.le_of_eq HRB.out.symm))).setCell _ _ (.inr (Nat.le_of_eq HRB.out.symm))).setCell _ _ (.inr (Nat.le_of_eq HRB.out.symm))
    generalize ((W.setCell ⟨rb, 0, none⟩ (.slice none 0 0)).setCell ⟨rb, 1, none⟩ (.slice none 0 0)).setCell ⟨rb, 2, none⟩ (.string ⟨#[]⟩) = w3 at *
    have t0 := hb3.cell 0
    have t1 := hb3.cell 1
    have t2 := hb3.cell 2
    simp at t0 t1 t2
    refine bodyPost_ret (v := .tuple #[.agg #[.slice none 0 0, .slice none 0 0, .string ⟨#[]⟩], .int .i64 15]) (by simp [results, Tryz.results25, go_sem, t0, t1, t2]) rfl ?_
    exact .inl ⟨HFN.out, rfl, hk3⟩
  · have HVAL : Hid ((getM m name).getD (.pointer none) = .pointer (some ⟨q, 0, none⟩)) := by show _ = _; rw [hg]; rfl
    have HFN := Lib.hid hf
    have HFIT := Lib.hid (HS.out.fit e hel)
    have HGOOD := Lib.hid (HS.out.ok.good e hel)
    obtain ⟨ho, vt, vr, h1, h2, h3, h4, h5⟩ := hE
    have HB := Lib.hid h1
    have HT := Lib.hid h2
    have HR := Lib.hid h3
    clear hf hg g1 g2 g3 g4 g5 g6 hel hep ho h1 h2 h3 h4 h5
    go_upto_region 4 with (first | (at_lookup; refine wpl_look _ rfl _ _ _ rfl _ _ HTE.out Tryz.underlying9 (.pointer none) (Tryz.zeroValue81 _) mb m rfl HMB.out name rfl hn ?_; rw [HVAL.out]))
    obtain ⟨va, vc, rfl, -, -⟩ := HT.out.shape
    obtain ⟨ua, uc, rfl, -, -⟩ := HR.out.shape
    have htl : e.tree.length ≤ 1099511627776 := by
      have h1 := HGOOD.out.2.1
      unfold wrongL at h1
      split at h1
      · cases h1
      · have := wrong_len e.tree 0 [] h1 (by omega)
        omega
    have HCN : Hid (∀ wx, Keeps Non W wx → Calls Tryz.prog 57 #[.slice va e.tree.length vc] wx fun ed w' => ∃ v', ed = .returned v' ∧ Sl w' W.heap.size 49 3 v' e.tree.length (nodeCells e.tree) ∧ Keeps Non wx w') := fun wx hk => (cloneN_any e.tree _ wx (HT.out.non hk) htl).mono (by rintro ed w' ⟨v', rfl, h1, h2⟩; exact ⟨v', rfl, h1.mono hk.size, h2⟩)
    have HCS : Hid (∀ wx, Keeps Non W wx → Calls Tryz.prog 58 #[.slice ua e.refs.length uc] wx fun ed w' => ∃ v', ed = .returned v' ∧ Sl w' W.heap.size 9 1 v' e.refs.length (svs e.refs) ∧ Keeps Non wx w') := fun wx hk => (cloneS_any e.refs _ wx (HR.out.non hk) HFIT.out.refs).mono (by rintro ed w' ⟨v', rfl, h1, h2⟩; exact ⟨v', rfl, h1.mono hk.size, h2⟩)
    have HSUM : Hid (∀ wx, Calls Tryz.prog 42 #[.string ⟨(packP e.tree).toArray⟩] wx fun ed w' => ed = .returned (.string (sumOf (packP e.tree))) ∧ Keeps Non wx w') := fun wx => (sum_any _ wx (by show (packP e.tree).toArray.size ≤ _; have := HFIT.out.pack; simp [maxLen]; omega))
    have q0 := HB.out.cell 0
    have q1 := HB.out.cell 1
    have q2 := HB.out.cell 2
    simp only [List.getElem?_toArray, List.getElem?_cons_zero, List.getElem?_cons_succ] at q0 q1 q2
    unfold sv at q0
    have hc : Keeps Non W W := Keeps.refl _ _
    go_region_with (first
      | (go_at_call 57; refine (HCN.out _ (by first | exact hc | exact hc.drew)).mono ?_; rintro ed w' ⟨v1, rfl, hn1, hk⟩; obtain ⟨na, nc, rfl, -, -⟩ := hn1.shape; (try replace hs1 := hs1.non (by first | exact hk | exact hk.un)); replace hc := Keeps.tn hc (by first | exact hk | exact hk.un); clear hk; have q0 := (HB.out.keeps hc (fun h => h)).cell 0; have q1 := (HB.out.keeps hc (fun h => h)).cell 1; have q2 := (HB.out.keeps hc (fun h => h)).cell 2; have hbb := HB0.out.keeps hc (fun h => h); have r0 := hbb.cell 0; have r1 := hbb.cell 1; have r2 := hbb.cell 2; have f0 := hbb.free 0; have f1 := hbb.free 1; have f2 := hbb.free 2; clear hbb; simp only [List.getElem?_toArray, List.getElem?_cons_zero, List.getElem?_cons_succ, sv] at q0 q1 q2 r0 r1 r2)
      | (go_at_call 58; refine (HCS.out _ (by first | exact hc | exact hc.drew)).mono ?_; rintro ed w' ⟨v1, rfl, hs1, hk⟩; obtain ⟨sa, sc, rfl, -, -⟩ := hs1.shape; (try replace hn1 := hn1.non (by first | exact hk | exact hk.un)); replace hc := Keeps.tn hc (by first | exact hk | exact hk.un); clear hk; have q0 := (HB.out.keeps hc (fun h => h)).cell 0; have q1 := (HB.out.keeps hc (fun h => h)).cell 1; have q2 := (HB.out.keeps hc (fun h => h)).cell 2; have hbb := HB0.out.keeps hc (fun h => h); have r0 := hbb.cell 0; have r1 := hbb.cell 1; have r2 := hbb.cell 2; have f0 := hbb.free 0; have f1 := hbb.free 1; have f2 := hbb.free 2; clear hbb; simp only [List.getElem?_toArray, List.getElem?_cons_zero, List.getElem?_cons_succ, sv] at q0 q1 q2 r0 r1 r2)
      | (go_at_call 42; refine (HSUM.out _).mono ?_; rintro ed w' ⟨rfl, hk⟩; (try replace hs1 := hs1.non (by first | exact hk | exact hk.un)); (try replace hn1 := hn1.non (by first | exact hk | exact hk.un)); replace hc := Keeps.tn hc (by first | exact hk | exact hk.un); clear hk; have q0 := (HB.out.keeps hc (fun h => h)).cell 0; have q1 := (HB.out.keeps hc (fun h => h)).cell 1; have q2 := (HB.out.keeps hc (fun h => h)).cell 2; have hbb := HB0.out.keeps hc (fun h => h); have r0 := hbb.cell 0; have r1 := hbb.cell 1; have r2 := hbb.cell 2; have f0 := hbb.free 0; have f1 := hbb.free 1; have f2 := hbb.free 2; clear hbb; simp only [List.getElem?_toArray, List.getElem?_cons_zero, List.getElem?_cons_succ, sv] at q0 q1 q2 r0 r1 r2))
    all_goals (
      obtain ⟨hb3, hn3, hs3, hk3⟩ := get_done HK0.out HB0.out HRB.out hc hn1 hs1 (sumOf (packP e.tree))
      generalize ((w'.setCell ⟨rb, 0, none⟩ (.slice na e.tree.length nc)).setCell ⟨rb, 1, none⟩ (.slice sa e.refs.length sc)).setCell ⟨rb, 2, none⟩ (.string (sumOf (packP e.tree))) = w3 at *
      have t0 := hb3.cell 0
      have t1 := hb3.cell 1
      have t2 := hb3.cell 2
      simp only [List.getElem?_toArray, List.getElem?_cons_zero, List.getElem?_cons_succ] at t0 t1 t2
      have HN3 := Lib.hid hn3
      have HS3 := Lib.hid hs3
      have HK3 := Lib.hid hk3
      clear hb3 hn3 hs3 hk3 hn1 hs1 hc q0 q1 q2 r0 r1 r2 f0 f1 f2
      go_wp2_with fail
      refine bodyPost_ret (v := .tuple #[.agg #[.slice na e.tree.length nc, .slice sa e.refs.length sc, .string (sumOf (packP e.tree))], .int .i64 0]) (by simp [results, Tryz.results25, go_sem, t0, t1, t2]) rfl ?_
      exact .inr ⟨e, _, _, HFN.out, rfl, HN3.out, HS3.out, HK3.out⟩)
end Go.Proofs.YtdkogijdfgfpeaaGreatDoor
