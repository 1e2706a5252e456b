/- narkeep.Moved: the walk. -/
import Derived.Test.YtdkogijdfgfpeaaGreatDoorMMovP
import Derived.Test.YtdkogijdfgfpeaaGreatDoorMStoredP
import Derived.Test.YtdkogijdfgfpeaaGreatDoorMGet
import Derived.Test.YtdkogijdfgfpeaaGreatDoorMExpW
import Derived.Test.YtdkogijdfgfpeaaGreatDoorMIImpV
import Derived.Deep.RegionHeld3
set_option linter.unusedVariables false
namespace Go.Proofs.YtdkogijdfgfpeaaGreatDoor
open Go Go.RowKit
theorem reach_clos {L : Ents} {roots K K' : List (List UInt8)} (hok : StoreOk L) (h : ReachOf L roots K) (h' : ReachOf L roots K') : closL L K = closL L K' := by
 unfold closL
 refine closF_same (fun p => ?_) _ _
 rw [Bool.eq_iff_iff, List.contains_iff_mem, List.contains_iff_mem]
 have key : ∀ {A B : List (List UInt8)}, ReachOf L roots A → ReachOf L roots B → ∀ q ∈ A, q ∈ B := fun {A B} ha hb => ha.least (fun q => q ∈ B) (fun e he hp r hr => by
  obtain ⟨o, ho, hop, hr2⟩ := hb.keys e.path hp
  have := hok.uniq ho he hop
  subst this
  exact hr2 r hr) hb.has
 exact ⟨key h h' p, key h' h p⟩
theorem imp_first {L : Ents} {K : List (List UInt8)} {rk : List UInt8 → Nat} (hok : StoreOk L) :
 ∃ L', Moved0 (entsOf L (closL L K)) L' ∧ ∃ x, importL [] (expL (entsOf L (closL L K))) = .ok x ∧ commitL [] x.came = (L', closL L K) := by
 have hT := closL_told L K
 have hE := ExOk.told hok hT
 have hc : Comes (startX []) (entsOf L (closL L K)) := hE.comes (fun e _ o ho => by cases ho) (by
  have h1 : (entsOf L (closL L K)).countP (fun e => (findE [] e.path).isNone) ≤ (entsOf L (closL L K)).length := List.countP_le_length
  have h2 := entsOf_len L (closL L K)
  have h3 := clos_ten hok K
  simp only [List.length_nil]
  omega)
 obtain ⟨x, hx, h1, h2, h3⟩ := import_exp hc
 obtain ⟨hX, -, -⟩ := import_sound hx (by
  refine ⟨List.Pairwise.nil, by simp, ?_, ?_⟩ <;> (intro e he; cases he))
 obtain ⟨m1, m2⟩ := moved_start hX h1
 rw [h2] at m1 m2
 refine ⟨_, m1, x, hx, ?_⟩
 rw [h2]
 refine Prod.ext rfl ?_
 show (commitL [] _).2 = _
 rw [m2, entsOf_path (told_some hT)]
theorem imp_again {L L' : Ents} {K : List (List UInt8)} (hok : StoreOk L) (hm : Moved0 (entsOf L (closL L K)) L') :
 ∃ x, importL L' (expL (entsOf L (closL L K))) = .ok x ∧ commitL L' x.came = (L', []) := by
 have hT := closL_told L K
 have hE := ExOk.told hok hT
 have hf : ∀ e ∈ entsOf L (closL L K), findE L' e.path = some e := fun e he => findE_mem hm.ok ((hm.mem e).2 he)
 have hc : Comes (startX L') (entsOf L (closL L K)) := hE.comes (fun e he o ho => by
  rw [hf e he] at ho
  cases ho
  simp [sameE]) (by
  have h1 : (entsOf L (closL L K)).countP (fun e => (findE L' e.path).isNone) = 0 := List.countP_eq_zero.2 fun e he => by rw [hf e he]; simp
  have := hm.ok.ten
  omega)
 obtain ⟨x, hx, h1, h2, h3⟩ := import_exp hc
 refine ⟨x, hx, ?_⟩
 rw [h2]
 exact commit_old _ _ _ fun e he => by rw [hf e he]; rfl
theorem rd_one (w : World) (r : List UInt8) : Rd (w.alloc (.cells #[.string ⟨r.toArray⟩] 9)) 1 (.slice (some ⟨w.heap.size, 0, none⟩) 1 1) [r].length (svs [r]) :=
 (Sl.of_new w 0 (Nat.zero_le _) 9 1 1 [.string ⟨r.toArray⟩] rfl (by simp [maxLen])).rd
set_option maxHeartbeats 6400000 in
set_option maxRecDepth 100000 in
theorem moved_walk (s : ByteArray) (z z2 : Int) (W : World) (htab : Tabs W) (hs : s.size ≤ 140737488355328) (hz1 : -9223372036854775808 ≤ z) (hz2 : z ≤ 9223372036854775807) (hy1 : -9223372036854775808 ≤ z2) (hy2 : z2 ≤ 9223372036854775807) :
 Calls Tryz.prog 11 #[.string s, .int .i64 z, .int .i64 z2] W fun e w' => e = .returned (.bool true) ∧ Keeps Non W w' := by
 have HT := Lib.hid htab
 clear htab
 by_cases h16 : 16384 < s.size
 ·have d1 : decide ((16384 : Int) < (s.size : Int)) = true := by simp; omega
  go_enter Tryz.func11, Tryz.ntmps11
  go_wp2_with fail
  go_ret
  exact ⟨rfl, Keeps.refl _ _⟩
 ·have d1 : decide ((16384 : Int) < (s.size : Int)) = false := by simp; omega
  go_enter Tryz.func11, Tryz.ntmps11
  go_wp2_with fail
  refine (stored_any _ W (by rw [ByteArray.size_append]; show 2 + _ ≤ _; omega) (by rw [ByteArray.size_append]; show 2 ≤ 2 + _; omega) HT.out).mono ?_
  rintro e w1 ⟨n, xb, st, F, L, RR, vn, vr, xs, rfl, h0, hF, hS, -⟩
  have HF := Lib.hid hF
  have HW1 := Lib.hid hS.keeps
  have HBX := Lib.hid hS.box
  have HST := Lib.hid hS.store
  have hnl := namesOf_len n
  have hn10 := hF.ten
  obtain ⟨na, nc, rfl, hn1, hn2⟩ := hS.names.shape
  obtain ⟨ra, rc, rfl, hr1, hr2⟩ := hS.outer.shape
  have hnm := hS.names
  rw [hnl] at hnm hn1
  have HPK := Lib.hid (pick_any z n w1 hz1 hz2 (by omega) (by omega))
  obtain ⟨k, hk1, hk2⟩ := pick_range z n (by omega)
  rw [hk1] at HPK
  have hkn : k < n := by omega
  obtain ⟨b', o', c', hsh, -, -, -, hltb, hcc, -⟩ := hnm.pos (by omega)
  cases hsh
  have d0 : w1.cell? ⟨b', o' + k, none⟩ = some (.string ⟨(nm (fb k)).toArray⟩) := (hcc k (by omega)).trans (by simp [svs, namesOf_at hkn]; rfl)
  obtain ⟨root, hroot⟩ : ∃ root, nm (fb k) = root := ⟨_, rfl⟩
  rw [hroot] at d0
  have hrl : root.length = 3 := by rw [← hroot]; rfl
  have HRT : Hid (∃ e ∈ L, e.path = root) := by
   obtain ⟨e, he, hep, -⟩ := hF.back k hkn
   exact ⟨e, he, hep.trans hroot⟩
  have HRN : Hid (∀ r ∈ [root], findE L r ≠ none) := fun r hr hn => by
   obtain ⟨e, he, hep⟩ := HRT.out
   rw [List.mem_singleton.1 hr] at hn
   exact findE_none.1 hn e he hep
  have HRL : Hid (∀ r ∈ [root], r.length ≤ 1099511627776) := fun r hr => by rw [List.mem_singleton.1 hr, hrl]; decide
  have HLL : Hid (L.length = n) := hF.ll
  have cx := HBX.out.cell 0
  simp only [List.getElem?_toArray, List.getElem?_cons_zero] at cx
  unfold pv at cx
  rw [hnl]
  clear hF hS hnm hcc hk1 hz1 hz2 hroot
  unfold pv
  go_wp2_with fail
  refine HPK.out.mono ?_
  rintro e w2 ⟨rfl, rfl⟩
  clear HPK
  have e1 : (0 : Int) ≤ (k : Int) := by omega
  have e2 : (k : Int) < (n : Int) := by omega
  go_wp2_with fail
  refine (closure_any _ (HST.out.non ((Keeps.refl _ _).alloc _)) [root] _ (rd_one w1 root) (by simp) HRL.out).mono ?_
  rintro e w3 (⟨⟨r, hr, hrn⟩, -, -⟩ | ⟨-, K, v, hRO, rfl, hso, hk3⟩)
  ·exact absurd hrn (HRN.out r hr)
  have HK3 : Hid (Keeps Non w1 w3) := ((Keeps.refl _ _).alloc _).tn hk3
  have HRO := Lib.hid hRO
  obtain ⟨l, hl⟩ : ∃ l, closL L K = l := ⟨_, rfl⟩
  have hten := clos_ten HST.out.ok K
  have HTD := Lib.hid (closL_told L K)
  rw [hl] at hso hten HTD
  have HLQ := Lib.hid hl
  obtain ⟨oa, oc, rfl, ho1, ho2⟩ := hso.shape
  unfold maxLen at ho2
  have HSL := Lib.hid hso.rd
  have cx := (HBX.out.keeps HK3.out fun h => h).cell 0
  simp only [List.getElem?_toArray, List.getElem?_cons_zero] at cx
  unfold pv at cx
  clear hso hk3 hRO hl
  go_wp2_with fail
  refine (export_any _ ((HST.out.non HK3.out).non ((Keeps.refl _ _).alloc _)) [root] _ (rd_one w3 root) (by simp) HRL.out).mono ?_
  rintro e w4 ⟨E, T, hx, rfl, hk4⟩
  obtain ⟨rfl, hT⟩ : E = 0 ∧ T = expL (entsOf L l) := by
   rcases hx with ⟨⟨r, hr, hrn⟩, -, -⟩ | ⟨-, K2, hK2, rfl, rfl⟩
   ·exact absurd hrn (HRN.out r hr)
   ·exact ⟨rfl, by rw [reach_clos HST.out.ok hK2 HRO.out, HLQ.out]⟩
  have HK4 : Hid (Keeps Non w1 w4) := HK3.out.tn (((Keeps.refl _ _).alloc _).tn hk4)
  have HK34 : Hid (Keeps Non w3 w4) := ((Keeps.refl _ _).alloc _).tn hk4
  have hTl : T.length ≤ 320000 := by rw [hT, ← HLQ.out]; exact exp_len HST.out.ok (clos_ten HST.out.ok K)
  have HTT := Lib.hid hT
  clear hx hk4 hT cx
  go_wp2_with fail
  go_loopg [16, 17] T.length (fun gk ov tv wr => ∃ (t : ByteArray) (out : List (List UInt8)), gk = t.size ∧ t.size ≤ 320000 ∧ out.length + t.size ≤ 320000 ∧ tv = .string t ∧ Hid (Sl wr w4.heap.size 9 1 ov out.length (svs out)) ∧ Hid (Keeps Non w4 wr) ∧ Hid (out.flatten ++ t.data.toList = T))
  case atStart => exact ⟨⟨T.toArray⟩, [], by show _ = T.toArray.size; simp, by show T.toArray.size ≤ _; simpa using hTl, by show 0 + T.toArray.size ≤ _; simpa using hTl, rfl, Sl.nil _ _ _ _, Keeps.refl _ _, (by show _ = _; simp)⟩
  case round =>
   obtain ⟨t, out, rfl, htl, hot, rfl, HO, HK, HFL⟩ := hrel
   obtain ⟨ao, co, hsh, -, -⟩ := HO.out.shape
   subst hsh
   by_cases h0t : t.size = 0
   ·have hb : t.toList.isEmpty = true := by rw [ByteArray.toList_eq]; have := dlen t; rw [h0t] at this; rw [List.eq_nil_of_length_eq_zero this]; rfl
    have hb2 : (!t.toList.isEmpty) = false := by rw [hb]; rfl
    have HFT : Hid (out.flatten = T) := by
     have h1 := dlen t
     rw [h0t] at h1
     have h2 := HFL.out
     rwa [List.eq_nil_of_length_eq_zero h1, List.append_nil] at h2
    have HKR : Hid (Keeps Non w1 wr) := HK4.out.tn HK.out
    have HTW : Hid (Tabs wr) := HT.out.keeps (HW1.out.tn HKR.out)
    clear h0t HFL
    go_wp2_with fail
    refine (newStore_any wr HTW.out.top).mono ?_
    rintro e w6 ⟨yb, su, FY, rfl, hyl, hyb, hst6, hF1, hF2, hk6⟩
    have cy := hyb.cell 0
    simp only [List.getElem?_toArray, List.getElem?_cons_zero] at cy
    unfold pv at cy
    have HYB := Lib.hid hyb
    have HST6 := Lib.hid hst6
    have HK6 := Lib.hid hk6
    have HF1 := Lib.hid hF1
    have HF2 := Lib.hid hF2
    have HIM := Lib.hid (import_any w6 hst6 (HTW.out.keeps hk6) out _ (HO.out.rd.non hk6) (by rw [HFT.out]; omega) (by omega))
    clear hyb hst6 hk6 hF1 hF2 hyl
    unfold pv at HIM
    unfold pv
    go_wp2_with fail
    refine HIM.out.mono ?_
    intro e w7 hp
    obtain ⟨L', hM, x, hix, hcm⟩ := imp_first (K := K) (rk := fun _ => 0) HST.out.ok
    rw [HLQ.out] at hM hix hcm
    rw [← HTT.out] at hix
    unfold ImpPost at hp
    rw [HFT.out, hix] at hp
    obtain ⟨v7, rfl, hs7, ⟨FY2, hst7, hn7, hv7⟩, hk7⟩ := hp
    rw [hcm] at hs7 hst7
    obtain ⟨va, vc, rfl, hva1, hva2⟩ := hs7.shape
    simp only at hs7 hst7 hva1
    unfold maxLen at hva2
    have HM := Lib.hid hM
    have hll : L'.length = l.length := by
     rw [hM.len]
     have h1 := congrArg List.length (entsOf_path (told_some HTD.out))
     simpa using h1
    have HK3R : Hid (Keeps Non w3 wr) := HK34.out.tn HK.out
    have HK7 : Hid (Keeps Non wr w7) := HK6.out.trans hk7 fun j hj => .inr (HF1.out j hj)
    have HKR7 : Hid (Keeps Non w1 w7) := HKR.out.tn HK7.out
    have HYB7 := Lib.hid (HYB.out.keeps hk7 HF2.out)
    have HYF : Hid (¬ FY2 yb) := fun hk => by
     rcases hn7 yb hk with h1 | h1
     ·exact HF2.out h1
     ·have := HYB.out.lt
      omega
    have HF7 : Hid (∀ j, FY2 j → wr.heap.size ≤ j) := fun j hj => by
     rcases hn7 j hj with h1 | h1
     ·exact HF1.out j h1
     ·exact Nat.le_trans HK6.out.size h1.1
    have HS7 := Lib.hid hs7.rd
    have HST7 := Lib.hid hst7
    have cy := HYB7.out.cell 0
    simp only [List.getElem?_toArray, List.getElem?_cons_zero] at cy
    unfold pv at cy
    have HPA := Lib.hid (paths_any w7 hst7)
    unfold pv at HPA
    clear hM hix hcm hs7 hst7 hn7 hv7 hk7 HIM HST6 HYB HF2
    go_wp2_with fail
    refine HPA.out.mono ?_
    rintro e w8 ⟨v8, rfl, hs8, hk8⟩
    rw [hll] at hs8
    obtain ⟨pa, pc, rfl, -, -⟩ := hs8.shape
    have HK8 := Lib.hid (HKR7.out.tn hk8)
    have HK78 := Lib.hid hk8
    clear hs8 hk8 HPA cy
    go_wp2_with fail
    go_loopg [125] l.length (fun gk iv wq => ∃ j : Nat, gk = l.length - j ∧ j ≤ l.length ∧ iv = .int .i64 j ∧ Hid (Keeps Non w8 wq))
    case atStart => exact ⟨0, rfl, Nat.zero_le _, rfl, Keeps.refl _ _⟩
    case round =>
     obtain ⟨j, rfl, hj, rfl, HJ⟩ := hrel
     have HKJ := Lib.hid (HK8.out.tn HJ.out)
     have HK7J := Lib.hid (HK78.out.tn HJ.out)
     by_cases hjl : j < l.length
     ·obtain ⟨p, hp⟩ : ∃ p, l[j]? = some p := ⟨_, List.getElem?_eq_getElem hjl⟩
      obtain ⟨e, hel, hfe, hep⟩ := told_find HTD.out hp
      subst hep
      have hpe := (List.getElem?_eq_some_iff.1 hp).2
      have hfe2 : findE L' e.path = some e := findE_mem HM.out.ok ((HM.out.mem e).2 (List.mem_filterMap.2 ⟨e.path, List.mem_of_getElem? hp, hfe⟩))
      obtain ⟨b1, o1, c1', hsh, -, -, -, hlt1, hcc1, -⟩ := (HS7.out.non HK7J.out).pos (by omega)
      obtain ⟨rfl, rfl⟩ : va = some ⟨b1, o1, none⟩ ∧ vc = c1' := by cases hsh; exact ⟨rfl, rfl⟩
      clear hsh
      obtain ⟨b2, o2, c2', hsh, -, -, -, hlt2, hcc2, -⟩ := (HSL.out.non (HK3R.out.tn (HK7.out.tn HK7J.out))).pos (by omega)
      obtain ⟨rfl, rfl⟩ : oa = some ⟨b2, o2, none⟩ ∧ oc = c2' := by cases hsh; exact ⟨rfl, rfl⟩
      clear hsh
      have c0 : wr.cell? ⟨b1, o1 + j, none⟩ = some (.string ⟨e.path.toArray⟩) := (hcc1 j (by omega)).trans (by rw [svs_get _ _ hjl, hpe]; rfl)
      have d0 : wr.cell? ⟨b2, o2 + j, none⟩ = some (.string ⟨e.path.toArray⟩) := (hcc2 j (by omega)).trans (by rw [svs_get _ _ hjl, hpe]; rfl)
      have HSE : Hid (∀ wx, Keeps Non wr wx → Calls Tryz.prog 23 #[.pointer (some ⟨xb, 0, none⟩), .pointer (some ⟨yb, 0, none⟩), .string ⟨e.path.toArray⟩] wx fun ed w' => ed = .returned (.bool true) ∧ Keeps Non wx w') := fun wx hk =>
       sameEnt_any wx (HBX.out.keeps (HKJ.out.tn hk) fun h => h) (HST.out.non (HKJ.out.tn hk)) (HYB7.out.keeps (HK7J.out.tn hk) fun h => h) (HST7.out.non (HK7J.out.tn hk)) e hfe hfe2
      have HCC : Hid (∀ wx, Keeps Non wr wx → wx.cell? ⟨b1, o1 + j, none⟩ = some (.string ⟨e.path.toArray⟩) ∧ wx.cell? ⟨b2, o2 + j, none⟩ = some (.string ⟨e.path.toArray⟩)) := fun wx hk => by
       have hbl := hk.below (Nat.le_refl _) (fun _ _ h => h)
       exact ⟨(hbl.cell (p := ⟨b1, o1 + j, none⟩) hlt1).trans c0, (hbl.cell (p := ⟨b2, o2 + j, none⟩) hlt2).trans d0⟩
      have q2 : (0 : Int) ≤ (j : Int) := by omega
      have q3 : (j : Int) < (l.length : Int) := by omega
      clear hcc1 hcc2 hp hpe hfe hfe2 hel
      go_upto_region 24 with (fail)
      have hc : Keeps Non wr wr := Keeps.refl _ _
      go_cut [146] (fun v wx => v = .bool false ∧ Hid (Keeps Non wr wx))
      case first =>
       go_region_held3 (fun w' => w'.cell? ⟨b1, o1 + j, none⟩ = some (.string ⟨e.path.toArray⟩) ∧ w'.cell? ⟨b2, o2 + j, none⟩ = some (.string ⟨e.path.toArray⟩)) (with_reducible first | exact ⟨c0, d0⟩ | exact HCC.out _ hc | exact HCC.out _ hc.drew) (first
        | (go_at_call 23
           with_reducible refine (HSE.out _ hc.drew).mono ?_
           rintro e w' ⟨rfl, hk⟩
           replace hc := Keeps.tn hc.drew hk
           clear hk
           obtain ⟨c0, d0⟩ := HCC.out _ hc))
       all_goals (
        go_wp2_with fail
        go_meet
        exact ⟨rfl, by first | exact hc | exact hc.drew⟩)
      case rest =>
       obtain ⟨rfl, HC⟩ := hcut
       have HJ2 := Lib.hid (HJ.out.tn HC.out)
       go_wp2_with fail
       go_roundg (l.length - (j + 1))
       case measure => omega
       case rel => exact ⟨j + 1, rfl, by omega, by go_num, HJ2⟩
     ·have hj2 : l.length = j := by omega
      subst hj2
      have HYJ := Lib.hid (HYB7.out.keeps HK7J.out fun h => h)
      have HSJ := Lib.hid (HST7.out.non HK7J.out)
      have HTJ : Hid (Tabs wr) := HT.out.keeps (HW1.out.tn HKJ.out)
      have cy := HYJ.out.cell 0
      simp only [List.getElem?_toArray, List.getElem?_cons_zero] at cy
      unfold pv at cy
      have HIM := Lib.hid (import_any (wr.alloc (.cells #[.string ⟨T.toArray⟩] 9)) (HSJ.out.non ((Keeps.refl _ _).alloc _)) (HTJ.out.keeps ((Keeps.refl _ _).alloc _)) [T] _ (rd_one wr T) (by simp; omega) (by simp))
      unfold pv at HIM
      clear HST7 HYB7
      go_wp2_with fail
      refine HIM.out.mono ?_
      intro e w9 hp
      have hfl1 : [T].flatten = T := by simp
      obtain ⟨x2, hix2, hcm2⟩ := imp_again (K := K) HST.out.ok (L' := L') (by rw [HLQ.out]; exact HM.out)
      rw [HLQ.out, ← HTT.out] at hix2
      unfold ImpPost at hp
      rw [hfl1, hix2] at hp
      obtain ⟨v9, rfl, hs9, ⟨FY3, hst9, hn9, hv9⟩, hk9⟩ := hp
      rw [hcm2] at hs9 hst9
      obtain ⟨ua, uc, rfl, hu1, hu2⟩ := hs9.shape
      simp only [List.length_nil] at hs9 hst9 hu1
      unfold maxLen at hu2
      have HKJ9 : Hid (Keeps Non w1 w9) := by
       refine HKJ.out.trans (((Keeps.refl FY2 wr).alloc _).trans hk9 fun k hk => .inl hk) fun k hk => .inr ?_
       have h1 := HF7.out k hk
       have h2 := HKR.out.size
       omega
      have HY9 : Hid (Blk w9 yb #[pv su] 36) := ((HYJ.out.alloc _).keeps hk9 HYF.out)
      have HS9 := Lib.hid hst9
      have cy := HY9.out.cell 0
      simp only [List.getElem?_toArray, List.getElem?_cons_zero] at cy
      unfold pv at cy
      have HEX := Lib.hid (export_any (w9.alloc (.cells #[.string ⟨root.toArray⟩] 9)) (hst9.non ((Keeps.refl _ _).alloc _)) [root] _ (rd_one w9 root) (by simp) HRL.out)
      unfold pv at HEX
      have HRK : Hid (root ∈ l) := by
       have h1 := closL_all HF.out.acyc (all := K) HRO.out.keys root (HRO.out.has root (by simp))
       rw [HLQ.out] at h1
       exact h1
      clear hix2 hcm2 hs9 hst9 hn9 hv9 hk9 HIM HSJ HYJ
      simp only [List.length_nil]
      go_wp2_with fail
      refine HEX.out.mono ?_
      rintro e w10 ⟨E2, T2, hx2, rfl, hk10⟩
      obtain ⟨rfl, rfl⟩ : E2 = 0 ∧ T2 = T := by
       rcases hx2 with ⟨⟨r, hr, hrn⟩, -, -⟩ | ⟨-, K3, hK3, rfl, rfl⟩
       ·exfalso
        obtain ⟨e, he, hep⟩ := HRT.out
        have h1 : e ∈ entsOf L l := List.mem_filterMap.2 ⟨root, HRK.out, by rw [← hep]; exact findE_mem HST.out.ok he⟩
        rw [List.mem_singleton.1 hr] at hrn
        exact findE_none.1 hrn e ((HM.out.mem e).2 h1) hep
       ·refine ⟨rfl, ?_⟩
        have hm2 : Moved0 (entsOf L (closL L K)) L' := by rw [HLQ.out]; exact HM.out
        rw [moved_clos HST.out.ok HF.out.acyc HRO.out hm2 hK3, HLQ.out, HTT.out]
      have HK10 : Hid (Keeps Non w1 w10) := HKJ9.out.tn (((Keeps.refl _ _).alloc _).tn hk10)
      have cx := (HBX.out.keeps HK10.out fun h => h).cell 0
      simp only [List.getElem?_toArray, List.getElem?_cons_zero] at cx
      unfold pv at cx
      have HEX2 := Lib.hid (export_any (w10.alloc (.cells #[.string ⟨root.toArray⟩] 9)) ((HST.out.non HK10.out).non ((Keeps.refl _ _).alloc _)) [root] _ (rd_one w10 root) (by simp) HRL.out)
      unfold pv at HEX2
      clear hx2 hk10 HEX cy
      go_wp2_with fail
      refine HEX2.out.mono ?_
      rintro e w11 ⟨E3, T3, hx3, rfl, hk11⟩
      obtain ⟨rfl, rfl⟩ : E3 = 0 ∧ T3 = T2 := by
       rcases hx3 with ⟨⟨r, hr, hrn⟩, -, -⟩ | ⟨-, K3, hK3, rfl, rfl⟩
       ·exact absurd hrn (HRN.out r hr)
       ·exact ⟨rfl, by rw [reach_clos HST.out.ok hK3 HRO.out, HLQ.out, HTT.out]⟩
      have HK11 : Hid (Keeps Non w1 w11) := HK10.out.tn (((Keeps.refl _ _).alloc _).tn hk11)
      have cx := (HBX.out.keeps HK11.out fun h => h).cell 0
      simp only [List.getElem?_toArray, List.getElem?_cons_zero] at cx
      unfold pv at cx
      have HPX := Lib.hid (paths_any w11 (HST.out.non HK11.out))
      unfold pv at HPX
      clear hx3 hk11 HEX2
      go_wp2_with fail
      refine HPX.out.mono ?_
      rintro e w12 ⟨v12, rfl, hs12, hk12⟩
      rw [HLL.out] at hs12
      obtain ⟨qa, qc, rfl, -, -⟩ := hs12.shape
      have HK12 := Lib.hid (HW1.out.tn (HK11.out.tn hk12))
      clear hs12 hk12 HPX cx
      go_wp2_with fail
      go_ret
      exact ⟨rfl, HK12.out⟩
   ·have hb : t.toList.isEmpty = false := by
     rw [ByteArray.toList_eq]
     have := dlen t
     cases hc : t.data.toList with
     | nil => rw [hc] at this; simp at this; omega
     | cons x r => rfl
    have hb2 : (!t.toList.isEmpty) = true := by rw [hb]; rfl
    obtain ⟨p, hp1, hp2⟩ := pick_range z2 50 (by omega)
    have HPK := Lib.hid (pick_any z2 50 wr hy1 hy2 (by omega) (by omega))
    rw [hp1] at HPK
    have q1 : IntKind.i64.wrap (1 + (p : Int)) = 1 + (p : Int) := IntWalk.i64_in _ (by omega)
    clear hp1
    go_wp2_with fail
    refine HPK.out.mono ?_
    rintro e w5 ⟨rfl, rfl⟩
    clear HPK
    go_upto_region 15 with (fail)
    obtain ⟨m, hm⟩ : ∃ m : Nat, min (t.size : Int) (1 + (p : Int)) = (m : Int) := ⟨(min (t.size : Int) (1 + (p : Int))).toNat, by omega⟩
    have hm1 : 1 ≤ m := by omega
    have hm2 : m ≤ t.size := by omega
    rw [hm]
    clear hm
    obtain ⟨i0, hi, hi0, hi1, hi2⟩ := info_parts infoStr
    have hsl := HO.out
    have hsz := HK.out.size
    have e3 : (0 : Int) ≤ (m : Int) := by omega
    have e4 : (m : Int) ≤ (t.size : Int) := by omega
    go_wp2_with (at_builtin; refine wpList_append_own2 rfl _ _ 26 26 rfl 9 i0 _ 1 16 Tryz.underlying26 hi hi0 hi1 hi2 rfl w4.heap.size _ _ _ rfl _ rfl 1 (svs [(t.extract 0 m).data.toList]) ?c1 (hsl.alloc _) ?c2 ?c3 ?c4 ?_)
    case c1 => simp; omega
    case c2 => exact Src.ofSl Tryz.underlying26 (putArg wr 1 _ [(t.extract 0 m).data.toList] _ rfl rfl rfl (by simp)) (by intro u hu; simp only [svs, List.map, List.mem_cons, List.not_mem_nil, or_false] at hu; subst hu; rfl)
    case c3 => unfold maxLen; omega
    case c4 => omega
    intro a1 c1 w6 hs1 hk1 hkk1 hb1
    have HO1 : Hid (Sl w6 w4.heap.size 9 1 (.slice a1 (out.length + 1) c1) (out ++ [(t.extract 0 m).data.toList]).length (svs (out ++ [(t.extract 0 m).data.toList]))) := by
     show Sl _ _ _ _ _ _ _
     rw [List.length_append, show svs (out ++ [(t.extract 0 m).data.toList]) = svs out ++ svs [(t.extract 0 m).data.toList] by simp [svs], show (t.extract 0 m).data.toList = t.data.toList.take m by rw [ext_list, List.drop_zero, Nat.sub_zero]]
     exact hs1
    have HK1 : Hid (Keeps Non w4 w6) := HK.out.trans (S' := fun k => w4.heap.size ≤ k) (Keeps.of_below (B := w4.heap.size) ((((Kp.refl w4.heap.size [9] wr).alloc _).trans hk1).below hsz) (fun k hk hn => by omega)) (fun k hk => .inr hk)
    have HF1 : Hid ((out ++ [(t.extract 0 m).data.toList]).flatten ++ (t.extract m t.size).data.toList = T) := by
     show _ = _
     rw [← HFL.out, List.flatten_append, ext_list, ext_list]
     simp only [List.flatten_cons, List.flatten_nil, List.append_nil, List.drop_zero, Nat.sub_zero, List.append_assoc]
     rw [List.take_of_length_le (l := t.data.toList.drop m) (by rw [List.length_drop, dlen]; exact Nat.le_refl _), List.take_append_drop]
    have hszt : (t.extract m t.size).size = t.size - m := by rw [ByteArray.size_extract]; omega
    clear hs1 hk1 hkk1 hb1 hsl hi hi0 hi1 hi2
    go_wp2_with fail
    go_roundg ((t.extract m t.size).size)
    case measure => omega
    case rel => exact ⟨t.extract m t.size, _, rfl, by omega, by rw [List.length_append, List.length_singleton]; omega, rfl, HO1, HK1, HF1⟩
end Go.Proofs.YtdkogijdfgfpeaaGreatDoor
