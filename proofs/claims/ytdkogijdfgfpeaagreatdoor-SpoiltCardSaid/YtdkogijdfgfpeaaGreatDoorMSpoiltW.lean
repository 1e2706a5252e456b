/- narkeep.Spoilt: the walk. -/
import Derived.Test.YtdkogijdfgfpeaaGreatDoorMImpS
set_option linter.unusedVariables false
namespace Go.Proofs.YtdkogijdfgfpeaaGreatDoor
open Go Go.RowKit
set_option maxHeartbeats 6400000 in
set_option maxRecDepth 100000 in
theorem spoilt_walk (s : ByteArray) (z z2 : Int) (W : World) (htab : Tabs W) (hs : s.size ≤ 140737488355328) (hz1 : -9223372036854775808 ≤ z) (hz2 : z ≤ 9223372036854775807) (hy1 : -9223372036854775808 ≤ z2) (hy2 : z2 ≤ 9223372036854775807) :
 Calls Tryz.prog 12 #[.string s, .int .i64 z, .int .i64 z2] W fun e w' => e = .returned (.bool true) ∧ Keeps Non W w' := by
 have HT := Lib.hid htab
 clear htab
 by_cases h16 : 16384 < s.size
 ·have d1 : decide ((16384 : Int) < (s.size : Int)) = true := by simp; omega
  go_enter Tryz.func12, Tryz.ntmps12
  go_wp2_with fail
  go_ret
  exact ⟨rfl, Keeps.refl _ _⟩
 ·have d1 : decide ((16384 : Int) < (s.size : Int)) = false := by simp; omega
  have hcv := fun w s => run_bytes_of_string (P := Tryz.prog) w 9 45 5 s Tryz.underlying9 Tryz.underlying45 Tryz.underlying5
  go_enter Tryz.func12, Tryz.ntmps12
  go_wp2_with fail
  refine (stored_any _ W (by rw [ByteArray.size_append]; show 2 + _ ≤ _; omega) (by rw [ByteArray.size_append]; show 2 ≤ 2 + _; omega) HT.out).mono ?_
  rintro e w1 ⟨n, xb, st, F, L, RR, vn, vr, xs, rfl, h0, hF, hS, hTG⟩
  have HF := Lib.hid hF
  have HTG := Lib.hid hTG
  have HW1 := Lib.hid hS.keeps
  have HBX := Lib.hid hS.box
  have HST := Lib.hid hS.store
  have hnl := namesOf_len n
  have hn10 := hF.ten
  obtain ⟨na, nc, rfl, hn1, hn2⟩ := hS.names.shape
  obtain ⟨ra, rc, rfl, hr1, hr2⟩ := hS.outer.shape
  unfold maxLen at hn2
  have HNM : Hid (Rd w1 1 (.slice na n nc) (namesOf n).length (svs (namesOf n))) := by
   have h1 := hS.names.rd
   rw [hnl] at h1
   show Rd _ _ _ _ _
   rw [hnl]
   exact h1
  have HNS : Hid (∀ r ∈ namesOf n, findE L r ≠ none ∧ r.length = 3) := fun r hr => by
   obtain ⟨i, hi, rfl⟩ := namesOf_mem.1 hr
   obtain ⟨e, he, hep, -⟩ := hF.back i hi
   exact ⟨fun hn => findE_none.1 hn e he hep, rfl⟩
  have cx := HBX.out.cell 0
  simp only [List.getElem?_toArray, List.getElem?_cons_zero] at cx
  unfold pv at cx
  rw [hnl] at hn1 ⊢
  clear hF hS hTG
  unfold pv
  have HEX := Lib.hid (export_any w1 HST.out (namesOf n) _ HNM.out (by omega) (fun r hr => by have := (HNS.out r hr).2; omega))
  unfold pv at HEX
  go_wp2_with fail
  refine HEX.out.mono ?_
  rintro e w2 ⟨E, T, hx, rfl, hk2⟩
  obtain ⟨K, hK, rfl, hT⟩ : ∃ K, ReachOf L (namesOf n) K ∧ E = 0 ∧ T = expL (entsOf L (closL L K)) := by
   rcases hx with ⟨⟨r, hr, hrn⟩, -, -⟩ | ⟨-, K, hK, rfl, rfl⟩
   ·exact absurd hrn (HNS.out r hr).1
   ·exact ⟨K, hK, rfl, rfl⟩
  have HKR := Lib.hid hK
  have HTT := Lib.hid hT
  have HK2 := Lib.hid hk2
  have hTl : T.length ≤ 320000 := by rw [hT]; exact exp_len HST.out.ok (clos_ten HST.out.ok K)
  obtain ⟨e0, he0, hep0, -⟩ := HF.out.back 0 h0
  have HE0 : Hid (e0 ∈ L ∧ e0.path = nm (fb 0) ∧ e0.path ∈ closL L K) := by
   refine ⟨he0, hep0, ?_⟩
   refine closL_all HF.out.acyc (all := K) HKR.out.keys _ (HKR.out.has _ ?_)
   rw [hep0]
   exact namesOf_mem.2 ⟨0, h0, rfl⟩
  have hT32 : 32 < T.length := by
   rw [hT]
   refine expL_more fun hn => ?_
   have : e0 ∈ entsOf L (closL L K) := List.mem_filterMap.2 ⟨e0.path, HE0.out.2.2, findE_mem HST.out.ok he0⟩
   rw [hn] at this
   cases this
  have d3 : decide ((T.length : Int) < 16) = false := decide_eq_false (by omega)
  clear hx hK hT hk2 cx HEX he0 hep0
  go_upto_region 10 with (fail)
  obtain ⟨cp, hcp⟩ : ∃ cp, grownCap w2 T.length 0 5 = cp := ⟨_, rfl⟩
  have hfb : FBlk (w2.alloc (.cells (bytesRow ⟨T.toArray⟩ cp) 5 ((bytesRow ⟨T.toArray⟩ cp).size, (bytesRow ⟨T.toArray⟩ cp).size + 1))).drew w2.heap.size T := FBlk.new w2 T cp
  have hk3 : Keeps Non w2 (w2.alloc (.cells (bytesRow ⟨T.toArray⟩ cp) 5 ((bytesRow ⟨T.toArray⟩ cp).size, (bytesRow ⟨T.toArray⟩ cp).size + 1))).drew := ((Keeps.refl _ _).alloc _).drew
  rw [hcp]
  generalize (w2.alloc (.cells (bytesRow ⟨T.toArray⟩ cp) 5 ((bytesRow ⟨T.toArray⟩ cp).size, (bytesRow ⟨T.toArray⟩ cp).size + 1))).drew = w3 at *
  obtain ⟨tb, htb⟩ : ∃ tb, w2.heap.size = tb := ⟨_, rfl⟩
  rw [htb] at hfb
  rw [htb]
  have HTB := Lib.hid htb
  have HFB := Lib.hid hfb
  have HK3 := Lib.hid (HK2.out.tn hk3)
  have HK23 := Lib.hid hk3
  clear hcp hk3 htb
  obtain ⟨jj, hj1, hj2⟩ := pick_range z T.length (by omega)
  have hjj : jj < T.length := by omega
  have HPJ : Hid (∀ wx, Calls Tryz.prog 17 #[.int .i64 z, .int .i64 T.length] wx fun e w' => e = .returned (.int .i64 jj) ∧ wx = w') := fun wx => by
   have := pick_any z T.length wx hz1 hz2 (by omega) (by omega)
   rw [hj1] at this
   exact this
  obtain ⟨q, hq1, hq2⟩ := pick_range z2 255 (by omega)
  have HPQ : Hid (∀ wx, Calls Tryz.prog 17 #[.int .i64 z2, .int .i64 255] wx fun e w' => e = .returned (.int .i64 q) ∧ wx = w') := fun wx => by
   have := pick_any z2 255 wx hy1 hy2 (by omega) (by omega)
   rw [hq1] at this
   exact this
  have t0 : w3.cell? ⟨tb, jj, none⟩ = some (.int .u8 T[jj].toNat) := hfb.cell hjj
  have f0 : w3.frozen? ⟨tb, jj, none⟩ = false := hfb.free hjj
  obtain ⟨old, hold⟩ : ∃ old : Int, (T[jj].toNat : Int) = old := ⟨_, rfl⟩
  rw [hold] at t0
  have e1 : (0 : Int) ≤ (jj : Int) := by omega
  have e2 : (jj : Int) < (T.length : Int) := by omega
  have e3 : IntKind.i64.wrap (1 + (q : Int)) = 1 + (q : Int) := IntWalk.i64_in _ (by omega)
  obtain ⟨x, hx⟩ : ∃ x : UInt8, bits BinOp.xor IntKind.u8 old (IntKind.u8.wrap (1 + (q : Int))) = (x.toNat : Int) := u8_byte _
  have HXX := Lib.hid hx
  clear hj1 hj2 hq1 hold hx hfb
  go_cut [] (fun wx => Hid (FBlk wx tb (T.set jj x)) ∧ Hid (Keeps Non w2 wx))
  case first => as_aux_lemma =>
   go_region_with (first
    | (go_at_call 17
       with_reducible refine (HPJ.out _).mono ?_
       rintro e w4 ⟨rfl, rfl⟩)
    | (go_at_call 17
       with_reducible refine (HPQ.out _).mono ?_
       rintro e w4 ⟨rfl, rfl⟩))
   all_goals (
    rw [HXX.out]
    go_wp2_with fail
    go_meet
    exact ⟨HFB.out.set jj x, (HK23.out.setCell _ _ (.inr (Nat.le_of_eq HTB.out))).drew⟩)
  case rest => as_aux_lemma =>
   obtain ⟨HF4, HK24⟩ := hcut
   generalize wc = w4 at *
   have HK4 : Hid (Keeps Non w1 w4) := HK2.out.tn HK24.out
   have HTW : Hid (Tabs w4) := HT.out.keeps (HW1.out.tn HK4.out)
   obtain ⟨T2, hT2⟩ : ∃ T2, T.set jj x = T2 := ⟨_, rfl⟩
   rw [hT2] at HF4
   have hl2 : T2.length = T.length := by rw [← hT2, List.length_set]
   have HPJ0 := HPJ.out
   have HPJ0 := Lib.hid HPJ0
   clear t0 f0 hT2 HXX HPJ HPQ HFB HK3 HK23
   go_wp2_with fail
   refine (newStore_any w4 HTW.out.top).mono ?_
   rintro e w6 ⟨yb, su, FY, rfl, hyl, hyb, hst6, hF1, hF2, hk6⟩
   have cy := hyb.cell 0
   simp only [List.getElem?_toArray, List.getElem?_cons_zero] at cy
   unfold pv at cy
   have HYB := Lib.hid hyb
   have HST6 := Lib.hid hst6
   have HK6 := Lib.hid hk6
   have HFY := Lib.hid hF1
   have HFN := Lib.hid hF2
   have hf6 := HF4.out.keeps hk6 fun h => h
   have HF6 := Lib.hid hf6
   have hstr : (convert 45 9 (.slice (some ⟨tb, 0, none⟩) T.length cp)).run Tryz.prog w6.drew = .ok (.string ⟨T2.toArray⟩) w6.drew := by
    have h1 := (hf6.keeps ((Keeps.refl Non _).drew) fun h => h).str cp
    rw [hl2] at h1
    exact h1
   have HSTR : Hid (∀ wx, Keeps FY w6 wx → (convert 45 9 (.slice (some ⟨tb, 0, none⟩) T.length cp)).run Tryz.prog wx = .ok (.string ⟨T2.toArray⟩) wx) := fun wx hk => by
    have h1 := (hf6.keeps hk fun h => by
     have := HFY.out tb h
     have := HF4.out.lt
     omega).str cp
    rw [hl2] at h1
    exact h1
   have hq := HSTR.out w6 (Keeps.refl _ _)
   obtain ⟨OUT, er, at', L2, hres, hsum⟩ := spoilt_sum T2 (by omega)
   have HRES := Lib.hid hres
   have HCC : Hid (∀ wx, Keeps FY w6 wx → wx.cell? ⟨yb, 0, none⟩ = some (.pointer (some ⟨su, 0, none⟩))) := fun wx hk => by
    have h1 := (HYB.out.keeps hk HFN.out).cell 0
    simp only [List.getElem?_toArray, List.getElem?_cons_zero] at h1
    exact h1
   have HNF : Hid (∀ wx, Keeps Non w6 wx → Keeps FY w6 wx) := fun wx h => h.mono fun _ _ h => h.elim
   have hc : Keeps Non w6 w6 := Keeps.refl _ _
   have HIM : Hid (Calls Tryz.prog 21 #[.pointer (some ⟨su, 0, none⟩), .slice (some ⟨w6.heap.size, 0, none⟩) 1 1] (w6.alloc (.cells #[.string ⟨T2.toArray⟩] 9)).drew fun ed w' =>
    ∃ a c, ed = .returned (.tuple #[.slice a OUT.length c, .int .i64 er, .int .i64 at']) ∧ ImpV w6 FY su OUT L2 (.slice a OUT.length c) w') := by
    have hs0 : StoreAt (w6.alloc (.cells #[.string ⟨T2.toArray⟩] 9)).drew FY su [] := (HST6.out.non ((Keeps.refl _ _).alloc _)).non (Keeps.refl _ _).drew
    refine (import_any _ hs0 ((HTW.out.keeps HK6.out).keeps (((Keeps.refl _ _).alloc _).drew)) [T2] (.slice (some ⟨w6.heap.size, 0, none⟩) 1 1) ((rd_one w6 T2).non (Keeps.refl _ _).drew) (by simp; omega) (by simp)).mono fun ed w' hp => ?_
    have hfl1 : [T2].flatten = T2 := by simp
    rw [hfl1] at hp
    obtain ⟨a, c, h1, h2⟩ := hsum _ _ _ _ _ hs0 hp
    exact ⟨a, c, h1, h2.before ((Keeps.refl _ _).alloc _).drew⟩
   clear hyl hyb hst6 hF1 hF2 hk6 hf6 hres hsum
   unfold pv
   go_upto_region 12 with (fail)
   go_cut [15, 12, 16] (fun v ev av wx => ∃ a c, v = .slice a OUT.length c ∧ ev = .int .i64 er ∧ av = .int .i64 at' ∧ Hid (ImpV w6 FY su OUT L2 (.slice a OUT.length c) wx))
   case first => as_aux_lemma =>
    go_region_held3 (fun w' => w'.cell? ⟨yb, 0, none⟩ = some (.pointer (some ⟨su, 0, none⟩)) ∧ (convert 45 9 (.slice (some ⟨tb, 0, none⟩) T.length cp)).run Tryz.prog w' = .ok (.string ⟨T2.toArray⟩) w') (with_reducible first | exact ⟨cy, hq⟩ | exact ⟨HCC.out _ (HNF.out _ hc), HSTR.out _ (HNF.out _ hc)⟩ | exact ⟨HCC.out _ (HNF.out _ hc.drew), HSTR.out _ (HNF.out _ hc.drew)⟩ | exact ⟨HCC.out _ (HNF.out _ (hc.alloc _).drew), HSTR.out _ (HNF.out _ (hc.alloc _).drew)⟩) (first
     | (go_at_call 21
        with_reducible refine HIM.out.mono ?_
        rintro e w7 ⟨ia, ic, rfl, hiv⟩
        have HIV := Lib.hid hiv
        clear hiv
        have cy := HCC.out _ HIV.out.kp
        have hq := HSTR.out _ HIV.out.kp))
    all_goals (
     go_wp2_with fail
     go_meet
     exact ⟨_, _, rfl, rfl, rfl, by first | exact HIV | exact HIV.out.after (Keeps.refl _ _).drew⟩)
   case rest => as_aux_lemma =>
    obtain ⟨ia, ic, rfl, rfl, rfl, HIV⟩ := hcut
    generalize wc = w7 at *
    have cy := HCC.out w7 HIV.out.kp
    have HK47 : Hid (Keeps Non w4 w7) := HK6.out.trans HIV.out.kp fun j hj => .inr (HFY.out j hj)
    obtain ⟨F7, hst7, -, -⟩ := HIV.out.st
    have HST7 := Lib.hid hst7
    obtain ⟨a9, c9, e9, hic1, hic2⟩ := HIV.out.sl.shape
    cases e9
    unfold maxLen at hic2
    clear hst7 HIM HCC HNF hstr hq HSTR hc HF6 HYB HST6 HFN
    go_upto_if 81 with (fail)
    go_cut [] (fun wx => Hid (Keeps Non w4 wx))
    case first => as_aux_lemma =>
     by_cases he : er = 0
     ·subst he
      obtain ⟨g1, g2, g3, g10⟩ := HRES.out.good rfl
      have hol : OUT.length ≠ 0 := fun h => g1 (List.eq_nil_of_length_eq_zero h)
      have ho0 : ((OUT.length : Int) == 0) = false := by rw [beq_eq_false_iff_ne]; omega
      have hom : OUT.length ≤ 1099511627776 ∧ ∀ r ∈ OUT, r.length ≤ 1099511627776 := by
       refine ⟨?_, fun r hr => ?_⟩
       ·omega
       ·have := HST7.out.ok.pathLen (g2 r hr)
        omega
      have HEX := Lib.hid (export_any w7 HST7.out OUT _ HIV.out.sl.rd hom.1 hom.2)
      have HG3 := Lib.hid g3
      have HG2 := Lib.hid g2
      unfold pv at HEX
      clear g1 g2 g3 hom g10
      go_wp2_with fail
      refine HEX.out.mono ?_
      rintro e w8 ⟨E2, T3, hx2, rfl, hk8⟩
      obtain ⟨rfl, hT3⟩ : E2 = 0 ∧ T3.length = T.length := by
       rcases hx2 with ⟨⟨r, hr, hrn⟩, -, -⟩ | ⟨-, K3, hK3, rfl, rfl⟩
       ·have := HG2.out r hr
        rw [hrn] at this
        cases this
       ·exact ⟨rfl, by rw [HG3.out K3 hK3, hl2]⟩
      have HK8 : Hid (Keeps Non w4 w8) := HK47.out.tn hk8
      clear hx2 hk8 HEX cy
      go_wp2_with fail
      go_meet
      exact HK8
     ·obtain ⟨g1, g2, g3, g4⟩ := HRES.out.bad he
      have hb1 : (er == 0) = false := by rw [beq_eq_false_iff_ne]; exact he
      have hb2 : decide (at' < 0) = false := decide_eq_false (by omega)
      have hb3 : decide ((T.length : Int) < at') = false := decide_eq_false (by omega)
      subst g1 g2
      have HPA := Lib.hid (paths_any w7 HST7.out)
      unfold pv at HPA
      clear he g3 g4
      simp only [List.length_nil] at HPA ⊢
      go_wp2_with fail
      refine HPA.out.mono ?_
      rintro e w8 ⟨v8, rfl, hs8, hk8⟩
      obtain ⟨pa, pc, rfl, -, -⟩ := hs8.shape
      have HK8 : Hid (Keeps Non w4 w8) := HK47.out.tn hk8
      clear hs8 hk8 HPA cy
      go_wp2_with fail
      go_meet
      exact HK8
    case rest => as_aux_lemma =>
     have HK8 : Hid (Keeps Non w4 wc) := hcut
     generalize wc = w8 at *
     have HK18 : Hid (Keeps Non w1 w8) := HK4.out.tn HK8.out
     have HT8 : Hid (Tabs w8) := HT.out.keeps (HW1.out.tn HK18.out)
     clear cy HST7 HIV HK47 HF4 HK24 HTW HRES HFY HK6 HTB
     go_wp2_with fail
     refine (newStore_any w8 HT8.out.top).mono ?_
     rintro e w9 ⟨zb, sz, FZ, rfl, hzl, hzb, hst9, hF1, hF2, hk9⟩
     have cz := hzb.cell 0
     simp only [List.getElem?_toArray, List.getElem?_cons_zero] at cz
     unfold pv at cz
     have HZB := Lib.hid hzb
     have HST9 := Lib.hid hst9
     have HK9 := Lib.hid hk9
     have HFZ := Lib.hid hF1
     have HFZN := Lib.hid hF2
     clear hzl hzb hst9 hF1 hF2 hk9
     have HPJ : Hid (∀ wx, Calls Tryz.prog 17 #[.int .i64 z, .int .i64 T.length] wx fun e w' => e = .returned (.int .i64 jj) ∧ wx = w') := HPJ0
     have HCZ : Hid (∀ wx, Keeps Non w9 wx → wx.cell? ⟨zb, 0, none⟩ = some (.pointer (some ⟨sz, 0, none⟩))) := fun wx hk => by
      have h1 := (HZB.out.keeps hk fun h => h).cell 0
      simp only [List.getElem?_toArray, List.getElem?_cons_zero] at h1
      exact h1
     have e2' : (jj : Int) ≤ (T.length : Int) := by omega
     have HIM : Hid (Calls Tryz.prog 21 #[.pointer (some ⟨sz, 0, none⟩), .slice (some ⟨w9.heap.size, 0, none⟩) 1 1] (w9.alloc (.cells #[.string ((⟨T.toArray⟩ : ByteArray).extract 0 jj)] 9)).drew fun ed w' =>
      ed = .returned (.tuple #[.slice none 0 0, .int .i64 2, .int .i64 jj]) ∧ Keeps Non w9 w') := by
      have hex : (⟨T.toArray⟩ : ByteArray).extract 0 jj = ⟨(T.take jj).toArray⟩ := by
       apply ByteArray.ext
       apply Array.ext'
       rw [ext_list]
       simp
      rw [hex]
      have hs0 : StoreAt (w9.alloc (.cells #[.string ⟨(T.take jj).toArray⟩] 9)).drew FZ sz [] := (HST9.out.non ((Keeps.refl _ _).alloc _)).non (Keeps.refl _ _).drew
      refine (import_any _ hs0 ((HT8.out.keeps HK9.out).keeps (((Keeps.refl _ _).alloc _).drew)) [T.take jj] (.slice (some ⟨w9.heap.size, 0, none⟩) 1 1) ((rd_one w9 (T.take jj)).non (Keeps.refl _ _).drew) (by simp; omega) (by simp)).mono fun ed w' hp => ?_
      have hfl1 : [T.take jj].flatten = T.take jj := by simp
      rw [hfl1] at hp
      have hsh := spoilt_short (K := K) HST.out.ok (k := jj) (by rw [← HTT.out]; exact hjj)
      rw [← HTT.out] at hsh
      unfold ImpPost at hp
      rw [hsh] at hp
      exact ⟨hp.1, (((Keeps.refl _ _).alloc _).drew).tn hp.2⟩
     have hc : Keeps Non w9 w9 := Keeps.refl _ _
     unfold pv
     go_upto_region 20 with (fail)
     go_cut [20, 12, 16] (fun v ev av wx => v = .slice none 0 0 ∧ ev = .int .i64 2 ∧ av = .int .i64 jj ∧ Hid (Keeps Non w9 wx))
     case first => as_aux_lemma =>
      go_region_held3 (fun w' => w'.cell? ⟨zb, 0, none⟩ = some (.pointer (some ⟨sz, 0, none⟩))) (with_reducible first | exact cz | exact HCZ.out _ hc | exact HCZ.out _ hc.drew | exact HCZ.out _ (hc.alloc _).drew) (first
       | (go_at_call 17
          with_reducible refine (HPJ.out _).mono ?_
          rintro e w10 ⟨rfl, rfl⟩)
       | (go_at_call 21
          with_reducible refine HIM.out.mono ?_
          rintro e w10 ⟨rfl, hk10⟩
          have hc : Keeps Non w9 w10 := hk10
          have cz := HCZ.out _ hc))
      all_goals (
       go_wp2_with fail
       go_meet
       exact ⟨rfl, rfl, rfl, by first | exact hc | exact hc.drew⟩)
     case rest => as_aux_lemma =>
      obtain ⟨rfl, rfl, rfl, HK10⟩ := hcut
      generalize wc = w10 at *
      have HST10 := Lib.hid (HST9.out.non HK10.out)
      have cz := HCZ.out w10 HK10.out
      have HPA := Lib.hid (paths_any w10 HST10.out)
      unfold pv at HPA
      clear HIM
      simp only [List.length_nil] at HPA ⊢
      go_wp2_with fail
      refine (HPJ.out _).mono ?_
      rintro e w11 ⟨rfl, rfl⟩
      go_wp2_with fail
      refine HPA.out.mono ?_
      rintro e w12 ⟨v12, rfl, hs12, hk12⟩
      obtain ⟨pa, pc, rfl, -, -⟩ := hs12.shape
      have HK12 := Lib.hid (HK10.out.tn hk12)
      have HST12 := Lib.hid (HST10.out.non hk12)
      have cz := HCZ.out w12 HK12.out
      clear hs12 hk12 HPA HST10 HK10
      go_upto_region 23 with (fail)
      have HK112 : Hid (Keeps Non w1 w12) := HK18.out.tn (HK9.out.tn HK12.out)
      obtain ⟨nb, no, nc', hsh, -, -, -, hltn, hccn, -⟩ := HNM.out.pos (by rw [namesOf_len]; omega)
      obtain ⟨rfl, rfl⟩ : na = some ⟨nb, no, none⟩ ∧ nc = nc' := by injection hsh with g1 g2 g3; exact ⟨g1, g3⟩
      clear hsh
      have HCN : Hid (∀ wx, Keeps FZ w12 wx → wx.cell? ⟨nb, no, none⟩ = some (.string ⟨(nm (fb 0)).toArray⟩)) := fun wx hk => by
       have hb1 : Below w1.heap.size w12 wx := hk.below HK112.out.size fun k hk h => by
        have := HFZ.out k h
        have := HK18.out.size
        omega
       have hb2 : Below w1.heap.size w1 w12 := HK112.out.below (Nat.le_refl _) fun _ _ h => h
       exact (hb1.cell (p := ⟨nb, no, none⟩) hltn).trans ((hb2.cell (p := ⟨nb, no, none⟩) hltn).trans ((hccn 0 (by rw [namesOf_len]; omega)).trans (by simp [svs, namesOf_at h0]; rfl)))
      have d0 := HCN.out w12 (Keeps.refl _ _)
      have HCC : Hid (∀ wx, Keeps FZ w12 wx → wx.cell? ⟨zb, 0, none⟩ = some (.pointer (some ⟨sz, 0, none⟩))) := fun wx hk => by
       have h1 := (((HZB.out.keeps HK12.out fun h => h).keeps hk HFZN.out)).cell 0
       simp only [List.getElem?_toArray, List.getElem?_cons_zero] at h1
       exact h1
      have HIN : Hid (Calls Tryz.prog 24 #[.pointer (some ⟨sz, 0, none⟩), .string ⟨(nm (fb 0)).toArray⟩, .slice (some ⟨w12.heap.size, 0, none⟩) 1 1, .slice none 0 0] (w12.alloc (.cells #[.string ⟨#[]⟩, .int .i64 1, .string anA] 49)).drew fun ed w' =>
       ed = .returned (.int .i64 0) ∧ (∃ F', StoreAt w' F' sz [anE] ∧ (∀ k, F' k → FZ k ∨ (w12.heap.size ≤ k ∧ k < w'.heap.size))) ∧ Keeps FZ w12 w') := by
       have hs0 : StoreAt (w12.alloc (.cells #[.string ⟨#[]⟩, .int .i64 1, .string anA] 49)).drew FZ sz [] := (HST12.out.non ((Keeps.refl _ _).alloc _)).non (Keeps.refl _ _).drew
       refine (insert_any _ hs0 ((HT8.out.keeps (HK9.out.tn HK12.out)).keeps (((Keeps.refl _ _).alloc _).drew)) ⟨(nm (fb 0)).toArray⟩ (by decide) [anN] (.slice (some ⟨w12.heap.size, 0, none⟩) 1 1)
        ((Sl.of_new w12 0 (Nat.zero_le _) 49 3 1 _ rfl (by simp [maxLen])).rd.non (Keeps.refl _ _).drew) an_small (by decide) [] (.slice none 0 0) (Sl.nil _ 0 9 1).rd (by simp) (by simp)).mono fun ed w' hp => ?_
       obtain ⟨h1, ⟨F', h2, h3⟩, h4⟩ := hp
       have han : insE [] (⟨(nm (fb 0)).toArray⟩ : ByteArray).data.toList [anN] [] = (0, [anE]) := an_ins
       rw [han] at h1 h2
       refine ⟨h1, ⟨F', h2, fun k hk => ?_⟩, (((Keeps.refl FZ w12).alloc _).drew).trans h4 fun _ h => .inl h⟩
       exact (h3 k hk).imp id fun h => ⟨Nat.le_trans (((Keeps.refl Non w12).alloc _).drew).size h.1, h.2⟩
      have hc : Keeps FZ w12 w12 := Keeps.refl _ _
      clear hccn
      go_cut [178] (fun bv wx => bv = .bool false ∧ Hid (∃ F', StoreAt wx F' sz [anE] ∧ (∀ k, F' k → FZ k ∨ (w12.heap.size ≤ k ∧ k < wx.heap.size))) ∧ Hid (Keeps FZ w12 wx))
      case first => as_aux_lemma =>
       go_region_held3 (fun w' => w'.cell? ⟨zb, 0, none⟩ = some (.pointer (some ⟨sz, 0, none⟩)) ∧ w'.cell? ⟨nb, no, none⟩ = some (.string ⟨(nm (fb 0)).toArray⟩)) (with_reducible first | exact ⟨cz, d0⟩ | exact ⟨HCC.out _ hc, HCN.out _ hc⟩ | exact ⟨HCC.out _ hc.drew, HCN.out _ hc.drew⟩ | exact ⟨HCC.out _ (hc.alloc _).drew, HCN.out _ (hc.alloc _).drew⟩) (first
        | (go_at_call 24
           with_reducible refine HIN.out.mono ?_
           rintro e w13 ⟨rfl, hiv, hkv⟩
           replace hc := hkv
           have HIV := Lib.hid hiv
           have cz := HCC.out _ hkv
           have d0 := HCN.out _ hkv
           clear hiv hkv))
       all_goals (
        go_wp2_with fail
        go_meet
        exact ⟨rfl, HIV.out, by first | exact hc | exact hc.drew⟩)
      case rest => as_aux_lemma =>
       obtain ⟨rfl, HIV, HK13⟩ := hcut
       generalize wc = w13 at *
       obtain ⟨FN, hst13, hfn⟩ := HIV.out
       have HST13 := Lib.hid hst13
       have HT12 : Hid (Tabs w12) := HT8.out.keeps (HK9.out.tn HK12.out)
       have HT13 : Hid (Tabs w13) := HT12.out.below (HK13.out.below HT12.out.top fun k hk h => by
        have := HFZ.out k h
        have := HT8.out.top
        omega) (Nat.le_refl _)
       have HZ13 : Hid (Blk w13 zb #[pv sz] 36) := (HZB.out.keeps HK12.out fun h => h).keeps HK13.out HFZN.out
       have HHAS : Hid (∃ p : Nat, importL [anE] T = .error (12, (p : Int))) := by
        have h1 := an_has (K := K) HST.out.ok HE0.out.1 HE0.out.2.1 HE0.out.2.2 (HTG.out e0 HE0.out.1)
        rw [← HTT.out] at h1
        exact h1
       have HN13 : Hid (w13.cell? ⟨nb, no, none⟩ = some (.string ⟨(nm (fb 0)).toArray⟩)) := HCN.out _ HK13.out
       have HNB : Hid (nb < w13.heap.size) := Nat.lt_of_lt_of_le hltn (Nat.le_trans HK112.out.size HK13.out.size)
       have HK13W : Hid (Keeps Non w1 w13) := HK112.out.trans HK13.out fun k h => .inr (Nat.le_trans HK18.out.size (HFZ.out k h))
       have cz := HCC.out w13 HK13.out
       obtain ⟨pp, hpp⟩ := HHAS.out
       have HPP := Lib.hid hpp
       clear hst13 hfn HIN HCC HCN hpp HIV HHAS
       clear d0 hc
       go_wp2_with fail
       refine (import_any _ (HST13.out.non ((Keeps.refl _ _).alloc _)) (HT13.out.keeps ((Keeps.refl _ _).alloc _)) [T] _ (rd_one w13 T) (by simp; omega) (by simp)).mono ?_
       intro e w14 hp
       have hfl1 : [T].flatten = T := by simp
       unfold ImpPost at hp
       rw [hfl1, HPP.out] at hp
       obtain ⟨rfl, hk14⟩ := hp
       have HK14 : Hid (Keeps Non w13 w14) := ((Keeps.refl _ _).alloc _).tn hk14
       have HST14 := Lib.hid (HST13.out.non HK14.out)
       have HCC2 : Hid (∀ wx, Keeps Non w14 wx → wx.cell? ⟨zb, 0, none⟩ = some (.pointer (some ⟨sz, 0, none⟩)) ∧ wx.cell? ⟨nb, no, none⟩ = some (.string ⟨(nm (fb 0)).toArray⟩)) := fun wx hk => by
        have h1 := (HZ13.out.keeps (HK14.out.tn hk) fun h => h).cell 0
        simp only [List.getElem?_toArray, List.getElem?_cons_zero] at h1
        exact ⟨h1, (((HK14.out.tn hk).below (Nat.le_refl _) (fun _ _ h => h)).cell (p := ⟨nb, no, none⟩) HNB.out).trans HN13.out⟩
       have HGE : Hid (∀ wx, Keeps Non w14 wx → Calls Tryz.prog 25 #[.pointer (some ⟨sz, 0, none⟩), .string ⟨(nm (fb 0)).toArray⟩] wx fun ed w' =>
        ∃ ta tc qa qc SU, ed = .returned (.tuple #[.agg #[.slice ta 1 tc, .slice qa 0 qc, .string SU], .int .i64 0]) ∧ Sl w' wx.heap.size 49 3 (.slice ta 1 tc) 1 (nodeCells [anN]) ∧ Keeps Non wx w') := fun wx hk => by
        refine (get_any wx (HST14.out.non hk) (nm (fb 0)) (by decide)).mono ?_
        have hf : findE [anE] (nm (fb 0)) = some anE := by simp [findE, anE]
        rintro ed w' (⟨hn, -, -⟩ | ⟨e1, vt, vr, hf2, rfl, ht3, hr3, hk3⟩)
        ·rw [hf] at hn; cases hn
        rw [hf] at hf2
        cases hf2
        obtain ⟨ta, tc, rfl, -, -⟩ := ht3.shape
        obtain ⟨qa, qc, rfl, -, -⟩ := hr3.shape
        exact ⟨ta, tc, qa, qc, _, rfl, ht3, hk3⟩
       clear hk14 cz
       have hc : Keeps Non w14 w14 := Keeps.refl _ _
       obtain ⟨cz, d0⟩ := HCC2.out _ hc
       go_upto_region 26 with (fail)
       go_cut [21, 22] (fun pe ev wx => ∃ eb ta tc qa qc SU, pe = .pointer (some ⟨eb, 0, none⟩) ∧ ev = .int .i64 0 ∧ Hid (Blk wx eb #[.slice ta 1 tc, .slice qa 0 qc, .string SU] 52) ∧ Hid (Rd wx 3 (.slice ta 1 tc) 1 (nodeCells [anN])) ∧ Hid (Keeps Non w14 wx))
       case first => as_aux_lemma =>
        go_region_held3 (fun w' => w'.cell? ⟨zb, 0, none⟩ = some (.pointer (some ⟨sz, 0, none⟩)) ∧ w'.cell? ⟨nb, no, none⟩ = some (.string ⟨(nm (fb 0)).toArray⟩)) (with_reducible first | exact ⟨cz, d0⟩ | exact HCC2.out _ hc | exact HCC2.out _ hc.drew | exact HCC2.out _ (hc.alloc _) | exact HCC2.out _ (hc.alloc _).drew | exact HCC2.out _ (((hc.setCell _ _ (.inr (Nat.le_refl _))).setCell _ _ (.inr (Nat.le_refl _))).setCell _ _ (.inr (Nat.le_refl _)))) (first
         | (go_at_call 25
            with_reducible refine (HGE.out _ hc).mono ?_
            rintro e w15 ⟨ta, tc, qa, qc, SU, rfl, hrd, hk15⟩
            replace hc := Keeps.tn hc hk15
            obtain ⟨cz, d0⟩ := HCC2.out _ hc)
         | (go_at_call 25
            with_reducible refine (HGE.out _ hc.drew).mono ?_
            rintro e w15 ⟨ta, tc, qa, qc, SU, rfl, hrd, hk15⟩
            replace hc := Keeps.tn hc.drew hk15
            obtain ⟨cz, d0⟩ := HCC2.out _ hc)
         | (go_at_call 25
            with_reducible refine (HGE.out _ (hc.alloc _).drew).mono ?_
            rintro e w15 ⟨ta, tc, qa, qc, SU, rfl, hrd, hk15⟩
            have hbn := (Blk.new w14 #[.slice none 0 0, .slice none 0 0, .string ⟨#[]⟩] 52).drew.keeps hk15 fun h => h
            have n0 : w15.cell? ⟨w14.heap.size, 0, none⟩ = some (.slice none 0 0) := hbn.cell 0
            have n1 : w15.cell? ⟨w14.heap.size, 1, none⟩ = some (.slice none 0 0) := hbn.cell 1
            have n2 : w15.cell? ⟨w14.heap.size, 2, none⟩ = some (.string ⟨#[]⟩) := hbn.cell 2
            have f0 := hbn.free 0
            have f1 := hbn.free 1
            have f2 := hbn.free 2
            replace hc := Keeps.tn (hc.alloc _).drew hk15
            obtain ⟨cz, d0⟩ := HCC2.out _ hc))
        all_goals (
         go_wp2_with fail
         go_meet
         refine ⟨_, ta, tc, qa, qc, SU, rfl, rfl, ?_, ?_, ?_⟩
         ·first
          | exact Blk.new w15 _ _
          | exact ((hbn.set 0 _).set 1 _).set 2 _
         ·first
          | exact (hrd.alloc _).rd
          | exact (hrd.keep fun b c _ hB hb =>
           have hne : b ≠ w14.heap.size := fun e => by
            subst e
            exact absurd hB (Nat.not_le_of_lt (Blk.new w14 #[.slice none 0 0, .slice none 0 0, .string ⟨#[]⟩] 52).lt)
           ((hb.set_ne _ _ hne).set_ne _ _ hne).set_ne _ _ hne).rd
         ·first
          | exact hc.alloc _
          | exact ((hc.setCell _ _ (.inr (Nat.le_refl _))).setCell _ _ (.inr (Nat.le_refl _))).setCell _ _ (.inr (Nat.le_refl _)))
       case rest => as_aux_lemma =>
        obtain ⟨eb, ta, tc, qa, qc, SU, rfl, rfl, HEB, HRD, HK15⟩ := hcut
        generalize wc = w15 at *
        have cz := (HCC2.out _ HK15.out).1
        have HPA := Lib.hid (paths_any w15 (HST14.out.non HK15.out))
        unfold pv at HPA
        obtain ⟨AN, hAN⟩ : ∃ AN : ByteArray, AN = anA := ⟨_, rfl⟩
        have a7 : 7 ≤ AN.size := by rw [hAN]; decide
        have a8 : AN.extract 0 7 = ⟨#[97, 110, 111, 116, 104, 101, 114]⟩ := by rw [hAN]; rfl
        have HAN := Lib.hid hAN
        clear d0 hc hAN
        go_wp2_with fail
        refine HPA.out.mono ?_
        rintro e w16 ⟨v16, rfl, hs16, hk16⟩
        obtain ⟨ua, uc, rfl, -, -⟩ := hs16.shape
        rw [show [anE].length = 1 from rfl]
        obtain ⟨b3, o3, c3, hsh, -, -, -, -, hcc3, -⟩ := (HRD.out.non hk16).pos (by decide)
        obtain ⟨rfl, rfl⟩ : ta = some ⟨b3, o3, none⟩ ∧ tc = c3 := by injection hsh with g1 g2 g3; exact ⟨g1, g3⟩
        have g0 : w16.cell? ⟨eb, 0, none⟩ = some (.slice (some ⟨b3, o3, none⟩) 1 tc) := (HEB.out.keeps hk16 fun h => h).cell 0
        have g2 : w16.cell? ⟨b3, o3 + 2, none⟩ = some (.string AN) := by rw [HAN.out]; exact hcc3 2 (by decide)
        have HK16 := Lib.hid (HW1.out.tn (HK13W.out.tn (HK14.out.tn (HK15.out.tn hk16))))
        clear hs16 hk16 HPA cz hsh hcc3 HCC2 HGE
        go_wp2_with fail
        go_ret
        exact ⟨rfl, HK16.out⟩
end Go.Proofs.YtdkogijdfgfpeaaGreatDoor
