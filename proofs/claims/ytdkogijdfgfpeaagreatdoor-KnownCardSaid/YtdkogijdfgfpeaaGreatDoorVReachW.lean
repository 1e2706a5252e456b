/- (*Store).Closure: reach. -/
import Derived.Test.YtdkogijdfgfpeaaGreatDoorVClosP
import Derived.Test.YtdkogijdfgfpeaaGreatDoorVExpP
set_option linter.unusedVariables false
namespace Go.Proofs.YtdkogijdfgfpeaaGreatDoor
open Go Go.RowKit
abbrev TN : TypeId := 76
def rf (cN cS cR : Nat) : Value := .func (.func 35) #[] #[pv cN, pv cS, pv cR]
structure Env (w : World) (F : Nat → Prop) (s cN cS cR nb : Nat) : Prop where
 n : Blk w cN #[.map (some nb)] TN
 s : Blk w cS #[pv s] 34
 r : Blk w cR #[rf cN cS cR] 77
 far : ¬ F nb
theorem Env.keeps {S F : Nat → Prop} {w w' : World} {s cN cS cR nb : Nat} (h : Env w F s cN cS cR nb) (k : Keeps S w w') (hs : ∀ b c T fr, w.heap[b]? = some (.cells c T fr) → b = cN ∨ b = cS ∨ b = cR → ¬ S b) : Env w' F s cN cS cR nb :=
 ⟨h.n.keeps k (hs cN _ _ _ h.n (.inl rfl)), h.s.keeps k (hs cS _ _ _ h.s (.inr (.inl rfl))), h.r.keeps k (hs cR _ _ _ h.r (.inr (.inr rfl))), h.far⟩
theorem Env.one {F : Nat → Prop} {w w' : World} {s cN cS cR nb : Nat} {N : MapL} (h : Env w F s cN cS cR nb) (hm : MapAt w nb N) (k : Keeps (One nb) w w') : Env w' F s cN cS cR nb :=
 h.keeps k fun b c T fr hc _ e => hm.notcells hc e
theorem StoreAt.ent {F : Nat → Prop} {w : World} {s : Nat} {L : Ents} (h : StoreAt w F s L) {e : Ent} (he : e ∈ L) : ∃ mb m q vt vr, Blk w s #[.map (some mb)] TS ∧ MapAt w mb m ∧ getM m e.path = some (pv q) ∧ Blk w q #[sv (packP e.tree), vt, vr] TE ∧ Rd w 1 vr e.refs.length (svs e.refs) ∧ F q ∧ F mb := by
 obtain ⟨mb, m, h1, h2, h3, h4, h5, h6⟩ := h.map
 obtain ⟨q, hq, ho, vt, vr, g1, g2, g3, g4, g5⟩ := h6 e he
 exact ⟨mb, m, q, vt, vr, h2, h3, hq, g1, g3, ho, h1⟩
theorem path_len {p : List UInt8} (h : pathB p = true) : p.length ≤ 1099511627776 := by
 unfold pathB at h
 simp only [Bool.and_eq_true, decide_eq_true_eq] at h
 omega
theorem StoreAt.len {F : Nat → Prop} {w : World} {s : Nat} {L : Ents} (h : StoreAt w F s L) {e : Ent} (he : e ∈ L) : e.path.length ≤ 1099511627776 := path_len (h.ok.good e he).1
set_option maxHeartbeats 3200000 in
set_option maxRecDepth 100000 in
theorem reach_any {F : Nat → Prop} {s cN cS cR nb : Nat} {L : Ents} : ∀ (n : Nat) (e : Ent) (w : World) (N : MapL), freeN L N ≤ n → e ∈ L → StoreAt w F s L → Env w F s cN cS cR nb → MapAt w nb N →
 Calls Tryz.prog 35 #[sv e.path, pv cN, pv cS, pv cR] w fun ed w' => ed = .returned (.tuple #[]) ∧ ∃ N', MapAt w' nb N' ∧ Grew L e.path N N' ∧ Keeps (One nb) w w' := by
 intro n
 induction n with
 | zero =>
   intro e w N hfr he hS hE hM
   have hin : ∃ v, getM N e.path = some v := by
    cases hg : getM N e.path with
    | some v => exact ⟨v, rfl⟩
    | none =>
      have := freeN_lt (N' := putM N e.path (ivn 0)) (fun k v hk => by unfold InM; rw [getM_put]; split <;> exact ⟨_, by first | rfl | exact hk⟩) he hg (by unfold InM; rw [getM_put, if_pos rfl]; exact ⟨_, rfl⟩)
      omega
   obtain ⟨v, hv⟩ := hin
   have hnl := hS.len he
   have cn := hE.n.cell 0
   simp only [List.getElem?_toArray, List.getElem?_cons_zero] at cn
   have HM := Lib.hid hM
   have HVAL : Hid ((getM N e.path).getD (.int .i64 0) = v ∧ (getM N e.path).isSome = true) := by show _ ∧ _; rw [hv]; exact ⟨rfl, rfl⟩
   have HIN : Hid (InM N e.path) := ⟨v, hv⟩
   have HTU : Hid (Tryz.prog.underlying 76 = some (.map 9 3)) := Tryz.underlying76
   clear hv hM hS hE hfr
   unfold pv sv
   go_enter Tryz.func35, Tryz.ntmps35
   go_wp2_with (first | (at_lookup; refine wpl_looko _ rfl _ _ _ rfl _ _ HTU.out Tryz.underlying9 (.int .i64 0) (Tryz.zeroValue3 _) nb N rfl HM.out e.path rfl hnl ?_; rw [HVAL.out.1, HVAL.out.2]))
   refine bodyPost_ret (results_none rfl _ _ _) rfl ?_
   exact ⟨rfl, N, HM.out, Grew.same HIN.out, Keeps.refl _ _⟩
 | succ n ih =>
   intro e w N hfr he hS hE hM
   have hnl := hS.len he
   have cn := hE.n.cell 0
   have cs := hE.s.cell 0
   have cr := hE.r.cell 0
   simp only [List.getElem?_toArray, List.getElem?_cons_zero] at cn cs cr
   have HS := Lib.hid hS
   have HE := Lib.hid hE
   have HM := Lib.hid hM
   have HFR := Lib.hid hfr
   have HEL := Lib.hid he
   have IH := Lib.hid ih
   have HTU : Hid (Tryz.prog.underlying 76 = some (.map 9 3)) := Tryz.underlying76
   clear hM hS hE hfr he ih
   cases hg : getM N e.path with
   | some v =>
     have HVAL : Hid ((getM N e.path).getD (.int .i64 0) = v ∧ (getM N e.path).isSome = true) := by show _ ∧ _; rw [hg]; exact ⟨rfl, rfl⟩
     have HIN : Hid (InM N e.path) := ⟨v, hg⟩
     clear hg cs cr
     unfold pv sv
     go_enter Tryz.func35, Tryz.ntmps35
     go_wp2_with (first | (at_lookup; refine wpl_looko _ rfl _ _ _ rfl _ _ HTU.out Tryz.underlying9 (.int .i64 0) (Tryz.zeroValue3 _) nb N rfl HM.out e.path rfl hnl ?_; rw [HVAL.out.1, HVAL.out.2]))
     refine bodyPost_ret (results_none rfl _ _ _) rfl ?_
     exact ⟨rfl, N, HM.out, Grew.same HIN.out, Keeps.refl _ _⟩
   | none =>
     have HVAL : Hid ((getM N e.path).getD (.int .i64 0) = .int .i64 0 ∧ (getM N e.path).isSome = false) := by show _ ∧ _; rw [hg]; exact ⟨rfl, rfl⟩
     have HG := Lib.hid hg
     clear hg cs cr
     unfold pv sv
     go_enter Tryz.func35, Tryz.ntmps35
     go_upto_region 2 with (first | (at_lookup; refine wpl_looko _ rfl _ _ _ rfl _ _ HTU.out Tryz.underlying9 (.int .i64 0) (Tryz.zeroValue3 _) nb N rfl HM.out e.path rfl hnl ?_; rw [HVAL.out.1, HVAL.out.2]))
     go_upto_region 3 with (first | (at_mapUpdate; refine wpl_store _ rfl _ _ _ _ rfl _ _ HTU.out Tryz.underlying9 nb N rfl HM.out e.path rfl hnl (.int .i64 0) rfl ?_; intro w1 hm1 hk1 hs1))
     have HM1 : Hid (MapAt w1 nb (putM N e.path (ivn 0))) := hm1
     have HK1 := Lib.hid hk1
     have HFRE : Hid (freeN L (putM N e.path (ivn 0)) ≤ n) := by
      have := freeN_lt (N' := putM N e.path (ivn 0)) (fun k v hk => by unfold InM; rw [getM_put]; split <;> exact ⟨_, by first | rfl | exact hk⟩) HEL.out HG.out (by unfold InM; rw [getM_put, if_pos rfl]; exact ⟨_, rfl⟩)
      have h2 := HFR.out
      show _ ≤ _
      omega
     have HS1 : Hid (StoreAt w1 F s L) := HS.out.keeps hk1 fun b hb e2 => HE.out.far (by cases e2; exact hb)
     have HE1 : Hid (Env w1 F s cN cS cR nb) := HE.out.one HM.out hk1
     have cn1 := HE1.out.n.cell 0
     have cs1 := HE1.out.s.cell 0
     have cr1 := HE1.out.r.cell 0
     obtain ⟨mb, m, q, vt, vr, g1, g2, g3, g4, g5, g6, g7⟩ := HS1.out.ent HEL.out
     have ds1 := g1.cell 0
     have dq1 := g4.cell 2
     simp only [List.getElem?_toArray, List.getElem?_cons_zero, List.getElem?_cons_succ] at cn1 cs1 cr1 ds1 dq1
     obtain ⟨va, vc, rfl, hc1, hc2⟩ := g5.shape
     have HMB := Lib.hid g2
     have HVR := Lib.hid g5
     have HVAL2 : Hid ((getM m e.path).getD (.pointer none) = .pointer (some ⟨q, 0, none⟩)) := by show _ = _; rw [g3]; rfl
     have HTE : Hid (Tryz.prog.underlying 82 = some (.map 9 81)) := Tryz.underlying82
     unfold maxLen at hc2
     unfold pv at cs1
     clear hm1 hk1 hs1 g1 g2 g3 g4 g5 g6 g7 cn HFR
     go_wp2_with (first | (at_lookup; refine wpl_look _ rfl _ _ _ rfl _ _ HTE.out Tryz.underlying9 (.pointer none) (Tryz.zeroValue81 _) mb m rfl HMB.out e.path rfl hnl ?_; rw [HVAL2.out]))
     have HREF : Hid (∀ r ∈ e.refs, r.length ≤ 1099511627776 ∧ ∃ x ∈ L, x.path = r) := fun r hr => ⟨(HS1.out.fit e HEL.out).ref r hr, findE_isSome.1 (HS1.out.ok.has e HEL.out r hr)⟩
     have HRL : Hid (e.refs.length ≤ 1099511627776) := (HS1.out.fit e HEL.out).refs
     clear ds1 dq1 cs1 cn1 cr1 HVAL2 HVAL
     go_loopg [28] e.refs.length (fun gk iv wr => ∃ (k : Nat) (N2 : MapL), gk = e.refs.length - k ∧ k ≤ e.refs.length ∧ iv = .int .i64 k ∧ Hid (MapAt wr nb N2) ∧ Hid (Going L e N N2 k) ∧ Hid (Keeps (One nb) w1 wr))
     case atStart => exact ⟨0, _, rfl, Nat.zero_le _, rfl, HM1, Going.start HG.out, Keeps.refl _ _⟩
     case round =>
      obtain ⟨k, N2, rfl, hk, rfl, HM2, HGO, HK2⟩ := hrel
      by_cases hlt : k < e.refs.length
      ·have HS2 : Hid (StoreAt wr F s L) := HS1.out.keeps HK2.out fun b hb e2 => HE1.out.far (by cases e2; exact hb)
       have HE2 : Hid (Env wr F s cN cS cR nb) := HE1.out.one HM1.out HK2.out
       have HV2 : Hid (Rd wr 1 (.slice va e.refs.length vc) e.refs.length (svs e.refs)) := HVR.out.keepc HK2.out fun b c T fr _ hc e2 => HM1.out.notcells hc e2
       have cn2 := HE2.out.n.cell 0
       have cs2 := HE2.out.s.cell 0
       have cr2 := HE2.out.r.cell 0
       simp only [List.getElem?_toArray, List.getElem?_cons_zero] at cn2 cs2 cr2
       unfold rf at cr2
       obtain ⟨b, off, cp, hsh, -, -, -, hbl, hc, -⟩ := HV2.out.pos (by omega)
       cases hsh
       have d0 : wr.cell? ⟨b, off + k, none⟩ = some (sv e.refs[k]) := (hc k (by omega)).trans (svs_get e.refs k hlt)
       have HX : Hid (e.refs[k]? = some e.refs[k] ∧ e.refs[k] ∈ e.refs) := ⟨List.getElem?_eq_getElem hlt, List.getElem_mem _⟩
       clear hc
       generalize e.refs[k] = x at *
       unfold sv at d0
       by_cases hx : x = e.path
       ·have hb : (!x == e.path) = false := by rw [hx]; simp
        have HXN := Lib.hid hx
        clear hx
        go_wp2_with fail
        go_roundg (e.refs.length - (k + 1))
        case measure => omega
        case rel => exact ⟨k + 1, N2, rfl, by omega, by go_num, HM2, HGO.out.self (by rw [HX.out.1, HXN.out]), HK2⟩
       ·have hb : (!x == e.path) = true := by simpa using hx
        have HXN : Hid (x ≠ e.path) := hx
        clear hx
        obtain ⟨hxl, e2, he2, rfl⟩ := HREF.out x HX.out.2
        obtain ⟨c, hcd⟩ : ∃ c, c = ((e.refs.take k).filter fun r => r != e.path).length := ⟨_, rfl⟩
        have hcl : c ≤ e.refs.length := by
         rw [hcd]
         refine Nat.le_trans (List.length_filter_le _ _) ?_
         rw [List.length_take]
         omega
        have hrl := HRL.out
        obtain ⟨c1, hc1d⟩ : ∃ c1, c1 = c + 1 := ⟨_, rfl⟩
        have q1 : (c : Int) + 1 = (c1 : Int) := by omega
        have hc1l : c1 ≤ 1099511627777 := by omega
        have HCV : Hid ((getM N2 e.path).getD (.int .i64 0) = .int .i64 c) := by show _ = _; rw [HGO.out.it, hcd]; rfl
        have HIT : Hid (∃ v, getM N2 e.path = some v) := ⟨_, HGO.out.it⟩
        have HSTEP : Hid (∀ N4, Grew L e2.path (putM N2 e.path (.int .i64 c1)) N4 → Going L e N N4 (k + 1)) := fun N4 hg => by
         have h1 := HGO.out
         refine h1.step HEL.out HX.out.1 HXN.out ?_
         rw [← hcd]
         have h2 : ivn (c + 1) = .int .i64 c1 := by rw [hc1d]; rfl
         rw [h2]
         exact hg
        have HFR3 : Hid (freeN L (putM N2 e.path (.int .i64 c1)) ≤ n) := by
         refine Nat.le_trans (freeN_le fun j v hj => ?_) HFRE.out
         unfold InM
         rw [getM_put] at hj ⊢
         split at hj
         ·rename_i hje
          rw [if_pos hje]
          exact ⟨_, rfl⟩
         ·rename_i hje
          rw [if_neg hje]
          exact ⟨_, HGO.out.old j v hj⟩
        clear hcd hc1d hcl HREF HXN
        go_wp2_with (first | (at_lookup; refine wpl_look _ rfl _ _ _ rfl _ _ HTU.out Tryz.underlying9 (.int .i64 0) (Tryz.zeroValue3 _) nb N2 rfl HM2.out e.path rfl hnl ?_; rw [HCV.out]) | (at_mapUpdate; refine wpl_store _ rfl _ _ _ _ rfl _ _ HTU.out Tryz.underlying9 nb N2 rfl HM2.out e.path rfl hnl (.int .i64 c1) rfl ?_; intro w3 hm3 hk3 hs3; have HM3 := Lib.hid hm3; have HK3 := Lib.hid hk3; have HE3 := Lib.hid (HE2.out.one HM2.out hk3); have HS3 : Hid (StoreAt w3 F s L) := HS2.out.keeps hk3 (fun b hb e2 => HE2.out.far (by cases e2; exact hb)); have cr3 : w3.cell? ⟨cR, 0, none⟩ = some (.func (.func 35) #[] #[pv cN, pv cS, pv cR]) := HE3.out.r.cell 0; clear hm3 hk3 hs3 cn2 cs2 cr2 d0))
        refine (IH.out e2 w3 _ HFR3.out he2 HS3.out HE3.out HM3.out).mono ?_
        rintro ed w4 ⟨rfl, N4, hm4, hg4, hk4⟩
        have HM4 := Lib.hid hm4
        have HG4 := Lib.hid hg4
        have HK4 : Hid (Keeps (One nb) w1 w4) := (HK2.out.trans HK3.out fun k hk => .inl hk).trans hk4 fun k hk => .inl hk
        clear hm4 hg4 hk4 cr3
        go_wp2_with fail
        go_roundg (e.refs.length - (k + 1))
        case measure => omega
        case rel => exact ⟨k + 1, N4, rfl, by omega, by go_num, HM4, HSTEP.out N4 HG4.out, HK4⟩
      ·have hk2 : k = e.refs.length := by omega
       subst hk2
       go_wp2_with fail
       go_end0
       exact ⟨rfl, N2, HM2.out, HGO.out.done HEL.out rfl, HK1.out.trans HK2.out fun k hk => .inl hk⟩
end Go.Proofs.YtdkogijdfgfpeaaGreatDoor
