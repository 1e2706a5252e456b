/- (*store.coming).ref: a reference of the entry has come. -/
import Derived.Test.YtdkogijdfgfpeaaGreatDoorVITree
import Derived.Test.YtdkogijdfgfpeaaGreatDoorVPKeep
set_option linter.unusedVariables false
namespace Go.Proofs.YtdkogijdfgfpeaaGreatDoor
open Go Go.RowKit
structure CRd (w : World) (b : Nat) (x : CX) (s sm mb : Nat) (L M : MapL) (vo : Value) (ra : Option Addr) (rc : Nat) : Prop where
 c8 : w.cell? ⟨b, 8, none⟩ = some (pv s)
 c9 : w.cell? ⟨b, 9, none⟩ = some (.map (some mb))
 c10 : w.cell? ⟨b, 10, none⟩ = some vo
 c11 : w.cell? ⟨b, 11, none⟩ = some (sv x.name)
 c12 : w.cell? ⟨b, 12, none⟩ = some (.slice ra x.refs.length rc)
 cs : w.cell? ⟨s, 0, none⟩ = some (.map (some sm))
 sm : MapAt w sm L
 mm : MapAt w mb M
 hasN : ∀ k, findE x.has k = none → getM L k = none
 hasS : ∀ k e, findE x.has k = some e → ∃ p, getM L k = some (pv p)
 cameN : ∀ k, findE x.came k = none → getM M k = none
 cameS : ∀ k e, findE x.came k = some e → ∃ p, getM M k = some (pv p)
 len : L.length = x.has.length
theorem CAt.rd {B b : Nat} {tail : PT} {ts : List (Job × Value)} {σ : PSt} {w : World} {F : Nat → Prop} {s : Nat} {x : CX} (h : PA B b tail ts σ w) (hc : CAt w B tail x F s) :
 ∃ sm mb L M vo ra rc, CRd w b x s sm mb L M vo ra rc ∧ CMem w B tail x mb vo (.slice ra x.refs.length rc) M ∧ tail.cells = [pv s, .map (some mb), vo, sv x.name, .slice ra x.refs.length rc] ∧ x.refs.length ≤ rc ∧ rc ≤ maxLen := by
 obtain ⟨mb, vo, vr, m, hcells, hmem⟩ := hc.mem
 obtain ⟨ur, ut, ul, ua, hpa⟩ := h
 obtain ⟨sm, L, h1, h2, h3, h4, h5, h6⟩ := hc.st.map
 obtain ⟨ra, rc, rfl, hr1, hr2⟩ := hmem.refs.shape
 have c8 := (tail_cell hpa 0).1
 have c9 := (tail_cell hpa 1).1
 have c10 := (tail_cell hpa 2).1
 have c11 := (tail_cell hpa 3).1
 have c12 := (tail_cell hpa 4).1
 rw [hcells] at c8 c9 c10 c11 c12
 refine ⟨sm, mb, L, m, vo, ra, rc, ⟨c8, c9, c10, c11, c12, h2.cell 0, h3, hmem.map, fun k hk => ?_, fun k e hk => ?_, fun k hk => ?_, fun k e hk => ?_, h4⟩, hmem, hcells, hr1, hr2⟩
 ·rcases StoreAt.look h3 h5 h6 k with ⟨-, g⟩ | ⟨e, p, g, -⟩
  ·exact g
  ·rw [hk] at g; cases g
 ·rcases StoreAt.look h3 h5 h6 k with ⟨g, -⟩ | ⟨e', p, g, -, -, g2, -⟩
  ·rw [hk] at g; cases g
  ·exact ⟨p, g2⟩
 ·rcases hmem.look k with ⟨-, g⟩ | ⟨e, p, g, -⟩
  ·exact g
  ·rw [hk] at g; cases g
 ·rcases hmem.look k with ⟨g, -⟩ | ⟨e', p, g, -, -, g2⟩
  ·rw [hk] at g; cases g
  ·exact ⟨p, g2⟩
theorem refErr_a {x : CX} {nm : List UInt8} (h : risesB x.refs nm = false) : refErr x nm = 7 := by unfold refErr; rw [h]; rfl
theorem refErr_b {x : CX} {nm : List UInt8} (h : risesB x.refs nm = true) (h2 : nm = x.name ∨ (∃ e, findE x.has nm = some e) ∨ ∃ e, findE x.came nm = some e) : refErr x nm = 0 := by
 unfold refErr
 rw [h, if_neg (by simp), if_neg]
 rintro ⟨h3, h4, h5⟩
 rcases h2 with h2 | ⟨e, h2⟩ | ⟨e, h2⟩
 ·exact h3 h2
 ·rw [h2] at h4; cases h4
 ·rw [h2] at h5; cases h5
theorem refErr_c {x : CX} {nm : List UInt8} (h : risesB x.refs nm = true) (h1 : nm ≠ x.name) (h2 : findE x.has nm = none) (h3 : findE x.came nm = none) : refErr x nm = 13 := by
 unfold refErr
 rw [h, if_neg (by simp), if_pos ⟨h1, h2, h3⟩]
theorem infoStrI : (Tryz.prog.info? 9).map (fun i => (i.zero, i.size, i.bytes)) = some (some (.string ⟨#[]⟩), 1, 16) := by kernel_rfl
set_option maxHeartbeats 3200000 in
set_option maxRecDepth 100000 in
theorem cref_any {B b : Nat} {tail : PT} {ts : List (Job × Value)} {σ : PSt} {w : World} {F : Nat → Prop} {s : Nat} (h : PA B b tail ts σ w) (hc : CAt w B tail σ.x F s) (nm : List UInt8) (hn : nm.length ≤ 1000) (p : Int)
 (hrl : σ.x.refs.length ≤ 549755813888) (hrs : ∀ r ∈ σ.x.refs, r.length ≤ 549755813888) (hnn : σ.x.name.length ≤ 549755813888) (hts : ∀ t ∈ ts, t.1 = moreJob) (hfar : FarM w tail.cells ts) :
 Calls Tryz.prog 129 #[.pointer (some ⟨b, 0, none⟩), sv nm, .int .i64 p] w (DidX B b ts (doJob .cref nm p σ) F s w) := by
 obtain ⟨sm, mb, L, M, vo, ra, rc, hrd, hmem, hcells, hr1, hr2⟩ := hc.rd h
 have H0 := Lib.hid h
 have C0 := Lib.hid hc
 have RD := Lib.hid hrd
 have HM := Lib.hid hmem
 have HCE := Lib.hid hcells
 have HTS := Lib.hid hts
 have HFAR := Lib.hid hfar
 have HTE : Hid (Tryz.prog.underlying 82 = some (.map 9 81)) := Tryz.underlying82
 unfold maxLen at hr2
 have c8 := hrd.c8
 have c9 := hrd.c9
 have c11 := hrd.c11
 have c12 := hrd.c12
 have cs := hrd.cs
 have hns : nm.length ≤ 1099511627776 := by omega
 clear h hc hrd hmem hcells hrs hnn hts hfar
 unfold sv pv at *
 go_enter Tryz.func129, Tryz.ntmps129
 go_upto_block 0 with (fail)
 go_cut [] (fun wx => Hid (PA B b tail ts (σ.failIf (refErr σ.x nm) p) wx) ∧ Hid (CAt wx B tail σ.x F s) ∧ Hid (Keeps (GE B) w wx) ∧ Hid (FarM wx tail.cells ts))
 case first =>
  go_upto_region 1 with (fail)
  go_cut [12] (fun hv wx => hv = .bool (!risesB σ.x.refs nm) ∧ w = wx)
  case first =>
   rcases List.eq_nil_or_concat σ.x.refs with hnil | ⟨l, t, hcon⟩
   ·have HR : Hid (risesB σ.x.refs nm = true) := by show _ = _; rw [hnil]; rfl
    have hl0 : σ.x.refs.length = 0 := by rw [hnil]; rfl
    have e4 : decide ((0 : Int) < (σ.x.refs.length : Int)) = false := decide_eq_false (by omega)
    have e5 : decide (0 < σ.x.refs.length) = false := decide_eq_false (by omega)
    clear hnil hl0
    go_wp2_with fail
    go_meet
    rw [HR.out]
    exact ⟨rfl, rfl⟩
   ·rw [List.concat_eq_append] at hcon
    have hl1 : σ.x.refs.length = l.length + 1 := by rw [hcon]; simp
    have HR : Hid (risesB σ.x.refs nm = Op.bytesLess t nm) := by show _ = _; rw [hcon]; simp [risesB]
    have hsl := HM.out.refs
    rw [hl1] at hsl
    obtain ⟨rb, ro, cap, hsh, -, -, -, hbl, hcc, -⟩ := hsl.pos (by omega)
    cases hsh
    have d1 : w.cell? ⟨rb, ro + l.length, none⟩ = some (sv t) := by
     rw [hcc l.length (by omega), hcon]
     simp [svs]
    obtain ⟨m, hm⟩ : ∃ m, l.length = m := ⟨_, rfl⟩
    rw [hm] at d1 hl1
    have e1 : IntKind.i64.wrap ((σ.x.refs.length : Int) - 1) = (m : Int) := by rw [IntWalk.i64_in _ (by omega)]; omega
    have e2 : (0 : Int) ≤ (m : Int) := by omega
    have e3 : (m : Int) < (σ.x.refs.length : Int) := by omega
    have e4 : decide ((0 : Int) < (σ.x.refs.length : Int)) = true := decide_eq_true (by omega)
    have e5 : decide (0 < σ.x.refs.length) = true := decide_eq_true (by omega)
    have e6 : m < σ.x.refs.length := by omega
    unfold sv at d1
    clear hsl hcc hcon hl1 hm
    cases hl : Op.bytesLess t nm with
    | true =>
      have hl2 : (!Op.bytesLess t nm) = false := by rw [hl]; rfl
      go_wp2_with fail
      go_meet
      rw [HR.out, hl]
      exact ⟨rfl, rfl⟩
    | false =>
      have hl2 : (!Op.bytesLess t nm) = true := by rw [hl]; rfl
      go_wp2_with fail
      go_meet
      rw [HR.out, hl]
      exact ⟨rfl, rfl⟩
  case rest =>
   obtain ⟨rfl, rfl⟩ := hcut
   cases hris : risesB σ.x.refs nm with
   | false =>
     have HE : Hid (refErr σ.x nm = 7) := refErr_a hris
     clear hris
     go_wp2_with fail
     refine (fail_any H0.out 7 p).mono ?_
     rintro e w2 ⟨rfl, h2, k2⟩
     have H2 := Lib.hid h2
     have C2 := Lib.hid (C0.out.kp k2 (by decide) (by decide))
     have K2 : Hid (Keeps (GE B) w w2) := k2.ge
     have HF2 := Lib.hid (HFAR.out.kp H0.out k2 (by decide))
     clear h2 k2
     go_wp2_with fail
     go_meet
     rw [HE.out]
     exact ⟨H2, C2, K2, HF2⟩
   | true =>
     have HRI := Lib.hid hris
     clear hris
     by_cases hnm : nm = σ.x.name
     ·have HE : Hid (refErr σ.x nm = 0) := refErr_b HRI.out (.inl hnm)
      have hb : (nm == σ.x.name) = true := by rw [hnm]; exact beq_self_eq_true _
      have hb2 : (nm != σ.x.name) = false := by unfold bne; rw [hb]; rfl
      clear hnm
      go_wp2_with fail
      go_meet
      rw [HE.out]
      exact ⟨H0, C0, Keeps.refl _ _, HFAR⟩
     ·have hb : (nm == σ.x.name) = false := by rw [beq_eq_false_iff_ne]; exact hnm
      have hb2 : (nm != σ.x.name) = true := by unfold bne; rw [hb]; rfl
      have HNM : Hid (¬ nm = σ.x.name) := hnm
      clear hnm
      cases hfh : findE σ.x.has nm with
      | some e =>
        obtain ⟨q, hg⟩ := RD.out.hasS nm e hfh
        have HVAL : Hid ((getM L nm).getD (.pointer none) = .pointer (some ⟨q, 0, none⟩)) := by show _ = _; rw [hg]; rfl
        have HE : Hid (refErr σ.x nm = 0) := refErr_b HRI.out (.inr (.inl ⟨e, hfh⟩))
        clear hfh hg
        go_wp2_with (first | (at_lookup; refine wpl_lookw _ rfl _ _ _ rfl _ _ HTE.out Tryz.underlying9 (.pointer none) (Tryz.zeroValue81 _) sm L rfl RD.out.sm nm rfl hns ?_; rw [HVAL.out]))
        go_meet
        rw [HE.out]
        exact ⟨H0, C0, Keeps.refl _ _, HFAR⟩
      | none =>
        have hg := RD.out.hasN nm hfh
        have HVAL : Hid ((getM L nm).getD (.pointer none) = .pointer none) := by show _ = _; rw [hg]; rfl
        have HFH := Lib.hid hfh
        clear hfh hg
        cases hfc : findE σ.x.came nm with
        | some e =>
          obtain ⟨q, hg⟩ := RD.out.cameS nm e hfc
          have HVAL2 : Hid ((getM M nm).getD (.pointer none) = .pointer (some ⟨q, 0, none⟩)) := by show _ = _; rw [hg]; rfl
          have HE : Hid (refErr σ.x nm = 0) := refErr_b HRI.out (.inr (.inr ⟨e, hfc⟩))
          clear hfc hg
          go_wp2_with (first | (at_lookup; refine wpl_lookw _ rfl _ _ _ rfl _ _ HTE.out Tryz.underlying9 (.pointer none) (Tryz.zeroValue81 _) sm L rfl RD.out.sm nm rfl hns ?_; rw [HVAL.out]) | (at_lookup; refine wpl_lookw _ rfl _ _ _ rfl _ _ HTE.out Tryz.underlying9 (.pointer none) (Tryz.zeroValue81 _) mb M rfl RD.out.mm nm rfl hns ?_; rw [HVAL2.out]))
          go_meet
          rw [HE.out]
          exact ⟨H0, C0, Keeps.refl _ _, HFAR⟩
        | none =>
          have hg := RD.out.cameN nm hfc
          have HVAL2 : Hid ((getM M nm).getD (.pointer none) = .pointer none) := by show _ = _; rw [hg]; rfl
          have HE : Hid (refErr σ.x nm = 13) := refErr_c HRI.out HNM.out HFH.out hfc
          clear hfc hg
          go_wp2_with (first | (at_lookup; refine wpl_lookw _ rfl _ _ _ rfl _ _ HTE.out Tryz.underlying9 (.pointer none) (Tryz.zeroValue81 _) sm L rfl RD.out.sm nm rfl hns ?_; rw [HVAL.out]) | (at_lookup; refine wpl_lookw _ rfl _ _ _ rfl _ _ HTE.out Tryz.underlying9 (.pointer none) (Tryz.zeroValue81 _) mb M rfl RD.out.mm nm rfl hns ?_; rw [HVAL2.out]))
          refine (fail_any H0.out 13 p).mono ?_
          rintro e w2 ⟨rfl, h2, k2⟩
          have H2 := Lib.hid h2
          have C2 := Lib.hid (C0.out.kp k2 (by decide) (by decide))
          have K2 : Hid (Keeps (GE B) w w2) := k2.ge
          have HF2 := Lib.hid (HFAR.out.kp H0.out k2 (by decide))
          clear h2 k2
          go_wp2_with fail
          go_meet
          rw [HE.out]
          exact ⟨H2, C2, K2, HF2⟩
 case rest =>
  obtain ⟨H2, C2, K2, HF2⟩ := hcut
  generalize wc = w2 at *
  clear c8 c9 c11 c12 cs RD HM HCE hr1 hr2 HFAR
  obtain ⟨σ2, hσ2⟩ : ∃ σ2, σ.failIf (refErr σ.x nm) p = σ2 := ⟨_, rfl⟩
  rw [hσ2] at H2
  have HSS := Lib.hid hσ2
  obtain ⟨mb, vo, vr, m, hcells, hmem⟩ := C2.out.mem
  obtain ⟨ra, rc, rfl, hr1, hr2⟩ := hmem.refs.shape
  have HM2 := Lib.hid hmem
  have HCE := Lib.hid hcells
  obtain ⟨ur, ut, ul, ua, hpa⟩ := H2.out
  have c12 := (tail_cell hpa 4).1
  rw [hcells] at c12
  simp only [List.getElem?_cons_zero, List.getElem?_cons_succ, Nat.reduceAdd] at c12
  have HP2 := Lib.hid hpa
  have hsl := hmem.refs
  have hbs := hpa.blk.lt
  have hlb := hpa.le
  unfold maxLen at hr2
  clear hσ2 hcells hmem hpa
  obtain ⟨i0, hi, hi0, hi1, hi2⟩ := info_parts infoStrI
  go_wp2_with (at_builtin; refine wpList_append_own3 rfl _ _ 26 26 rfl 9 i0 _ 1 16 Tryz.underlying26 hi hi0 hi1 hi2 rfl B _ _ _ rfl _ rfl 1 [.string ⟨nm.toArray⟩] ?d11 (hsl.alloc _) ?d12 ?d13 ?d14 ?_)
  case d11 => simp; omega
  case d12 => exact Src.ofSl Tryz.underlying26 (Sl.of_new w2 0 (Nat.zero_le _) 9 1 1 [.string ⟨nm.toArray⟩] rfl (by simp [maxLen])) (by intro u hu; simp only [List.mem_cons, List.not_mem_nil, or_false] at hu; rcases hu with rfl; rfl)
  case d13 => unfold maxLen; omega
  case d14 => omega
  intro ao cc w3 hs3 hk3 hkk3 hb3 hpp3
  have hk23 : Kp B [TSr] w2 w3 := ((Kp.refl _ _ _).alloc _).trans hk3
  have ha2 : Keeps Non w2 (w2.alloc (.cells #[.string ⟨nm.toArray⟩] 9)) := (Keeps.refl _ _).alloc _
  have hpa2 := HP2.out.keeps ha2
  have hsz2 : (w2.alloc (.cells #[.string ⟨nm.toArray⟩] 9)).heap.size = w2.heap.size + 1 := by simp
  have hfar2 : FarM (w2.alloc (.cells #[.string ⟨nm.toArray⟩] 9)) tail.cells ts := HF2.out.kp H2.out (Kp.of_keeps (B := B) (Ts := []) ha2) (by simp)
  have hmem2 := HM2.out.kp (Kp.of_keeps (B := B) (Ts := []) ha2) (by simp) (by simp)
  have hv4 : tail.cells[4]? = some (.slice ra σ.x.refs.length rc) := by rw [HCE.out]; rfl
  have hpa3 : PAt B b tail ts σ2 w3 ur ut ul ua := by
   refine ⟨hpa2.blk.kp hk3 (.inr (by decide)), hpa2.le, hpa2.rest.kp hk3 (.inl (by decide)), hpa2.todo.kp hk3 (.inl (by decide)), hpa2.nodes.kp hk3 (.inl (by decide)), hpa2.above.kp hk3 (.inl (by decide)), fun t ht => ?_, fun t ht => ⟨(hpa2.kept t ht).1.kp hk3 (.inl (by decide)), (hpa2.kept t ht).2⟩⟩
   have hj := hpa2.jobs t ht
   have he := HTS.out t ht
   have hf := (hfar2 _).1 hv4 t ht he
   rw [he] at hj ⊢
   obtain ⟨bm, bp, bt, vm, hfe, g1, g2, g3, g4⟩ := hj
   exact ⟨bm, bp, bt, vm, hfe, g1.kp hk3 (.inr (by decide)), (hpp3 0 vm _ _ g2 (hf _ _ _ _ hfe g1)).1, g3.kp hk3 (.inr (by decide)), g4.kp hk3 (.inr (by decide))⟩
  have hst := tail_step hpa3 4 (.slice ao (σ.x.refs.length + 1) cc)
  have hcell3 := (tail_cell hpa3 4).1
  rw [HCE.out] at hcell3
  have hfr3 := (tail_cell hpa3 4).2
  simp only [List.getElem?_cons_zero, List.getElem?_cons_succ, Nat.reduceAdd] at hcell3 hfr3
  have hbef : ∀ k, vo.ownBlock = some k → k < (w2.alloc (.cells #[.string ⟨nm.toArray⟩] 9)).heap.size := fun k hk => hmem2.order.own_lt hk
  have hca3 : CAt (w3.setCell ⟨b, 4 + 8, none⟩ (.slice ao (σ.x.refs.length + 1) cc)) B ⟨tail.cells.set 4 (.slice ao (σ.x.refs.length + 1) cc), tail.trees⟩ { σ.x with refs := σ.x.refs ++ [nm] } F s := by
   have hkA : Keeps (GE B) w2 (w3.setCell ⟨b, 4 + 8, none⟩ (.slice ao (σ.x.refs.length + 1) cc)) := hk23.ge.gg hst.2.ge
   refine ⟨C2.out.st.keeps hkA fun k hk hB => by have := C2.out.low k hk; have : B ≤ k := hB; omega, C2.out.low, mb, vo, .slice ao (σ.x.refs.length + 1) cc, m, by rw [HCE.out]; rfl, ?_⟩
   refine ⟨hmem2.le, (hmem2.map.kp hk3).kp hst.2, hmem2.keys, fun e he => ?_, ?_, ?_, fun k hk => ?_, fun h => by simp at h⟩
   ·obtain ⟨p', hp', hq⟩ := hmem2.ents e he
    obtain ⟨vt, uu, r1, r2, r3, r4, r5⟩ := hq.blk
    have h1 := hpp3 B uu _ _ r3 r4
    exact ⟨p', hp', hq.le, vt, uu, (r1.kp hk3 (.inr (by decide))).kp hst.2 (.inr (by decide)), r2, h1.1.kp hst.2 (.inl (by decide)), h1.2, r5⟩
   ·exact (hmem2.order.keep fun bb c hbb _ hblk => hblk.keeps hkk3 (fun e => hmem2.apart bb e hbb)).kp hst.2 (.inl (by decide))
   ·have h1 := hs3.kp hst.2 (.inl (by decide))
    show Sl _ B TSr 1 _ (σ.x.refs ++ [nm]).length (svs (σ.x.refs ++ [nm]))
    rw [List.length_append, List.length_singleton]
    have e1 : svs (σ.x.refs ++ [nm]) = svs σ.x.refs ++ [.string ⟨nm.toArray⟩] := by simp [svs, sv]
    rw [e1]
    exact h1
   ·rcases hb3 with e | e
    ·exact hmem2.apart k (e.symm.trans hk)
    ·intro e2
     have e3 := hbef k e2
     have e4 := e.symm.trans hk
     cases e4
     omega
  have hfm : FarM (w3.setCell ⟨b, 4 + 8, none⟩ (.slice ao (σ.x.refs.length + 1) cc)) (tail.cells.set 4 (.slice ao (σ.x.refs.length + 1) cc)) ts := by
   refine fun v => ⟨fun hv t ht he => ?_, fun hv t ht he => absurd (he.symm.trans (HTS.out t ht)) (by decide)⟩
   have hve : v = .slice ao (σ.x.refs.length + 1) cc := by
    rw [HCE.out] at hv
    simpa using hv.symm
   subst hve
   have hj := hpa2.jobs t ht
   have hf := (hfar2 _).1 hv4 t ht he
   have hj3 := hpa3.jobs t ht
   rw [he] at hj hj3
   refine JobFar.kpN hj3 ?_ hst.2 (by decide)
   obtain ⟨bm0, bp0, bt0, vm0, hf0, hb0, hs0, -⟩ := hj
   intro bm bp bt vm hfv hbv
   rw [hf0] at hfv
   have e1 : bm0 = bm := by simp at hfv; exact hfv.1
   subst e1
   have h2 := (hb0.kp hk3 (.inr (by decide))).inj hbv
   have e2 : vm = vm0 := by simpa using h2.1.symm
   subst e2
   exact (hpp3 0 vm _ _ hs0 (hf _ _ _ _ hf0 hb0)).2
  have HPF := Lib.hid hst.1
  have HCF := Lib.hid hca3
  have HFF := Lib.hid hfm
  have HKF : Hid (Keeps (GE B) w (w3.setCell ⟨b, 4 + 8, none⟩ (.slice ao (σ.x.refs.length + 1) cc))) := (K2.out.gg hk23.ge).gg hst.2.ge
  clear hst hca3 hfm hs3 hk3 hkk3 hb3 hpp3 hk23 ha2 hpa2 hfar2 hmem2 hv4 hpa3 hbef hi hi0 hi1 hi2 c12 hsl hsz2 H2 C2 K2 HF2
  go_wp2_with fail
  go_end0
  refine ⟨rfl, ⟨[], _, rfl, ?_, HCF.out, ?_⟩, HKF.out⟩
  ·rw [List.append_nil]
   have h6 : PA B b ⟨tail.cells.set 4 (.slice ao (σ.x.refs.length + 1) cc), tail.trees⟩ ts σ2 (w3.setCell ⟨b, 4 + 8, none⟩ (.slice ao (σ.x.refs.length + 1) cc)) := ⟨_, _, _, _, HPF.out⟩
   rw [← HSS.out] at h6
   exact h6.upx _
  ·rw [List.append_nil]
   exact HFF.out
end Go.Proofs.YtdkogijdfgfpeaaGreatDoor
