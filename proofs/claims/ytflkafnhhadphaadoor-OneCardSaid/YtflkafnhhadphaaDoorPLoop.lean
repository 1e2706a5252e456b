/- (*tree.Parser).Run. -/
import Derived.Test.YtflkafnhhadphaaDoorChecked
import Derived.Test.YtflkafnhhadphaaDoorPRun
namespace Go.Proofs.YtflkafnhhadphaaDoor
open Go Go.RowKit
set_option linter.unusedVariables false

/-- the types of the blocks that reading writes -/
abbrev runTs : List TypeId := [5, 93, 34, 72, TB]
/-- the parser in memory, and what its state keeps -/
structure PI (B b : Nat) (tail : List Value) (ts : List (Job × Value)) (σ : PSt) (w : World) : Prop where
  pa : PA B b tail ts σ w
  ok : OkJ (jsOf ts) σ.above.length
  fit : FitJ ts.length σ
  dry : σ.Dry
/-- the last string that must come is taken -/
theorem take_step {B b : Nat} {tail : List Value} {ts : List (Job × Value)} {σ : PSt} {w : World} {vr vl va : Value} {j : Job} {f : Value} {ao : Option Addr} {m cap : Nat} (H : PAt B b tail (ts ++ [(j, f)]) σ w vr (.slice ao (m + 1) cap) vl va) (hm : ts.length = m) :
    PAt B b tail ts σ (w.setCell ⟨b, 4, none⟩ (.slice ao m cap)) vr (.slice ao m cap) vl va ∧ Kp B [TB] w (w.setCell ⟨b, 4, none⟩ (.slice ao m cap)) := by
  have k := H.kpSet 4 (.slice ao m cap)
  have b1 := H.blk.set 4 (.slice ao m cap)
  rw [(pcells_set ..).2.2.2.2.1] at b1
  obtain ⟨p1, p2, p3, p4, p5⟩ := H.parts k
  refine ⟨⟨b1, H.le, p1, ?_, p3, p4, fun t ht => p5 t (List.mem_append.2 (.inl ht))⟩, k⟩
  rw [List.length_append, List.length_singleton, hm] at p2
  have h := p2.take (m := m) (by omega)
  have hl : (wantCells ts).length = m * 2 := by rw [wantCells_length, hm]
  rw [wantCells_append, List.take_left' hl] at h
  rw [hm]
  exact h
theorem job_step {ts0 us : List (Job × Value)} {j : Job} {f : Value} {σ σ1 : PSt} {s : List UInt8} {k : Nat} {p : Int} (hok : OkJ (jsOf (ts0 ++ [(j, f)])) σ.above.length) (hfit : FitJ (ts0 ++ [(j, f)]).length σ) (h0 : σ.err = 0)
    (hk8 : 8 ≤ k) (hks : s.length + 8 ≤ k) (hkl : k ≤ σ.rest.length) (h1 : σ1 = { σ with rest := σ.rest.drop k, at' := σ.at' + k }) (hus : (us.map Prod.fst).reverse = (doJob j s p σ1).1) :
    OkJ (jsOf (ts0 ++ us)) (doJob j s p σ1).2.above.length ∧ FitJ (ts0 ++ us).length (doJob j s p σ1).2 ∧ (doJob j s p σ1).2.Dry := by
  rw [jsOf_snoc] at hok
  refine ⟨?_, ?_, ?_⟩
  · rw [jsOf_append, hus]
    exact okJ_step j (jsOf ts0) s p σ1 (by rw [h1]; exact hok)
  · have hr : Room (ts0.length + 1) s.length σ1 := by
      rw [h1]
      exact Room.of (by simpa using hfit) hkl hks
    have := fit_step j s p σ1 ts0.length hr
    rw [← hus] at this
    simpa [Nat.add_comm] using this
  · exact doJob_dry j s p σ1 (by rw [h1]; exact fun h => absurd h0 h)

set_option maxHeartbeats 1600000 in
set_option maxRecDepth 100000 in
theorem run_any {B b : Nat} {tail : List Value} {ts : List (Job × Value)} {σ : PSt} {w : World} (h : PI B b tail ts σ w) (hT : Tabs w) (hB : tabTop ≤ B) :
    Calls Tryd.prog 29 #[.pointer (some ⟨b, 0, none⟩)] w fun ed w' => ed = .returned (.tuple #[]) ∧ (∃ ts', jsOf ts' = (run (jsOf ts) σ).1 ∧ PI B b tail ts' (run (jsOf ts) σ).2 w') ∧ Kp B runTs w w' := by
  have H0 := Lib.hid h
  have HT := Lib.hid hT
  obtain ⟨vr, vt, vl, va, hp⟩ := h.pa
  obtain ⟨ao, cp, rfl, -, -⟩ := hp.todo.shape
  have c4 : w.cell? ⟨b, 4, none⟩ = some (.slice ao ts.length cp) := (hp.blk.cell 4).trans (pcells_get ..).2.2.2.2.1
  clear h hT hp
  go_enter Tryd.func29, Tryd.ntmps29
  go_wp2_with fail
  go_loopg [2] σ.rest.length (fun gk nv wr => ∃ (ts' : List (Job × Value)) (σ' : PSt), gk = σ'.rest.length ∧ nv = .int .i64 ts'.length ∧ Hid (PI B b tail ts' σ' wr) ∧ Hid (run (jsOf ts) σ = run (jsOf ts') σ') ∧ Hid (Kp B runTs w wr))
  case atStart => exact ⟨ts, σ, rfl, rfl, H0, rfl, Kp.refl _ _ _⟩
  case round =>
    clear H0 c4
    obtain ⟨ts', σ', rfl, rfl, HP, HR, HK⟩ := hrel
    rcases List.eq_nil_or_concat ts' with rfl | ⟨ts0, t, rfl⟩
    · have hd0 : decide ((0:Int) < ((([] : List (Job × Value)).length : Nat) : Int)) = false := by decide
      have hpa := HP.out.pa
      have hfit := HP.out.fit
      cases hrs : σ'.rest with
      | nil =>
        have HE : Hid (run (jsOf ts) σ = ([], σ')) := by show _ = _; rw [HR.out]; show run [] σ' = _; rw [run_nil, if_pos hrs]
        have hdl : decide (0 < σ'.rest.length) = false := by rw [hrs]; decide
        clear hrs
        go_wp2_with fail
        refine (left_any hpa).mono ?_
        rintro e w1 ⟨rfl, rfl⟩
        rw [hdl]
        go_wp2_with fail
        go_end0
        rw [HE.out]
        exact ⟨rfl, ⟨[], rfl, HP.out⟩, HK.out⟩
      | cons x r =>
        have HE : Hid (run (jsOf ts) σ = ([], σ'.fail 10 σ'.at')) := by show _ = _; rw [HR.out]; show run [] σ' = _; rw [run_nil, if_neg (by rw [hrs]; simp)]
        have hdl : decide (0 < σ'.rest.length) = true := by rw [hrs]; simp
        have HA : Hid (∀ n : Nat, Calls Tryd.prog 53 #[.pointer (some ⟨b, 0, none⟩)] (wr.drewN n) fun ed w' => ed = .returned (.int .i64 σ'.at') ∧ wr.drewN n = w') := fun n => at_any (hpa.keeps ((Keeps.refl _ _).drewN n))
        have HF : Hid (∀ n : Nat, Calls Tryd.prog 56 #[.pointer (some ⟨b, 0, none⟩), .int .i64 10, .int .i64 σ'.at'] (wr.drewN n) fun ed w' => ed = .returned (.tuple #[]) ∧ PA B b tail [] (σ'.fail 10 σ'.at') w' ∧ Kp B [TB] wr w') :=
          fun n => (fail_any (hpa.keeps ((Keeps.refl _ _).drewN n)) 10 _).mono fun ed w' ⟨h1, h2, h3⟩ => ⟨h1, h2, ((Kp.refl _ _ _).drewN n).trans h3⟩
        clear hrs
        go_wp2_with fail
        refine (left_any hpa).mono ?_
        rintro e w1 ⟨rfl, rfl⟩
        rw [hdl]
        clear hpa
        go_wp2_with fail
        go_region_with (first
          | (go_at_call 53; refine (HA.out 1).mono ?_; rintro e w1 ⟨rfl, rfl⟩)
          | (go_at_call 56; refine (HF.out 1).mono ?_; rintro e w2 ⟨rfl, h2, k2⟩))
        all_goals (
          go_wp2_with fail
          go_end0
          rw [HE.out]
          refine ⟨rfl, ⟨[], rfl, h2, trivial, HP.out.fit.fail _ _, HP.out.dry.fail _ _⟩, HK.out.trans (k2.mono (.inr ⟨Nat.le_refl _, by simp⟩))⟩)
    · rw [List.concat_eq_append] at HP HR ⊢
      obtain ⟨j, f⟩ := t
      obtain ⟨m, hm⟩ : ∃ m, ts0.length = m := ⟨_, rfl⟩
      have hlen : (ts0 ++ [(j, f)]).length = m + 1 := by simp [hm]
      rw [hlen]
      have hp := HP.out.pa
      have hfit : Fit (ts0 ++ [(j, f)]) σ' := HP.out.fit.fit
      have hall := hfit.all
      have htd := hfit.todo
      rw [hlen] at htd
      have hmost : j.most ≤ 1000 := by cases j <;> simp [Job.most]
      have HA : Hid (Calls Tryd.prog 53 #[.pointer (some ⟨b, 0, none⟩)] wr fun ed w' => ed = .returned (.int .i64 σ'.at') ∧ wr = w') := at_any hp
      have HN : Hid (∀ n : Nat, Calls Tryd.prog 54 #[.pointer (some ⟨b, 0, none⟩), .int .i64 j.most] (wr.drewN n) fun ed w' => ed = .returned (.tuple #[.string ⟨((σ'.next j.most).1.getD []).toArray⟩, .bool (σ'.next j.most).1.isSome]) ∧ PA B b tail (ts0 ++ [(j, f)]) (σ'.next j.most).2 w' ∧ Kp B [TB] wr w') :=
        fun n => (next_any (hp.keeps ((Keeps.refl _ _).drewN n)) hfit j.most hmost).mono fun ed w' ⟨h1, h2, h3⟩ => ⟨h1, h2, ((Kp.refl _ _ _).drewN n).trans h3⟩
      obtain ⟨vr', vt', vl', va', hq⟩ := hp
      have hsl := hq.todo
      rw [hlen] at hsl
      obtain ⟨bt, ot, ct, rfl, -, hc1, hc2, -, hcc, -⟩ := hsl.pos (by omega)
      unfold maxLen at hc2
      have c4 : wr.cell? ⟨b, 4, none⟩ = some (.slice (some ⟨bt, ot, none⟩) (m + 1) ct) := (hq.blk.cell 4).trans (pcells_get ..).2.2.2.2.1
      have d0 : wr.cell? ⟨bt, ot + m * 2, none⟩ = some (.int .i64 j.most) := by
        rw [hcc _ (by omega)]
        have := (wantCells_at (ts0 ++ [(j, f)]) m (by omega)).1
        rw [this]
        simp [← hm]
      have HM := Lib.hid hm
      have HLEN := Lib.hid hlen
      clear hq hsl hcc hm hlen hfit
      have q0 : decide ((0:Int) < (((m + 1 : Nat)) : Int)) = true := by simp
      have q0' : decide ((0:Int) < (m : Int) + 1) = true := by simp
      have q1 : IntKind.i64.wrap (m : Int) = (m : Int) := IntWalk.i64_in _ (by omega)
      have q2 : (0 : Int) ≤ (m : Int) := by omega
      have q3 : (m : Int) < (m : Int) + 1 := by omega
      have q4 : m < m + 1 := by omega
      have q5 : (0 : Int) < (m : Int) + 1 := by omega
      have q6 : IntKind.i64.wrap ((m : Int) + 1 - 1) = (m : Int) := by rw [IntWalk.i64_in _ (by omega)]; omega
      go_wp2_with fail
      refine HA.out.mono ?_
      rintro e w1 ⟨rfl, rfl⟩
      go_upto_region 4 with (fail)
      obtain ⟨nx, hnx⟩ : ∃ nx, σ'.next j.most = nx := ⟨_, rfl⟩
      rw [hnx] at HN
      obtain ⟨o, σ1⟩ := nx
      have HNX := Lib.hid hnx
      clear hnx
      simp only at HN
      go_region_with (go_at_call 54; refine (HN.out 1).mono ?_; rintro e w2 ⟨rfl, h2, k2⟩)
      all_goals (
        have H2 := Lib.hid h2
        have K2 : Hid (Kp B runTs w w2) := HK.out.trans (k2.mono (.inr ⟨Nat.le_refl _, by simp⟩))
        clear h2 k2 HN HA HK c4 d0
        cases o with
        | none =>
          have hr : run (jsOf (ts0 ++ [(j, f)])) σ' = (jsOf (ts0 ++ [(j, f)]), σ1) := by rw [jsOf_snoc]; exact run_stop HNX.out
          have HRR : Hid (run (jsOf ts) σ = (jsOf (ts0 ++ [(j, f)]), σ1)) := HR.out.trans hr
          have hpi : PI B b tail (ts0 ++ [(j, f)]) σ1 w2 := by
            rcases next_none HNX.out with e | ⟨e0, e⟩
            · rw [e] at H2 ⊢; exact ⟨H2.out, HP.out.ok, HP.out.fit, HP.out.dry⟩
            · rw [e] at H2 ⊢; exact ⟨H2.out, by rw [(fail_above ..).1]; exact HP.out.ok, HP.out.fit.fail _ _, HP.out.dry.fail _ _⟩
          have HPI := Lib.hid hpi
          clear hpi hr
          go_wp2_with fail
          refine bodyPost_ret (results_none rfl _ _ _) rfl ?_
          rw [HRR.out]
          exact ⟨rfl, ⟨_, rfl, HPI.out⟩, K2.out⟩
        | some s =>
          obtain ⟨he0, k, hk8, hks, hkl, hsm, hs1⟩ := next_some HNX.out
          have HE0 := Lib.hid he0
          have HS1 := Lib.hid hs1
          have hr : run (jsOf (ts0 ++ [(j, f)])) σ' = run ((doJob j s σ'.at' σ1).1 ++ jsOf ts0) (doJob j s σ'.at' σ1).2 := by
            rw [jsOf_snoc, HS1.out]
            exact run_got hk8 hkl (HNX.out.trans (by rw [HS1.out]))
          obtain ⟨r4, hr4⟩ : ∃ r4, doJob j s σ'.at' σ1 = r4 := ⟨_, rfl⟩
          rw [hr4] at hr
          have HR4 := Lib.hid hr4
          have HRR := Lib.hid (HR.out.trans hr)
          clear hr4
          have hab : σ1.above = σ'.above := by rw [HS1.out]
          have hfit1 : FitJ (ts0.length + 1) σ1 := by
            have h1 := (Room.of (by simpa using HP.out.fit : FitJ (ts0.length + 1) σ') hkl hks).fit (i := ts0.length + 1) (by omega)
            rw [HS1.out]; exact h1
          have hok1 := HP.out.ok
          rw [jsOf_snoc] at hok1
          have HNEED : Hid (j.needs = true → 1 ≤ σ1.above.length) := by rw [hab]; exact hok1.1
          obtain ⟨vr2, vt2, vl2, va2, hq⟩ := H2.out
          have hsl := hq.todo
          rw [HLEN.out] at hsl
          obtain ⟨b2, o2, c2, rfl, -, hc3, hc4, -, hcc, -⟩ := hsl.pos (by omega)
          unfold maxLen at hc4
          have d4 : w2.cell? ⟨b, 4, none⟩ = some (.slice (some ⟨b2, o2, none⟩) (m + 1) c2) := (hq.blk.cell 4).trans (pcells_get ..).2.2.2.2.1
          have d1 : w2.cell? ⟨b2, o2 + m * 2 + 1, none⟩ = some f := by
            rw [Nat.add_assoc, hcc _ (by omega)]
            have := (wantCells_at (ts0 ++ [(j, f)]) m (by rw [HLEN.out]; omega)).2
            rw [this]
            simp [← HM.out]
          have g4 := hq.blk.free 4
          have hjob : JobAt w2 b j f := hq.jobs (j, f) (by simp)
          have HQ := Lib.hid hq
          have HJ := Lib.hid hjob
          have q7 : (m : Int) ≤ (c2 : Int) := by omega
          have q8 : m ≤ c2 := by omega
          have hnl := hfit1.nodes
          have hal := hfit1.above
          have hat := hfit1.all
          have htl := hfit1.todo
          have hdirs := Lib.hid hfit1.dirs
          have HFIT := Lib.hid hfit1
          have HOK := Lib.hid hok1
          have HAB := Lib.hid hab
          rw [HM.out] at htl
          clear he0 hs1 hr hab hok1 hsl hcc hq hjob hfit1 H2
          go_upto_region 8 with (fail)
          have hst := take_step HQ.out HM.out
          have H3 := Lib.hid hst.1
          have J3 : Hid (JobAt _ b j f) := HJ.out.kp hst.2 (by intro T hT; simp only [List.mem_singleton] at hT; subst hT; simp)
          have K3 := Lib.hid (K2.out.trans (hst.2.mono (.inr ⟨Nat.le_refl _, by simp⟩)))
          clear hst HQ HJ K2 d4 d1 g4
          generalize World.setCell w2 _ _ = w3 at *
          have HP3 : Hid (PA B b tail ts0 σ1 w3) := ⟨_, _, _, _, H3.out⟩
          have HT3 : Hid (Tabs w3) := HT.out.kp K3.out hB
          clear H3
          cases j
          case' word may act =>
            obtain ⟨bm, bp, bt3, vm, rfl, j1, j2, j3, j4⟩ := J3.out
            have HC := Lib.hid (word1_any HP3.out may act ⟨s.toArray⟩ σ'.at' bm bp bt3 vm j1 j2 j3 j4 (by omega) (by omega) (by have := HM.out; omega) HNEED.out)
            clear j1 j2 j3 j4
            go_wp2_with fail
            refine HC.out.mono ?_
            rintro e w4 hd'
            have hd : Did B b tail ts0 r4 w3 e w4 := by rw [← HR4.out]; exact hd'
            clear hd'
          case' leads =>
            obtain rfl := J3.out
            have HC := Lib.hid (leads_any HP3.out ⟨s.toArray⟩ (by show s.toArray.size ≤ _; simp [maxLen]; omega) σ'.at' (by omega))
            go_wp2_with fail
            refine HC.out.mono ?_
            rintro e w4 ⟨e1, h4, k4⟩
            have hd : Did B b tail ts0 r4 w3 e w4 := by rw [← HR4.out]; exact Did.plain e1 rfl h4 k4 (by simp)
            clear e1 h4 k4
          case' name =>
            obtain rfl := J3.out
            have hnp := HNEED.out rfl
            obtain ⟨ab, o, hao⟩ : ∃ ab o, σ1.above = ab ++ [o] := by
              rcases List.eq_nil_or_concat σ1.above with e | ⟨l, o, e⟩
              · rw [e] at hnp; simp at hnp
              · exact ⟨l, o, by rw [e, List.concat_eq_append]⟩
            obtain ⟨op, ol⟩ := o
            have hol := (hdirs.out (op, ol) (by rw [hao]; simp)).1
            have habl : ab.length ≤ 1099511627776 := by rw [hao] at hal; simp at hal; omega
            have HC := Lib.hid (pname_any HP3.out HT3.out ⟨s.toArray⟩ (by show s.toArray.size ≤ _; simp; simp [Job.most] at hsm; omega) σ'.at' ab op ol hao habl (by simp only at hol; omega))
            clear hao hol habl hnp
            go_wp2_with fail
            refine HC.out.mono ?_
            rintro e w4 ⟨e1, h4, k4⟩
            have hd : Did B b tail ts0 r4 w3 e w4 := by rw [← HR4.out]; exact Did.plain e1 rfl h4 k4 (by simp)
            clear e1 h4 k4
          case' keep kd =>
            obtain ⟨bp, bk, rfl, j1, j2⟩ := J3.out
            have HC := Lib.hid (keep_any HP3.out ⟨s.toArray⟩ σ'.at' kd bp bk j1 j2 (by omega))
            clear j1 j2
            go_wp2_with fail
            refine HC.out.mono ?_
            rintro e w4 hd'
            have hd : Did B b tail ts0 r4 w3 e w4 := by rw [← HR4.out]; exact hd'
            clear hd'
          all_goals (
            obtain rfl := hd.1
            obtain ⟨us, hus, hpa4⟩ := hd.2.1
            have K4 : Hid (Kp B runTs w w4) := K3.out.trans (hd.2.2.mono (.inr ⟨Nat.le_refl _, by simp⟩))
            have hstep := job_step (us := us) (p := σ'.at') HP.out.ok HP.out.fit HE0.out hk8 hks hkl HS1.out (by rw [HR4.out]; exact hus)
            rw [HR4.out] at hstep
            have hpi : PI B b tail (ts0 ++ us) r4.2 w4 := ⟨hpa4, hstep.1, hstep.2.1, hstep.2.2⟩
            have hrl : r4.2.rest.length < σ'.rest.length := by
              rw [← HR4.out]
              refine Nat.lt_of_le_of_lt (doJob_rest _ s σ'.at' σ1) ?_
              rw [HS1.out]
              simp only [List.length_drop]
              omega
            have HRUN : Hid (run (jsOf ts) σ = run (jsOf (ts0 ++ us)) r4.2) := by
              show _ = _
              rw [HRR.out, jsOf_append, hus]
            have HPI := Lib.hid hpi
            obtain ⟨vr4, vt4, vl4, va4, hq4⟩ := hpa4
            obtain ⟨a4, c4, rfl, -, -⟩ := hq4.todo.shape
            have d4 : w4.cell? ⟨b, 4, none⟩ = some (.slice a4 (ts0 ++ us).length c4) := (hq4.blk.cell 4).trans (pcells_get ..).2.2.2.2.1
            clear hd hq4 hus hstep hpi HC
            go_wp2_with fail
            go_roundg (r4.2.rest.length))
          all_goals first
            | (case measure => exact hrl)
            | (case rel => exact ⟨ts0 ++ us, r4.2, rfl, by rw [List.length_append, Int.natCast_add], HPI, HRUN, K4⟩))
end Go.Proofs.YtflkafnhhadphaaDoor
