/- (*tree.Parser).Run in an import. -/
import Derived.Test.YtdkogijdfgfpeaaGreatDoorVPKeep
import Derived.Test.YtdkogijdfgfpeaaGreatDoorVITree
import Derived.Test.YtdkogijdfgfpeaaGreatDoorVIRef
import Derived.Test.YtdkogijdfgfpeaaGreatDoorVISum
import Derived.Test.YtdkogijdfgfpeaaGreatDoorVShapeW
set_option linter.unusedVariables false
namespace Go.Proofs.YtdkogijdfgfpeaaGreatDoor
open Go Go.RowKit
def Job.imp : Job → Bool
 | .word _ .next' => true
 | .word _ .more => true
 | .cpath => true
 | .cref => true
 | .csum => true
 | _ => false
def Job.last (j : Job) : List Job :=
 match j with
 | .cref => [moreJob]
 | .csum => [nextJob]
 | _ => []
def OkS : List Job → Prop
 | [] => True
 | j :: js => if j.imp then js = j.last else OkS js
theorem OkS.app : ∀ {A js : List Job}, A.all (fun j => !j.imp) = true → OkS js → OkS (A ++ js)
 | [], js, _, h => h
 | a :: A, js, ha, h => by
   rw [List.all_cons, Bool.and_eq_true] at ha
   show if a.imp then _ else _
   rw [if_neg (by simpa using ha.1)]
   exact OkS.app ha.2 h
theorem okS_step (j : Job) (js : List Job) (s : List UInt8) (p : Int) (σ : PSt) (h : OkS (j :: js)) : OkS ((doJob j s p σ).1 ++ js) := by
 have hp : j.imp = false → OkS js := fun e => by
  have h2 : if j.imp then js = j.last else OkS js := h
  rwa [if_neg (by simp [e])] at h2
 have hi : j.imp = true → js = j.last := fun e => by
  have h2 : if j.imp then js = j.last else OkS js := h
  rwa [if_pos e] at h2
 cases j with
 | word may act =>
   simp only [doJob]
   split
   ·cases act <;> simp only [doAct]
    ·exact hp rfl
    ·exact hp rfl
    ·split
     ·exact OkS.app (A := [_]) rfl (hp rfl)
     ·split
      ·exact OkS.app (A := [_, _, _]) rfl (hp rfl)
      ·split
       ·exact OkS.app (A := [_]) rfl (hp rfl)
       ·exact hp rfl
    ·split
     ·exact OkS.app (A := [_, _, _, _]) rfl (hp rfl)
     ·exact OkS.app (A := [_, _]) rfl (hp rfl)
    ·split
     ·exact hp rfl
     ·exact OkS.app rfl (hp rfl)
    ·rw [hi rfl]
     split
     ·exact rfl
     ·trivial
    ·rw [hi rfl]
     split
     ·exact rfl
     ·exact rfl
   ·cases act <;> first | exact hp rfl | (rw [hi rfl]; trivial)
 | leads => exact hp rfl
 | name => exact hp rfl
 | keep k => exact hp rfl
 | cpath =>
   rw [hi rfl]
   show OkS (treeJobs ++ [.word [wRefs] .none] ++ [moreJob])
   exact OkS.app (A := treeJobs ++ [.word [wRefs] .none]) rfl (show OkS [moreJob] from rfl)
 | cref => rw [hi rfl]; exact rfl
 | csum => rw [hi rfl]; exact rfl
theorem jsOf_all {ts : List (Job × Value)} {js : List Job} (h : jsOf ts = js) : ∀ t ∈ ts, t.1 ∈ js := fun t ht => by
 rw [← h]
 exact List.mem_reverse.2 (List.mem_map.2 ⟨t, ht, rfl⟩)
theorem FarM.sub {w : World} {cells : List Value} {ts us : List (Job × Value)} (h : FarM w cells (ts ++ us)) : FarM w cells ts := fun v => ⟨fun hv t ht he => (h v).1 hv t (List.mem_append.2 (.inl ht)) he, fun hv t ht he => (h v).2 hv t (List.mem_append.2 (.inl ht)) he⟩
structure PIX (B b : Nat) (F : Nat → Prop) (s : Nat) (ts : List (Job × Value)) (σ : PSt) (w : World) : Prop where
 mem : ∃ tail, PA B b tail ts σ w ∧ CAt w B tail σ.x F s ∧ FarM w tail.cells ts
 shape : OkS (jsOf ts)
 ok : OkJ (jsOf ts) σ.above.length
 fit : FitJ ts.length σ
 dry : σ.Dry
 fx : FitX σ
 oka : ∃ f, OkA (jsOf ts) f ∧ Cnt σ f
theorem FitX.fail {σ : PSt} (h : FitX σ) (e p : Int) : FitX (σ.fail e p) := by
 obtain ⟨q1, q2, q3, q4, q5⟩ := fail_above σ e p
 have qx := (fail_x σ e p).1
 exact ⟨by rw [q2]; exact h.nsz, by rw [qx]; exact h.name, by rw [qx, q4]; exact h.refs, by rw [qx]; exact h.rsz, by rw [qx, q4]; exact h.came, by rw [qx, q4]; exact h.order, by rw [qx]; exact h.osz, by rw [qx]; exact h.fit, by rw [qx]; exact h.once⟩
theorem PIX.fail {B b : Nat} {F : Nat → Prop} {s : Nat} {ts : List (Job × Value)} {σ : PSt} {w w' : World} (h : PIX B b F s ts σ w) (e p : Int) {tail : PT} (h1 : PA B b tail ts (σ.fail e p) w') (h2 : CAt w' B tail σ.x F s) (h5 : FarM w' tail.cells ts) : PIX B b F s ts (σ.fail e p) w' := by
 obtain ⟨f, h3, h4⟩ := h.oka
 exact ⟨⟨tail, h1, by rw [(fail_x ..).1]; exact h2, h5⟩, h.shape, by rw [(fail_above ..).1]; exact h.ok, h.fit.fail _ _, h.dry.fail _ _, h.fx.fail _ _, f, h3, h4.fail _ _⟩
theorem PIX.keeps {B b : Nat} {F : Nat → Prop} {s : Nat} {ts : List (Job × Value)} {σ : PSt} {w w' : World} (h : PIX B b F s ts σ w) (hk : Keeps Non w w') : PIX B b F s ts σ w' := by
 obtain ⟨tail, h1, h2, h3⟩ := h.mem
 exact ⟨⟨tail, h1.keeps hk, h2.non hk, h3.kp h1 (Kp.of_keeps (B := B) (Ts := []) hk) (by simp)⟩, h.shape, h.ok, h.fit, h.dry, h.fx, h.oka⟩
theorem doJob_x (j : Job) (s : List UInt8) (p : Int) (σ : PSt) (h1 : j ≠ .cpath) (h2 : j ≠ .cref) (h3 : j ≠ .csum) : (doJob j s p σ).2.x = σ.x := by
 cases j with
 | word may act =>
   simp only [doJob]
   split
   ·exact doAct_x ..
   ·exact (fail_x ..).1
 | leads =>
   simp only [doJob]
   split
   ·rfl
   ·exact (fail_x ..).1
 | name =>
   simp only [doJob]
   split
   ·exact (fail_x ..).1
   ·split
    ·exact (fail_x ..).1
    ·rfl
 | keep k => rfl
 | cpath => exact absurd rfl h1
 | cref => exact absurd rfl h2
 | csum => exact absurd rfl h3
theorem Tabs.ge {w w' : World} {B : Nat} (h : Tabs w) (k : Keeps (GE B) w w') (hB : tabTop ≤ B) : Tabs w' :=
 h.below (k.below h.top fun i hi hg => by have : B ≤ i := hg; omega) (Nat.le_refl _)
theorem take_step {B b : Nat} {tail : PT} {ts : List (Job × Value)} {σ : PSt} {w : World} {vr vl va : Value} {j : Job} {f : Value} {ao : Option Addr} {m cap : Nat} (H : PAt B b tail (ts ++ [(j, f)]) σ w vr (.slice ao (m + 1) cap) vl va) (hm : ts.length = m) :
 PAt B b tail ts σ (w.setCell ⟨b, 4, none⟩ (.slice ao m cap)) vr (.slice ao m cap) vl va ∧ Kp B [TB] w (w.setCell ⟨b, 4, none⟩ (.slice ao m cap)) := by
 have k := H.kpSet 4 (.slice ao m cap)
 have b1 := H.blk.set 4 (.slice ao m cap)
 rw [(pcells_set ..).2.2.2.2.1] at b1
 obtain ⟨p1, p2, p3, p4, p5, p6⟩ := H.parts k
 refine ⟨⟨b1, H.le, p1, ?_, p3, p4, fun t ht => p5 t (List.mem_append.2 (.inl ht)), p6⟩, k⟩
 rw [List.length_append, List.length_singleton, hm] at p2
 have h := p2.take (m := m) (by omega)
 have hl : (wantCells ts).length = m * 2 := by rw [wantCells_length, hm]
 rw [wantCells_append, List.take_left' hl] at h
 rw [hm]
 exact h
theorem job_stepX {ts0 us : List (Job × Value)} {j : Job} {f : Value} {σ σ1 : PSt} {s : List UInt8} {k : Nat} {p : Int} (hfx : FitX σ) (hoka : ∃ f', OkA (jsOf (ts0 ++ [(j, f)])) f' ∧ Cnt σ f') (hfit : FitJ (ts0 ++ [(j, f)]).length σ) (h0 : σ.err = 0)
 (hk8 : 8 ≤ k) (hks : s.length + 8 ≤ k) (hkl : k ≤ σ.rest.length) (h1 : σ1 = { σ with rest := σ.rest.drop k, at' := σ.at' + k }) (hus : (us.map Prod.fst).reverse = (doJob j s p σ1).1) :
 FitX (doJob j s p σ1).2 ∧ ∃ f', OkA (jsOf (ts0 ++ us)) f' ∧ Cnt (doJob j s p σ1).2 f' := by
 obtain ⟨f', h2, h3⟩ := hoka
 rw [jsOf_snoc] at h2
 have h4 : Cnt σ1 f' := by rw [h1]; exact h3
 have hall := hfit.all
 refine ⟨fitX_step j s p σ σ1 hfx (by rw [h1]; simp only; omega) (by rw [h1]; simp only; omega) (by rw [h1]) (by rw [h1]) (by omega) (by rw [h1]; have := hfit.path; simp only; omega) (by rw [h1]; exact (h3 h0).1), ?_⟩
 rw [jsOf_append, hus]
 exact okA_step j (jsOf ts0) s p σ1 f' h2 h4
theorem job_step {ts0 us : List (Job × Value)} {j : Job} {f : Value} {σ σ1 : PSt} {s : List UInt8} {k : Nat} {p : Int} (hok : OkJ (jsOf (ts0 ++ [(j, f)])) σ.above.length) (hfit : FitJ (ts0 ++ [(j, f)]).length σ) (h0 : σ.err = 0)
 (hk8 : 8 ≤ k) (hks : s.length + 8 ≤ k) (hkl : k ≤ σ.rest.length) (h1 : σ1 = { σ with rest := σ.rest.drop k, at' := σ.at' + k }) (hus : (us.map Prod.fst).reverse = (doJob j s p σ1).1) :
 OkJ (jsOf (ts0 ++ us)) (doJob j s p σ1).2.above.length ∧ FitJ (ts0 ++ us).length (doJob j s p σ1).2 ∧ (doJob j s p σ1).2.Dry := by
 rw [jsOf_snoc] at hok
 refine ⟨?_, ?_, ?_⟩
 ·rw [jsOf_append, hus]
  exact okJ_step j (jsOf ts0) s p σ1 (by rw [h1]; exact hok)
 ·have hr : Room (ts0.length + 1) s.length σ1 := by
   rw [h1]
   exact Room.of (by simpa using hfit) hkl hks
  have := fit_step j s p σ1 ts0.length hr
  rw [← hus] at this
  simpa [Nat.add_comm] using this
 ·exact doJob_dry j s p σ1 (by rw [h1]; exact fun h => absurd h0 h)
set_option maxHeartbeats 1600000 in
set_option maxRecDepth 100000 in
theorem runx_any {B b : Nat} {F : Nat → Prop} {sb : Nat} {ts : List (Job × Value)} {σ : PSt} {w : World} (h : PIX B b F sb ts σ w) (hT : Tabs w) (hB : tabTop ≤ B) :
 Calls Tryz.prog 49 #[.pointer (some ⟨b, 0, none⟩)] w fun ed w' => ed = .returned (.tuple #[]) ∧ (∃ ts', jsOf ts' = (run (jsOf ts) σ).1 ∧ PIX B b F sb ts' (run (jsOf ts) σ).2 w') ∧ Keeps (GE B) w w' := by
 have H0 := Lib.hid h
 have HT := Lib.hid hT
 obtain ⟨tail0, ⟨vr, vt, vl, va, hp⟩, -, -⟩ := h.mem
 obtain ⟨ao, cp, rfl, -, -⟩ := hp.todo.shape
 have c4 : w.cell? ⟨b, 4, none⟩ = some (.slice ao ts.length cp) := (hp.blk.cell 4).trans (pcells_get ..).2.2.2.2.1
 clear h hT hp
 go_enter Tryz.func49, Tryz.ntmps49
 go_wp2_with fail
 go_loopg [2] σ.rest.length (fun gk nv wr => ∃ (ts' : List (Job × Value)) (σ' : PSt), gk = σ'.rest.length ∧ nv = .int .i64 ts'.length ∧ Hid (PIX B b F sb ts' σ' wr) ∧ Hid (run (jsOf ts) σ = run (jsOf ts') σ') ∧ Hid (Keeps (GE B) w wr))
 case atStart => exact ⟨ts, σ, rfl, rfl, H0, rfl, Keeps.refl _ _⟩
 case round =>
  clear H0 c4
  obtain ⟨ts', σ', rfl, rfl, HP, HR, HK⟩ := hrel
  rcases List.eq_nil_or_concat ts' with rfl | ⟨ts0, t, rfl⟩
  ·obtain ⟨tail, hpa, hca, hfm⟩ := HP.out.mem
   have CA := Lib.hid hca
   have FM := Lib.hid hfm
   have HPA0 := Lib.hid hpa
   clear hca hfm
   have hd0 : decide ((0:Int) < ((([] : List (Job × Value)).length : Nat) : Int)) = false := by decide
   have hfit := HP.out.fit
   cases hrs : σ'.rest with
   | nil =>
     have HE : Hid (run (jsOf ts) σ = ([], σ')) := by show _ = _; rw [HR.out]; show run [] σ' = _; rw [run_nil, if_pos hrs]
     have hdl : decide (0 < σ'.rest.length) = false := by rw [hrs]; decide
     clear hrs
     go_wp2_with fail
     refine (left_any hpa).mono ?_
     rintro e w1 ⟨rfl, rfl⟩
     rw [hdl]
     go_wp2_with fail
     go_end0
     rw [HE.out]
     exact ⟨rfl, ⟨[], rfl, HP.out⟩, HK.out⟩
   | cons x r =>
     have HE : Hid (run (jsOf ts) σ = ([], σ'.fail 10 σ'.at')) := by show _ = _; rw [HR.out]; show run [] σ' = _; rw [run_nil, if_neg (by rw [hrs]; simp)]
     have hdl : decide (0 < σ'.rest.length) = true := by rw [hrs]; simp
     have HA : Hid (∀ n : Nat, Calls Tryz.prog 81 #[.pointer (some ⟨b, 0, none⟩)] (wr.drewN n) fun ed w' => ed = .returned (.int .i64 σ'.at') ∧ wr.drewN n = w') := fun n => at_any (hpa.keeps ((Keeps.refl _ _).drewN n))
     have HF : Hid (∀ n : Nat, Calls Tryz.prog 78 #[.pointer (some ⟨b, 0, none⟩), .int .i64 10, .int .i64 σ'.at'] (wr.drewN n) fun ed w' => ed = .returned (.tuple #[]) ∧ PA B b tail [] (σ'.fail 10 σ'.at') w' ∧ Kp B [TB] wr w') :=
      fun n => (fail_any (hpa.keeps ((Keeps.refl _ _).drewN n)) 10 _).mono fun ed w' ⟨h1, h2, h3⟩ => ⟨h1, h2, ((Kp.refl _ _ _).drewN n).trans h3⟩
     clear hrs
     go_wp2_with fail
     refine (left_any hpa).mono ?_
     rintro e w1 ⟨rfl, rfl⟩
     rw [hdl]
     clear hpa
     go_wp2_with fail
     go_region_with (first
      | (go_at_call 81; refine (HA.out 1).mono ?_; rintro e w1 ⟨rfl, rfl⟩)
      | (go_at_call 78; refine (HF.out 1).mono ?_; rintro e w2 ⟨rfl, h2, k2⟩))
     all_goals (
      go_wp2_with fail
      go_end0
      rw [HE.out]
      exact ⟨rfl, ⟨[], rfl, HP.out.fail _ _ h2 (CA.out.kp k2 (by decide) (by decide)) (FM.out.kp HPA0.out k2 (by decide))⟩, HK.out.gg k2.ge⟩)
  ·rw [List.concat_eq_append] at HP HR ⊢
   obtain ⟨j, f⟩ := t
   obtain ⟨m, hm⟩ : ∃ m, ts0.length = m := ⟨_, rfl⟩
   have hlen : (ts0 ++ [(j, f)]).length = m + 1 := by simp [hm]
   rw [hlen]
   obtain ⟨tail, hp, hca, hfm⟩ := HP.out.mem
   have CA := Lib.hid hca
   have FM := Lib.hid hfm
   have HPA0 := Lib.hid hp
   clear hca hfm
   have hfit : Fit (ts0 ++ [(j, f)]) σ' := HP.out.fit.fit
   have hall := hfit.all
   have htd := hfit.todo
   rw [hlen] at htd
   have hmost : j.most ≤ 1000 := by cases j <;> simp [Job.most]
   have HA : Hid (Calls Tryz.prog 81 #[.pointer (some ⟨b, 0, none⟩)] wr fun ed w' => ed = .returned (.int .i64 σ'.at') ∧ wr = w') := at_any hp
   have HN : Hid (∀ n : Nat, Calls Tryz.prog 82 #[.pointer (some ⟨b, 0, none⟩), .int .i64 j.most] (wr.drewN n) fun ed w' => ed = .returned (.tuple #[.string ⟨((σ'.next j.most).1.getD []).toArray⟩, .bool (σ'.next j.most).1.isSome]) ∧ PA B b tail (ts0 ++ [(j, f)]) (σ'.next j.most).2 w' ∧ Kp B [TB] wr w') :=
    fun n => (next_any (hp.keeps ((Keeps.refl _ _).drewN n)) hfit j.most hmost).mono fun ed w' ⟨h1, h2, h3⟩ => ⟨h1, h2, ((Kp.refl _ _ _).drewN n).trans h3⟩
   obtain ⟨vr', vt', vl', va', hq⟩ := hp
   have hsl := hq.todo
   rw [hlen] at hsl
   obtain ⟨bt, ot, ct, rfl, -, hc1, hc2, -, hcc, -⟩ := hsl.pos (by omega)
   unfold maxLen at hc2
   have c4 : wr.cell? ⟨b, 4, none⟩ = some (.slice (some ⟨bt, ot, none⟩) (m + 1) ct) := (hq.blk.cell 4).trans (pcells_get ..).2.2.2.2.1
   have d0 : wr.cell? ⟨bt, ot + m * 2, none⟩ = some (.int .i64 j.most) := by
    rw [hcc _ (by omega)]
    have := (wantCells_at (ts0 ++ [(j, f)]) m (by omega)).1
    rw [this]
    simp [← hm]
   have HM := Lib.hid hm
   have HLEN := Lib.hid hlen
   clear hq hsl hcc hm hlen hfit
   have q0 : decide ((0:Int) < (((m + 1 : Nat)) : Int)) = true := by simp
   have q0' : decide ((0:Int) < (m : Int) + 1) = true := by simp
   have q1 : IntKind.i64.wrap (m : Int) = (m : Int) := IntWalk.i64_in _ (by omega)
   have q2 : (0 : Int) ≤ (m : Int) := by omega
   have q3 : (m : Int) < (m : Int) + 1 := by omega
   have q4 : m < m + 1 := by omega
   have q5 : (0 : Int) < (m : Int) + 1 := by omega
   have q6 : IntKind.i64.wrap ((m : Int) + 1 - 1) = (m : Int) := by rw [IntWalk.i64_in _ (by omega)]; omega
   go_wp2_with fail
   refine HA.out.mono ?_
   rintro e w1 ⟨rfl, rfl⟩
   go_upto_region 4 with (fail)
   obtain ⟨nx, hnx⟩ : ∃ nx, σ'.next j.most = nx := ⟨_, rfl⟩
   rw [hnx] at HN
   obtain ⟨o, σ1⟩ := nx
   have HNX := Lib.hid hnx
   clear hnx
   simp only at HN
   go_region_with (go_at_call 82; refine (HN.out 1).mono ?_; rintro e w2 ⟨rfl, h2, k2⟩)
   all_goals (
    have H2 := Lib.hid h2
    have K2 : Hid (Keeps (GE B) w w2) := HK.out.gg k2.ge
    have CA2 := Lib.hid (CA.out.kp k2 (by decide) (by decide))
    have FM2 := Lib.hid (FM.out.kp HPA0.out k2 (by decide))
    clear h2 k2 HN HA HK CA FM HPA0 c4 d0
    cases o with
    | none =>
      have hr : run (jsOf (ts0 ++ [(j, f)])) σ' = (jsOf (ts0 ++ [(j, f)]), σ1) := by rw [jsOf_snoc]; exact run_stop HNX.out
      have HRR : Hid (run (jsOf ts) σ = (jsOf (ts0 ++ [(j, f)]), σ1)) := HR.out.trans hr
      have hpi : PIX B b F sb (ts0 ++ [(j, f)]) σ1 w2 := by
       rcases next_none HNX.out with e | ⟨e0, e⟩
       ·rw [e] at H2 ⊢; exact ⟨⟨_, H2.out, CA2.out, FM2.out⟩, HP.out.shape, HP.out.ok, HP.out.fit, HP.out.dry, HP.out.fx, HP.out.oka⟩
       ·rw [e] at H2 ⊢; exact HP.out.fail _ _ H2.out CA2.out FM2.out
      have HPI := Lib.hid hpi
      clear hpi hr
      go_wp2_with fail
      refine bodyPost_ret (results_none rfl _ _ _) rfl ?_
      rw [HRR.out]
      exact ⟨rfl, ⟨_, rfl, HPI.out⟩, K2.out⟩
    | some s =>
      obtain ⟨he0, k, hk8, hks, hkl, hsm, hs1⟩ := next_some HNX.out
      have HE0 := Lib.hid he0
      have HS1 := Lib.hid hs1
      have hr : run (jsOf (ts0 ++ [(j, f)])) σ' = run ((doJob j s σ'.at' σ1).1 ++ jsOf ts0) (doJob j s σ'.at' σ1).2 := by
       rw [jsOf_snoc, HS1.out]
       exact run_got hk8 hkl (HNX.out.trans (by rw [HS1.out]))
      obtain ⟨r4, hr4⟩ : ∃ r4, doJob j s σ'.at' σ1 = r4 := ⟨_, rfl⟩
      rw [hr4] at hr
      have HR4 := Lib.hid hr4
      have HRR := Lib.hid (HR.out.trans hr)
      clear hr4
      have hab : σ1.above = σ'.above := by rw [HS1.out]
      have hfit1 : FitJ (ts0.length + 1) σ1 := by
       have h1 := (Room.of (by simpa using HP.out.fit : FitJ (ts0.length + 1) σ') hkl hks).fit (i := ts0.length + 1) (by omega)
       rw [HS1.out]; exact h1
      have hok1 := HP.out.ok
      rw [jsOf_snoc] at hok1
      have HNEED : Hid (j.needs = true → 1 ≤ σ1.above.length) := by rw [hab]; exact hok1.1
      obtain ⟨vr2, vt2, vl2, va2, hq⟩ := H2.out
      have hsl := hq.todo
      rw [HLEN.out] at hsl
      obtain ⟨b2, o2, c2, rfl, -, hc3, hc4, -, hcc, -⟩ := hsl.pos (by omega)
      unfold maxLen at hc4
      have d4 : w2.cell? ⟨b, 4, none⟩ = some (.slice (some ⟨b2, o2, none⟩) (m + 1) c2) := (hq.blk.cell 4).trans (pcells_get ..).2.2.2.2.1
      have d1 : w2.cell? ⟨b2, o2 + m * 2 + 1, none⟩ = some f := by
       rw [Nat.add_assoc, hcc _ (by omega)]
       have := (wantCells_at (ts0 ++ [(j, f)]) m (by rw [HLEN.out]; omega)).2
       rw [this]
       simp [← HM.out]
      have g4 := hq.blk.free 4
      have hjob : JobAt w2 b j f := hq.jobs (j, f) (by simp)
      have HQ := Lib.hid hq
      have HJ := Lib.hid hjob
      have q7 : (m : Int) ≤ (c2 : Int) := by omega
      have q8 : m ≤ c2 := by omega
      have hnl := hfit1.nodes
      have hal := hfit1.above
      have hat := hfit1.all
      have htl := hfit1.todo
      have hdirs := Lib.hid hfit1.dirs
      have HFIT := Lib.hid hfit1
      have HOK := Lib.hid hok1
      have HAB := Lib.hid hab
      rw [HM.out] at htl
      clear he0 hs1 hr hab hok1 hsl hcc hq hjob hfit1 H2
      go_upto_region 8 with (fail)
      have hst := take_step HQ.out HM.out
      have H3 := Lib.hid hst.1
      have J3 : Hid (JobAt _ b j f) := HJ.out.kp hst.2 (by intro T hT; simp only [List.mem_singleton] at hT; subst hT; simp)
      have K3 := Lib.hid (K2.out.gg hst.2.ge)
      have CA3' := CA2.out.kp hst.2 (by decide) (by decide)
      have hx1 : σ'.x = σ1.x := by rw [HS1.out]
      rw [hx1] at CA3'
      have CA3 := Lib.hid CA3'
      have FM3 := Lib.hid ((FM2.out.kp ⟨_, _, _, _, HQ.out⟩ hst.2 (by decide)).sub)
      clear hst HQ HJ K2 d4 d1 g4 CA2 CA3' hx1 FM2
      generalize World.setCell w2 _ _ = w3 at *
      have HP3 : Hid (PA B b tail ts0 σ1 w3) := ⟨_, _, _, _, H3.out⟩
      have HT3 : Hid (Tabs w3) := HT.out.ge K3.out hB
      clear H3
      cases j
      case' word may act =>
       obtain ⟨bm, bp, bt3, vm, rfl, j1, j2, j3, j4⟩ := J3.out
       have HC := Lib.hid (word1_any HP3.out may act ⟨s.toArray⟩ σ'.at' bm bp bt3 vm j1 j2 j3 j4 (by omega) (by omega) (by have := HM.out; omega) HNEED.out)
       clear j1 j2 j3 j4
       go_wp2_with fail
       refine HC.out.mono ?_
       rintro e w4 hd'
       have hd : DidX B b ts0 r4 F sb w3 e w4 := by rw [← HR4.out]; exact hd'.x HP3.out CA3.out FM3.out (doJob_x _ _ _ _ (by simp) (by simp) (by simp))
       clear hd'
      case' leads =>
       obtain rfl := J3.out
       have HC := Lib.hid (leads_any HP3.out ⟨s.toArray⟩ (by show s.toArray.size ≤ _; simp [maxLen]; omega) σ'.at' (by omega))
       go_wp2_with fail
       refine HC.out.mono ?_
       rintro e w4 ⟨e1, h4, k4⟩
       have hd : DidX B b ts0 r4 F sb w3 e w4 := by rw [← HR4.out]; exact (Did.plain e1 rfl h4 k4 (by simp)).x HP3.out CA3.out FM3.out (doJob_x _ _ _ _ (by simp) (by simp) (by simp))
       clear e1 h4 k4
      case' name =>
       obtain rfl := J3.out
       have hnp := HNEED.out rfl
       obtain ⟨ab, o, hao⟩ : ∃ ab o, σ1.above = ab ++ [o] := by
        rcases List.eq_nil_or_concat σ1.above with e | ⟨l, o, e⟩
        ·rw [e] at hnp; simp at hnp
        ·exact ⟨l, o, by rw [e, List.concat_eq_append]⟩
       obtain ⟨op, ol⟩ := o
       have hol := (hdirs.out (op, ol) (by rw [hao]; simp)).1
       have habl : ab.length ≤ 1099511627776 := by rw [hao] at hal; simp at hal; omega
       have HC := Lib.hid (pname_any HP3.out HT3.out ⟨s.toArray⟩ (by show s.toArray.size ≤ _; simp; simp [Job.most] at hsm; omega) σ'.at' ab op ol hao habl (by simp only at hol; omega))
       clear hao hol habl hnp
       go_wp2_with fail
       refine HC.out.mono ?_
       rintro e w4 ⟨e1, h4, k4⟩
       have hd : DidX B b ts0 r4 F sb w3 e w4 := by rw [← HR4.out]; exact (Did.plain e1 rfl h4 k4 (by simp)).x HP3.out CA3.out FM3.out (doJob_x _ _ _ _ (by simp) (by simp) (by simp))
       clear e1 h4 k4
      case' keep kd =>
       obtain ⟨bp, bk, rfl, j1, j2⟩ := J3.out
       have HC := Lib.hid (keep_any HP3.out ⟨s.toArray⟩ σ'.at' kd bp bk j1 j2 (by omega))
       clear j1 j2
       go_wp2_with fail
       refine HC.out.mono ?_
       rintro e w4 hd'
       have hd : DidX B b ts0 r4 F sb w3 e w4 := by rw [← HR4.out]; exact hd'.x HP3.out CA3.out FM3.out (doJob_x _ _ _ _ (by simp) (by simp) (by simp))
       clear hd'
      case' cpath =>
       obtain rfl := J3.out
       have HC := Lib.hid (cpath_any HP3.out CA3.out s (by simp [Job.most] at hsm; omega) σ'.at' (by have := HM.out; omega) (by
        have h1 := HP.out.shape
        rw [jsOf_snoc] at h1
        intro t ht e
        have h2 := jsOf_all (show jsOf ts0 = [] from h1) t ht
        simp at h2))
       unfold sv at HC
       go_wp2_with fail
       refine HC.out.mono ?_
       rintro e w4 hd'
       have hd : DidX B b ts0 r4 F sb w3 e w4 := by rw [← HR4.out]; exact hd'
       clear hd'
      case' cref =>
       obtain rfl := J3.out
       have hx2 : σ1.x = σ'.x := by rw [HS1.out]
       have hr1 : σ1.x.refs.length ≤ 549755813888 := by
        have h1 := HP.out.fx.refs
        rw [hx2]
        omega
       have hr2 : ∀ r ∈ σ1.x.refs, r.length ≤ 549755813888 := by rw [hx2]; exact HP.out.fx.rsz
       have hr3 : σ1.x.name.length ≤ 549755813888 := by rw [hx2]; exact HP.out.fx.name
       have hr4 : ∀ t ∈ ts0, t.1 = moreJob := by
        have h1 := HP.out.shape
        rw [jsOf_snoc] at h1
        intro t ht
        simpa using jsOf_all (show jsOf ts0 = [moreJob] from h1) t ht
       have HC := Lib.hid (cref_any HP3.out CA3.out s (by simp [Job.most] at hsm; omega) σ'.at' hr1 hr2 hr3 hr4 FM3.out)
       clear hx2 hr1 hr2 hr3 hr4
       unfold sv at HC
       go_wp2_with fail
       refine HC.out.mono ?_
       rintro e w4 hd'
       have hd : DidX B b ts0 r4 F sb w3 e w4 := by rw [← HR4.out]; exact hd'
       clear hd'
      case' csum =>
       obtain rfl := J3.out
       have hfx1 : FitX σ1 := by
        have h1 := HP.out.fx
        rw [HS1.out]
        exact ⟨h1.nsz, h1.name, Nat.le_trans h1.refs (Nat.le_add_right _ _), h1.rsz, Nat.le_trans h1.came (Nat.le_add_right _ _), Nat.le_trans h1.order (Nat.le_add_right _ _), h1.osz, h1.fit, h1.once⟩
       have h30 : σ1.nodes.length ≤ 30 := by
        obtain ⟨f0, -, hc0⟩ := HP.out.oka
        rw [HS1.out]
        exact (hc0 HE0.out).1
       have HC := Lib.hid (csum_any HP3.out CA3.out s (by simp [Job.most] at hsm; omega) σ'.at' hfx1 h30 (by omega) (by
        have h1 := HP.out.shape
        rw [jsOf_snoc] at h1
        intro t ht
        simpa using jsOf_all (show jsOf ts0 = [nextJob] from h1) t ht) FM3.out)
       clear hfx1 h30
       unfold sv at HC
       go_wp2_with fail
       refine HC.out.mono ?_
       rintro e w4 hd'
       have hd : DidX B b ts0 r4 F sb w3 e w4 := by rw [← HR4.out]; exact hd'
       clear hd'
      all_goals (
       obtain rfl := hd.1
       obtain ⟨us, tail4, hus, hpa4, hca4, hfm4⟩ := hd.2.1
       have K4 : Hid (Keeps (GE B) w w4) := K3.out.gg hd.2.2
       have hstep := job_step (us := us) (p := σ'.at') HP.out.ok HP.out.fit HE0.out hk8 hks hkl HS1.out (by rw [HR4.out]; exact hus)
       rw [HR4.out] at hstep
       have hstepx := job_stepX (us := us) (p := σ'.at') HP.out.fx HP.out.oka HP.out.fit HE0.out hk8 hks hkl HS1.out (by rw [HR4.out]; exact hus)
       rw [HR4.out] at hstepx
       have hpi : PIX B b F sb (ts0 ++ us) r4.2 w4 := ⟨⟨tail4, hpa4, hca4, hfm4⟩, by
        have h1 := HP.out.shape
        rw [jsOf_snoc] at h1
        have h2 := okS_step _ _ s σ'.at' σ1 h1
        rw [HR4.out] at h2
        rw [jsOf_append, hus]
        exact h2, hstep.1, hstep.2.1, hstep.2.2, hstepx.1, hstepx.2⟩
       have hrl : r4.2.rest.length < σ'.rest.length := by
        rw [← HR4.out]
        refine Nat.lt_of_le_of_lt (doJob_rest _ s σ'.at' σ1) ?_
        rw [HS1.out]
        simp only [List.length_drop]
        omega
       have HRUN : Hid (run (jsOf ts) σ = run (jsOf (ts0 ++ us)) r4.2) := by
        show _ = _
        rw [HRR.out, jsOf_append, hus]
       have HPI := Lib.hid hpi
       obtain ⟨vr4, vt4, vl4, va4, hq4⟩ := hpa4
       obtain ⟨a4, c4, rfl, -, -⟩ := hq4.todo.shape
       have d4 : w4.cell? ⟨b, 4, none⟩ = some (.slice a4 (ts0 ++ us).length c4) := (hq4.blk.cell 4).trans (pcells_get ..).2.2.2.2.1
       clear hd hq4 hus hstep hstepx hpi hca4 hfm4 HC
       go_wp2_with fail
       go_roundg (r4.2.rest.length))
      all_goals first
       | (case measure => exact hrl)
       | (case rel => exact ⟨ts0 ++ us, r4.2, rfl, by rw [List.length_append, Int.natCast_add], HPI, HRUN, K4⟩))
end Go.Proofs.YtdkogijdfgfpeaaGreatDoor
namespace Go.Proofs.YtdkogijdfgfpeaaGreatDoor
open Go Go.RowKit Go.MapKept Go.ChangeShapes Go.WideShapes Go.ChangeMaps
theorem runF_sum : ∀ (f : Nat) (js : List Job) (σ : PSt), (runF f js σ).2.at' + (runF f js σ).2.rest.length ≤ σ.at' + σ.rest.length
 | 0, _, _ => Nat.le_refl _
 | f + 1, [], σ => by
   simp only [runF]
   split
   ·exact Nat.le_refl _
   ·have := fail_above σ 10 σ.at'; omega
 | f + 1, j :: js, σ => by
   simp only [runF]
   cases hn : σ.next j.most with
   | mk o σ1 =>
     cases o with
     | none =>
       simp only
       rcases next_none hn with e | ⟨e0, e⟩
       ·rw [e]; exact Nat.le_refl _
       ·rw [e]; have := fail_above σ e0 σ.at'; omega
     | some s =>
       simp only
       obtain ⟨-, k, h1, h2, h3, h4, h5⟩ := next_some hn
       have := runF_sum f ((doJob j s σ.at' σ1).1 ++ js) (doJob j s σ.at' σ1).2
       have h6 := doJob_rest j s σ.at' σ1
       have h7 := doJob_at j s σ.at' σ1
       have h8 : σ1.at' + σ1.rest.length = σ.at' + σ.rest.length := by rw [h5]; simp only [List.length_drop]; omega
       omega
theorem run_sum (js : List Job) (σ : PSt) : (run js σ).2.at' + (run js σ).2.rest.length ≤ σ.at' + σ.rest.length := runF_sum _ js σ
theorem feed_sum (σ : PSt) (t : List UInt8) : (σ.feed t).at' + (σ.feed t).rest.length ≤ σ.at' + σ.rest.length + t.length := by
 unfold PSt.feed; split
 ·simp only [List.length_append]; omega
 ·omega
theorem PIX.feed {B b : Nat} {F : Nat → Prop} {s : Nat} {ts : List (Job × Value)} {σ : PSt} {w w' : World} (h : PIX B b F s ts σ w) (t : List UInt8) (hs : σ.at' + σ.rest.length + t.length ≤ 549755813888) {tail : PT} (hp : PA B b tail ts (σ.feed t) w') (hc : CAt w' B tail σ.x F s) (hf : FarM w' tail.cells ts) : PIX B b F s ts (σ.feed t) w' := by
 have hsum := feed_sum σ t
 have e : (σ.feed t).above = σ.above ∧ (σ.feed t).nodes = σ.nodes ∧ (σ.feed t).path = σ.path ∧ (σ.feed t).at' = σ.at' ∧ (σ.feed t).x = σ.x := by unfold PSt.feed; split <;> exact ⟨rfl, rfl, rfl, rfl, rfl⟩
 obtain ⟨e1, e2, e3, e4, e5⟩ := e
 refine ⟨⟨tail, hp, by rw [e5]; exact hc, hf⟩, h.shape, by rw [e1]; exact h.ok, ?_, h.dry.feed t, ?_, ?_⟩
 ·obtain ⟨h1, h2, h3, h4, h5, h6⟩ := h.fit
  exact ⟨by omega, by rw [e4]; exact h2, by rw [e2, e4]; exact h3, by rw [e1, e4]; exact h4, by rw [e3, e4]; exact h5, fun o ho => by rw [e4]; exact h6 o (by rwa [e1] at ho)⟩
 ·obtain ⟨h1, h2, h3, h4, h5, h6, h7, h8, h9⟩ := h.fx
  exact ⟨by rw [e2]; exact h1, by rw [e5]; exact h2, by rw [e5, e4]; exact h3, by rw [e5]; exact h4, by rw [e5, e4]; exact h5, by rw [e5, e4]; exact h6, by rw [e5]; exact h7, by rw [e5]; exact h8, by rw [e5]; exact h9⟩
 ·obtain ⟨f, h1, h2⟩ := h.oka
  refine ⟨f, h1, fun h0 => ?_⟩
  rw [e2]
  refine h2 ?_
  unfold PSt.feed at h0
  split at h0
  ·assumption
  ·exact h0
set_option maxHeartbeats 800000 in
set_option maxRecDepth 100000 in
theorem pclosex_any {B b : Nat} {tail : PT} {ts : List (Job × Value)} {σ : PSt} {w : World} (h : PA B b tail ts σ w) (hfit : Fit ts σ) :
 Calls Tryz.prog 50 #[.pointer (some ⟨b, 0, none⟩)] w fun ed w' => ed = .returned (.tuple #[.int .i64 (finish (jsOf ts, σ)).err, .int .i64 (finish (jsOf ts, σ)).bad]) ∧ PA B b tail ts (finish (jsOf ts, σ)) w' ∧ Kp B [TB] w w' := by
 have H := Lib.hid h
 have HFIT := Lib.hid hfit
 obtain ⟨vr, vt, vl, va, hp⟩ := h
 obtain ⟨ao, cp, rfl, -, -⟩ := hp.todo.shape
 have c4 : w.cell? ⟨b, 4, none⟩ = some (.slice ao ts.length cp) := (hp.blk.cell 4).trans (pcells_get ..).2.2.2.2.1
 clear hp hfit
 by_cases ht : ts.length = 0
 ·have hd : decide ((0 : Int) < (ts.length : Int)) = false := decide_eq_false (by omega)
  have hd2 : decide (0 < ts.length) = false := decide_eq_false (by omega)
  have HF : Hid (finish (jsOf ts, σ) = σ) := by
   show _ = _
   rw [finish, if_pos (List.eq_nil_of_length_eq_zero (by rw [jsOf_length]; exact ht))]
  clear ht
  go_enter Tryz.func50, Tryz.ntmps50
  go_wp2_with fail
  refine (err_any H.out).mono ?_
  rintro e w1 ⟨rfl, hk⟩
  have H1 := Lib.hid (H.out.keeps hk)
  have K1 : Hid (Kp B [TB] w w1) := Kp.of_keeps hk
  clear hk
  go_wp2_with fail
  go_ret2
  rw [HF.out]
  exact ⟨rfl, H1.out, K1.out⟩
 ·have hd : decide ((0 : Int) < (ts.length : Int)) = true := decide_eq_true (by omega)
  have hd2 : decide (0 < ts.length) = true := decide_eq_true (by omega)
  have HF : Hid (finish (jsOf ts, σ) = σ.fail 2 ((σ.at' : Int) + (σ.rest.length : Int))) := by
   show _ = _
   rw [finish, if_neg]
   intro e
   have := jsOf_length ts
   rw [show jsOf ts = [] from e] at this
   exact ht this.symm
  clear ht
  go_enter Tryz.func50, Tryz.ntmps50
  go_wp2_with fail
  refine (end_any H.out HFIT.out).mono ?_
  rintro e w1 ⟨rfl, h1, k1⟩
  have H1 := Lib.hid h1
  have K1 := Lib.hid k1
  clear h1 k1
  go_wp2_with fail
  refine (err_any H1.out).mono ?_
  rintro e w2 ⟨rfl, hk⟩
  have H2 := Lib.hid (H1.out.keeps hk)
  have K2 : Hid (Kp B [TB] w w2) := K1.out.trans (Kp.of_keeps hk)
  clear hk
  go_wp2_with fail
  go_ret2
  rw [HF.out]
  exact ⟨rfl, H2.out, K2.out⟩
theorem StoreAt.wide {F F' : Nat → Prop} {w : World} {s : Nat} {L : Ents} (h : StoreAt w F s L) (hf : ∀ k, F k → F' k) (htop : ∀ k, F' k → tabTop ≤ k) (hlt : ∀ k, F' k → k < w.heap.size) : StoreAt w F' s L := by
 obtain ⟨mb, m, h1, h2, h3, h4, h5, h6⟩ := h.map
 exact ⟨htop, hlt, hf _ h.own, h.ok, h.fit, mb, m, hf _ h1, h2, h3, h4, h5, fun e he => by
  obtain ⟨p, hp, hE⟩ := h6 e he
  exact ⟨p, hp, hE.wide hf⟩⟩
theorem StoreAt.putI {F : Nat → Prop} {w w9 : World} {s sm p : Nat} {L : Ents} {m : MapL} {e : Ent} (hs : StoreAt w F s L) (hF : F sm) (hsb : Blk w s #[.map (some sm)] TS) (hm : MapAt w sm m) (hlen : m.length = L.length) (h5 : ∀ x ∈ m, ∃ e ∈ L, e.path = x.1) (h6 : ∀ e ∈ L, ∃ p, getM m e.path = some (pv p) ∧ EntAt w F p e)
 (hE : EntAt w F p e) (hfn : findE L e.path = none) (hm9 : MapAt w9 sm (putM m e.path (pv p))) (hk9 : Keeps (One sm) w w9) (hok : StoreOk (putE L e)) (hfit : EntFit e) : StoreAt w9 F s (putE L e) := by
 have hgn : getM m e.path = none := getM_none.2 fun x hx e2 => by
  obtain ⟨e', he', hex⟩ := h5 x hx
  exact findE_none.1 hfn e' he' (hex.trans e2)
 have hp : putM m e.path (pv p) = m ++ [(e.path, pv p)] := by rw [putM, hgn]; rfl
 rw [hp] at hm9
 have hnd := hm9.nodup
 have hne : ∀ b c T fr, w.heap[b]? = some (.cells c T fr) → ¬ One sm b := fun b c T fr hc e2 => hm.notcells hc e2
 refine ⟨hs.top, fun k hk => Nat.lt_of_lt_of_le (hs.lt k hk) hk9.size, hs.own, hok, fun x hx => ?_, sm, m ++ [(e.path, pv p)], hF, hsb.keeps hk9 (hne s _ _ _ hsb), hm9, ?_, fun x hx => ?_, fun x hx => ?_⟩
 ·rcases putE_mem.1 hx with rfl | hx
  ·exact hfit
  ·exact hs.fit x hx
 ·rw [putE_length, List.length_append, hlen]; rfl
 ·rcases List.mem_append.1 hx with hx | hx
  ·obtain ⟨e', he', hex⟩ := h5 x hx
   exact ⟨e', putE_mem.2 (.inr he'), hex⟩
  ·obtain rfl := List.mem_singleton.1 hx
   exact ⟨e, putE_mem.2 (.inl rfl), rfl⟩
 ·rcases putE_mem.1 hx with rfl | hx
  ·exact ⟨p, (getM_mem hnd).2 (List.mem_append.2 (.inr (List.mem_singleton.2 rfl))), hE.keeps hk9 fun b c T fr _ hc => hne b c T fr hc⟩
  ·obtain ⟨q, hq, hqe⟩ := h6 x hx
   exact ⟨q, (getM_mem hnd).2 (List.mem_append.2 (.inl ((getM_mem hm.nodup).1 hq))), hqe.keeps hk9 fun b c T fr _ hc => hne b c T fr hc⟩
def comingCells (s mb : Nat) : Array Value := pcells (.slice none 0 0) 0 0 0 (.slice none 0 0) (.slice none 0 0) (.slice none 0 0) [] [pv s, .map (some mb), .slice none 0 0, sv [], .slice none 0 0]
def tail0 (s mb : Nat) : PT := ⟨[pv s, .map (some mb), .slice none 0 0, sv [], .slice none 0 0], []⟩
theorem pix_start {w : World} {F : Nat → Prop} {s : Nat} {has : Ents} (h : StoreAt w F s has) :
 PIX w.heap.size (w.heap.size + 1) F s [] (freshX has) ((w.alloc (.map #[] 0)).alloc (.cells (comingCells s w.heap.size) TB)) ∧ PA w.heap.size (w.heap.size + 1) (tail0 s w.heap.size) [] (freshX has) ((w.alloc (.map #[] 0)).alloc (.cells (comingCells s w.heap.size) TB)) ∧ CAt ((w.alloc (.map #[] 0)).alloc (.cells (comingCells s w.heap.size) TB)) w.heap.size (tail0 s w.heap.size) (startX has) F s := by
 have hk : Keeps Non w ((w.alloc (.map #[] 0)).alloc (.cells (comingCells s w.heap.size) TB)) := ((Keeps.refl _ _).alloc _).alloc _
 have hb : Blk ((w.alloc (.map #[] 0)).alloc (.cells (comingCells s w.heap.size) TB)) (w.heap.size + 1) (comingCells s w.heap.size) TB := by
  have := Blk.new (w.alloc (.map #[] 0)) (comingCells s w.heap.size) TB
  simpa using this
 have hm : MapAt ((w.alloc (.map #[] 0)).alloc (.cells (comingCells s w.heap.size) TB)) w.heap.size [] := (MapAt.made w).keeps ((Keeps.refl Non _).alloc _) (fun h => h)
 have hpa : PA w.heap.size (w.heap.size + 1) (tail0 s w.heap.size) [] (freshX has) ((w.alloc (.map #[] 0)).alloc (.cells (comingCells s w.heap.size) TB)) :=
  ⟨_, _, _, _, hb, by omega, Sl.nil _ _ _ _, Sl.nil _ _ _ _, Sl.nil _ _ _ _, Sl.nil _ _ _ _, (by intro t ht; cases ht), (by intro t ht; cases ht)⟩
 have hca : CAt ((w.alloc (.map #[] 0)).alloc (.cells (comingCells s w.heap.size) TB)) w.heap.size (tail0 s w.heap.size) (startX has) F s :=
  ⟨h.non hk, h.lt, w.heap.size, _, _, [], rfl, ⟨Nat.le_refl _, hm, List.Perm.nil, (by intro e he; cases he), Sl.nil _ _ _ _, Sl.nil _ _ _ _, (by intro k hk; cases hk), fun _ => rfl⟩⟩
 refine ⟨⟨⟨tail0 s w.heap.size, hpa, hca, ?_⟩, trivial, trivial, ?_, fun h => absurd rfl h, ?_, true, trivial, ?_⟩, hpa, hca⟩
 ·exact fun v => ⟨fun _ t ht => (by cases ht), fun _ t ht => (by cases ht)⟩
 ·exact ⟨by show (0 : Nat) ≤ _; omega, by show (0 : Nat) ≤ _; omega, Nat.le_refl _, Nat.le_refl _, Nat.le_refl _, by intro o ho; cases ho⟩
 ·exact ⟨(by intro n hn; cases hn), Nat.zero_le _, Nat.le_refl _, (by intro n hn; cases hn), Nat.le_refl _, Nat.le_refl _, (by intro n hn; cases hn), (by intro n hn; cases hn), List.Pairwise.nil⟩
 ·exact fun _ => ⟨Nat.zero_le _, fun _ => Nat.zero_le _⟩
theorem pix_planned {w : World} {B b : Nat} {F : Nat → Prop} {s : Nat} {has : Ents} {w' : World} (h : PIX B b F s [] (freshX has) w) {mb : Nat}
 {ts : List (Job × Value)} (ht : jsOf ts = importJobs) (h2 : PA B b (tail0 s mb) ts (freshX has) w') (hc2 : CAt w' B (tail0 s mb) (startX has) F s) : PIX B b F s ts (freshX has) w' := by
 have hl : ts.length = 2 := by rw [← jsOf_length, ht]; rfl
 refine ⟨⟨tail0 s mb, h2, hc2, fun v => ⟨fun hv t htt he => ?_, fun hv t htt he => ?_⟩⟩, ?_, ?_, ?_, h.dry, h.fx, true, ?_, fun _ => ⟨Nat.zero_le _, fun _ => Nat.zero_le _⟩⟩
 ·have := jsOf_all ht t htt
  rw [he] at this
  exact absurd this (by decide)
 ·have hve : v = .slice none 0 0 := by simpa [tail0] using hv.symm
  rw [hve]
  intro bm bp bt vm _ _
  exact ahead_nil _ _ _ _
 ·rw [ht]; exact rfl
 ·rw [ht]; exact ⟨(fun e => nomatch e), (fun e => nomatch e), trivial⟩
 ·obtain ⟨g1, g2, g3, g4, g5, g6⟩ := h.fit
  exact ⟨g1, by rw [hl]; show 2 ≤ 0 + 4; omega, g3, g4, g5, g6⟩
 ·rw [ht]; exact ⟨(fun e => nomatch e), (fun e => nomatch e), trivial⟩
end Go.Proofs.YtdkogijdfgfpeaaGreatDoor
