/- (*store.Store).Import. -/
import Derived.Test.YtdkogijdfgfpeaaGreatDoorVILoop
set_option linter.unusedVariables false
namespace Go.Proofs.YtdkogijdfgfpeaaGreatDoor
open Go Go.RowKit Go.MapKept Go.ChangeShapes Go.WideShapes Go.ChangeMaps
theorem Rd.lowI {W0 w : World} {size n : Nat} {v : Value} {xs : List Value} (h : Rd W0 size v n xs) (k : Below W0.heap.size W0 w) : Rd w size v n xs := by
 obtain ⟨h1, h2 | ⟨b', off, cap, rfl, h2, h3, h4, h5⟩⟩ := h
 ·exact ⟨h1, .inl h2⟩
 ·exact ⟨h1, .inr ⟨_, _, _, rfl, h2, h3, Nat.lt_of_lt_of_le h4 k.size, fun j hj => (k.cell (p := ⟨b', off + j, none⟩) h4).trans (h5 j hj)⟩⟩
def ImpPost (w : World) (F : Nat → Prop) (s : Nat) (has : Ents) (S : List UInt8) (ed : Ending) (w' : World) : Prop :=
 match importL has S with
 | .error e => ed = .returned (.tuple #[.slice none 0 0, .int .i64 e.1, .int .i64 e.2]) ∧ Keeps Non w w'
 | .ok x => ∃ v, ed = .returned (.tuple #[v, .int .i64 0, .int .i64 0]) ∧ Sl w' w.heap.size TSr 1 v (commitL has x.came).2.length (svs (commitL has x.came).2) ∧
  (∃ F', StoreAt w' F' s (commitL has x.came).1 ∧ (∀ k, F' k → F k ∨ (w.heap.size ≤ k ∧ k < w'.heap.size)) ∧ ∀ k, v.ownBlock = some k → ¬ F' k) ∧ Keeps F w w'
theorem keeps_ge_non {w w' : World} (h : Keeps (GE w.heap.size) w w') : Keeps Non w w' := ⟨h.os, h.tape, h.output, h.size, fun k hk _ => h.block k hk fun e => by have : w.heap.size ≤ k := e; omega⟩
theorem commit_len (has : Ents) : ∀ came : Ents, (commitL has came).2.length ≤ came.length := by
 intro came
 have h : ∀ (l : Ents) (y : Ents × List (List UInt8)), (l.foldl comF y).2.length ≤ y.2.length + l.length := by
  intro l
  induction l with
  | nil => intro y; exact Nat.le_refl _
  | cons e r ih =>
    intro y
    have h1 := ih (comF y e)
    have h2 : (comF y e).2.length ≤ y.2.length + 1 := by
     unfold comF
     split
     ·exact Nat.le_succ _
     ·simp
    simp only [List.foldl_cons, List.length_cons]
    omega
 simpa [commitL] using h came (has, [])
theorem commit_succ {has came : Ents} {k : Nat} {e : Ent} (h : came[k]? = some e) : commitL has (came.take (k + 1)) = comF (commitL has (came.take k)) e := by
 have ht : came.take (k + 1) = came.take k ++ [e] := by rw [List.take_add_one, h]; rfl
 rw [ht, commit_snoc]
theorem CEnt.ent {w : World} {B : Nat} {tail : PT} {vo vr : Value} {p b : Nat} {e : Ent} {ts : List (Job × Value)} {σ : PSt} {F : Nat → Prop} (h : CEnt w B tail vo vr p e) (hpa : PA B b tail ts σ w) : EntAt w (fun k => F k ∨ (B ≤ k ∧ k < w.heap.size)) p e := by
 obtain ⟨vt, ur, h1, h2, h3, h4, h5⟩ := h.blk
 obtain ⟨_, _, _, _, hp⟩ := hpa
 have h6 := (hp.kept _ h2).1
 exact ⟨.inr ⟨h.le, h1.lt⟩, vt, ur, h1, h6.rd, h3.rd, fun k hk => .inr (h6.own k hk), fun k hk => .inr (h3.own k hk)⟩
set_option maxHeartbeats 6400000 in
set_option maxRecDepth 100000 in
theorem import_any {F : Nat → Prop} {s : Nat} {has : Ents} (w : World) (h : StoreAt w F s has) (hT : Tabs w) (ps : List (List UInt8)) (v : Value) (hv : Rd w 1 v ps.length (svs ps)) (hl : ps.flatten.length ≤ 549755813888) (hpl : ps.length ≤ 1099511627776) :
 Calls Tryz.prog 21 #[pv s, v] w (ImpPost w F s has ps.flatten) := by
 obtain ⟨va, vc, rfl, hv1, hv2⟩ := hv.shape
 have HST := Lib.hid h
 have HT := Lib.hid hT
 have HV := Lib.hid hv
 have HX0 := Lib.hid (pix_start h)
 have hmm := @run_makeMap Tryz.prog
 have HTE : Hid (Tryz.prog.underlying 82 = some (.map 9 81)) := Tryz.underlying82
 have HK0 : Hid (Keeps Non w ((w.alloc (.map #[] 0)).alloc (.cells (comingCells s w.heap.size) TB))) := ((Keeps.refl _ _).alloc _).alloc _
 have HTOP : Hid (tabTop ≤ w.heap.size) := hT.top
 unfold maxLen at hv2
 clear h hT hv
 unfold pv
 unfold comingCells pcells pv sv at HX0 HK0
 go_enter Tryz.func21, Tryz.ntmps21
 go_upto_region 2 with (fail)
 obtain ⟨w1, hw1⟩ : ∃ w1, (w.alloc (.map #[] 0)).alloc (.cells (List.toArray [.slice none 0 0, .int .i64 0, .int .i64 0, .int .i64 0, .slice none 0 0, .slice none 0 0, .slice none 0 0, .string ⟨#[]⟩, .pointer (some ⟨s, 0, none⟩), .map (some w.heap.size), .slice none 0 0, .string ⟨#[]⟩, .slice none 0 0]) TB) = w1 := ⟨_, rfl⟩
 have HX1 : Hid (PIX w.heap.size (w.heap.size + 1) F s [] (freshX has) w1) := by rw [← hw1]; exact HX0.out.1
 have H3 : Hid (PA w.heap.size (w.heap.size + 1) (tail0 s w.heap.size) [] (freshX has) w1) := by rw [← hw1]; exact HX0.out.2.1
 have C3 : Hid (CAt w1 w.heap.size (tail0 s w.heap.size) (startX has) F s) := by rw [← hw1]; exact HX0.out.2.2
 have HK1 : Hid (Keeps Non w w1) := by rw [← hw1]; exact HK0.out
 rw [hw1]
 clear hw1 HX0 HK0 hmm
 generalize hB : w.heap.size = B at *
 have HB := Lib.hid hB
 clear hB
 obtain ⟨b, hb⟩ : ∃ b, B + 1 = b := ⟨_, rfl⟩
 rw [hb] at HX1 H3 ⊢
 clear hb
 go_cut [] (fun wx => ∃ ts : List (Job × Value), Hid (jsOf ts = importJobs) ∧ Hid (PIX B b F s ts (freshX has) wx) ∧ Hid (Keeps (GE B) w wx))
 case first =>
  have htl : ([] : List (Job × Value)).length ≤ 1099511627000 := by simp
  go_region_held3 (fun _ => True) (trivial) (first
   | (go_at_call 46
      fail_if_success (have hz9 := J1)
      refine (word_any b [wExport] .none _ _ (by first | exact (putArg _ 1 _ [wExport] _ (by first | rfl | simp) rfl rfl (by simp)) | exact ((putArg _ 1 _ [wExport] _ (by first | rfl | simp) rfl rfl (by simp)).alloc _) | exact ((putArg _ 1 _ [wExport] _ (by first | rfl | simp) rfl rfl (by simp)).drewN 1) | exact (((putArg _ 1 _ [wExport] _ (by first | rfl | simp) rfl rfl (by simp)).alloc _).drewN 1) | exact (((putArg _ 1 _ [wExport] _ (by first | rfl | simp) rfl rfl (by simp)).drewN 1).alloc _))).mono ?_
      rintro e w4 ⟨f1, rfl, hj1, hk1⟩
      have J1 := Lib.hid hj1
      have K4 : Hid (Keeps Non w1 w4) := Keeps.tn (by repeat (first | exact Keeps.refl _ _ | apply Keeps.alloc | apply Keeps.drew)) hk1)
   | (go_at_call 45
      refine (plan_new H5.out [(.word [wExport] .none, f1), (nextJob, f2)] 2 _ _ rfl rfl rfl (by omega) (by intro t ht; simp only [List.mem_cons, List.not_mem_nil, or_false] at ht; rcases ht with rfl | rfl; exact J12.out; exact J2.out) (by omega)).mono ?_
      rintro e w6 ⟨rfl, h6, k6⟩)
   | (go_at_call 46
      refine (word_any b [wPath, wEnd] .next' _ _ (by first | exact (putArg _ 2 _ [wPath, wEnd] _ (by first | rfl | simp) rfl rfl (by simp)) | exact ((putArg _ 2 _ [wPath, wEnd] _ (by first | rfl | simp) rfl rfl (by simp)).alloc _) | exact ((putArg _ 2 _ [wPath, wEnd] _ (by first | rfl | simp) rfl rfl (by simp)).drewN 1) | exact (((putArg _ 2 _ [wPath, wEnd] _ (by first | rfl | simp) rfl rfl (by simp)).alloc _).drewN 1) | exact (((putArg _ 2 _ [wPath, wEnd] _ (by first | rfl | simp) rfl rfl (by simp)).drewN 1).alloc _) | exact Sl.non (putArg _ 2 _ [wPath, wEnd] _ (by first | rfl | simp) rfl rfl (by simp)) hk1 | exact Sl.non ((putArg _ 2 _ [wPath, wEnd] _ (by first | rfl | simp) rfl rfl (by simp)).alloc _) hk1 | exact Sl.non ((putArg _ 2 _ [wPath, wEnd] _ (by first | rfl | simp) rfl rfl (by simp)).drewN 1) hk1 | exact Sl.non (((putArg _ 2 _ [wPath, wEnd] _ (by first | rfl | simp) rfl rfl (by simp)).alloc _).drewN 1) hk1 | exact Sl.non (((putArg _ 2 _ [wPath, wEnd] _ (by first | rfl | simp) rfl rfl (by simp)).drewN 1).alloc _) hk1 | exact (Sl.non (putArg _ 2 _ [wPath, wEnd] _ (by first | rfl | simp) rfl rfl (by simp)) hk1).drewN 1 | exact (Sl.non ((putArg _ 2 _ [wPath, wEnd] _ (by first | rfl | simp) rfl rfl (by simp)).alloc _) hk1).drewN 1 | exact (Sl.non ((putArg _ 2 _ [wPath, wEnd] _ (by first | rfl | simp) rfl rfl (by simp)).drewN 1) hk1).drewN 1 | exact (Sl.non (((putArg _ 2 _ [wPath, wEnd] _ (by first | rfl | simp) rfl rfl (by simp)).alloc _).drewN 1) hk1).drewN 1 | exact (Sl.non (((putArg _ 2 _ [wPath, wEnd] _ (by first | rfl | simp) rfl rfl (by simp)).drewN 1).alloc _) hk1).drewN 1)).mono ?_
      rintro e w5 ⟨f2, rfl, hj2, hk2⟩
      have hk2a : Keeps Non w4 w5 := Keeps.tn (by repeat (first | exact Keeps.refl _ _ | apply Keeps.alloc | apply Keeps.drew)) hk2
      have J2 := Lib.hid hj2
      have J12 := Lib.hid (J1.out.keeps hk2a)
      have K5 := Lib.hid (K4.out.tn hk2a)
      have H5 := Lib.hid (H3.out.keeps K5.out)))
  all_goals (
   go_wp2_with fail
   go_meet
   have hpl6 := pix_planned HX1.out (ts := [(nextJob, f2), (.word [wExport] .none, f1)]) rfl h6 ((C3.out.non K5.out).kp k6 (by decide) (by decide))
   exact ⟨[(nextJob, f2), (.word [wExport] .none, f1)], rfl, hpl6, (HK1.out.ge.gg K5.out.ge).gg k6.ge⟩)
 case rest =>
  obtain ⟨ts0, HJ0, HX2, HK2⟩ := hcut
  generalize wc = w2 at *
  clear HX1 H3 C3 HK1
  have HBT : Hid (tabTop ≤ B) := by have := HTOP.out; have := HB.out; show _ ≤ _; omega
  have HS2 : Hid (steps ps (importJobs, freshX has) = steps (ps.drop 0) (jsOf ts0, freshX has)) := by show _ = _; rw [HJ0.out]; rfl
  have HL2 : Hid ((freshX has).at' + (freshX has).rest.length + (ps.drop 0).flatten.length ≤ 549755813888) := by show 0 + 0 + ps.flatten.length ≤ _; omega
  go_wp2_with fail
  go_loopg [38] ps.length (fun gk iv wr => ∃ (k : Nat) (ts : List (Job × Value)) (σ : PSt), gk = ps.length - k ∧ k ≤ ps.length ∧ iv = .int .i64 k ∧ Hid (PIX B b F s ts σ wr) ∧ Hid (steps ps (importJobs, freshX has) = steps (ps.drop k) (jsOf ts, σ)) ∧ Hid (Keeps (GE B) w wr) ∧ Hid (σ.at' + σ.rest.length + (ps.drop k).flatten.length ≤ 549755813888))
  case atStart => exact ⟨0, ts0, freshX has, rfl, Nat.zero_le _, rfl, HX2, HS2, HK2, HL2⟩
  case round =>
   clear HX2 HS2 HK2 HL2
   obtain ⟨k, ts, σ, rfl, hk, rfl, HX, HS, HK, HL⟩ := hrel
   by_cases hlt : k < ps.length
   ·have hbel : Below w.heap.size w wr := HK.out.below (Nat.le_refl _) fun j hj hg => by have h1 : B ≤ j := hg; have := HB.out; omega
    obtain ⟨bb, off, cp, hsh, -, -, -, hbl, hc, -⟩ := (HV.out.lowI hbel).pos (by omega)
    cases hsh
    have d0 : wr.cell? ⟨bb, off + k, none⟩ = some (sv ps[k]) := (hc k (by omega)).trans (svs_get ps k hlt)
    have hdrop : ps.drop k = ps[k] :: ps.drop (k + 1) := List.drop_eq_getElem_cons hlt
    obtain ⟨p, hp⟩ : ∃ p, ps[k] = p := ⟨_, rfl⟩
    rw [hp] at d0 hdrop
    have hL := HL.out
    rw [hdrop, List.flatten_cons, List.length_append] at hL
    have HDR := Lib.hid hdrop
    unfold sv at d0
    obtain ⟨tail, hpa, hca, hfm⟩ := HX.out.mem
    have HPA := Lib.hid hpa
    have HCA := Lib.hid hca
    have HFM := Lib.hid hfm
    have hfit : Fit ts σ := HX.out.fit.fit
    have HF : Hid (Calls Tryz.prog 48 #[.pointer (some ⟨b, 0, none⟩), .string ⟨p.toArray⟩] wr fun ed w' => ed = .returned (.tuple #[]) ∧ PA B b tail ts (σ.feed p) w' ∧ Kp B [5, TB] wr w') := feed_any ⟨p.toArray⟩ hpa hfit (by show p.toArray.size ≤ _; rw [List.size_toArray]; omega)
    clear hdrop hc hp hpa hca hfm hfit hbel
    go_wp2_with fail
    refine HF.out.mono ?_
    rintro e w3 ⟨rfl, h3, k3⟩
    have HX3 := Lib.hid (HX.out.feed p (by omega) h3 (HCA.out.kp k3 (by decide) (by decide)) (HFM.out.kp HPA.out k3 (by decide)))
    have HK3 := Lib.hid (HK.out.gg k3.ge)
    have HT3 := Lib.hid (HT.out.ge HK3.out HBT.out)
    clear h3 k3 HF d0
    go_wp2_with fail
    refine (runx_any HX3.out HT3.out HBT.out).mono ?_
    rintro e w4 ⟨rfl, ⟨ts4, hj4, hx4⟩, hk4⟩
    have HX4 := Lib.hid hx4
    have HK4 := Lib.hid (HK3.out.gg hk4)
    have HS4 : Hid (steps ps (importJobs, freshX has) = steps (ps.drop (k + 1)) (jsOf ts4, (run (jsOf ts) (σ.feed p)).2)) := by
     show _ = _
     rw [HS.out, HDR.out, hj4]
     rfl
    have HL4 : Hid ((run (jsOf ts) (σ.feed p)).2.at' + (run (jsOf ts) (σ.feed p)).2.rest.length + (ps.drop (k + 1)).flatten.length ≤ 549755813888) := by
     have h1 := run_sum (jsOf ts) (σ.feed p)
     have h2 := feed_sum σ p
     show _ ≤ _
     omega
    clear hj4 hx4 hk4 HX3 HK3 HT3
    go_wp2_with fail
    go_roundg (ps.length - (k + 1))
    case measure => omega
    case rel => exact ⟨k + 1, ts4, _, rfl, by omega, by go_num, HX4, HS4, HK4, HL4⟩
   ·have hke : k = ps.length := by omega
    subst hke
    have HS5 : Hid (steps ps (importJobs, freshX has) = (jsOf ts, σ)) := by show _ = _; rw [HS.out, List.drop_length]; rfl
    have HTOLD : Hid (toldX (told (finish (jsOf ts, σ))) = importL has ps.flatten) := by
     have h1 := steps_import has ps
     rw [HS5.out] at h1
     exact h1
    obtain ⟨tail, hpa, hca, hfm⟩ := HX.out.mem
    have HPA := Lib.hid hpa
    have HCA := Lib.hid hca
    have HCL := Lib.hid (pclosex_any hpa HX.out.fit.fit)
    have hcl : σ.x.came.length ≤ 549755813888 := by
     have h1 := HX.out.fx.came
     have h2 := HX.out.fit.all
     omega
    have HEF := Lib.hid HX.out.fx.fit
    clear hpa hca hfm HS HL HS5 HX
    generalize wr = w5 at *
    obtain ⟨σf, hσf⟩ : ∃ σf, finish (jsOf ts, σ) = σf := ⟨_, rfl⟩
    have hxf : σf.x = σ.x := by
     rw [← hσf]
     unfold finish
     split
     ·rfl
     ·exact (fail_x ..).1
    rw [hσf] at HCL HTOLD
    have HXF := Lib.hid hxf
    clear hσf hxf
    go_wp2_with fail
    refine HCL.out.mono ?_
    rintro e w6 ⟨rfl, h6, k6⟩
    have HK6 := Lib.hid (HK.out.gg k6.ge)
    have HC6 := Lib.hid (HCA.out.kp k6 (by decide) (by decide))
    have H6 := Lib.hid h6
    clear h6 k6 HCL HK HCA HPA
    by_cases he : σf.err = 0
    ·have hb : (σf.err == 0) = true := by rw [he]; rfl
     have hb2 : (σf.err != 0) = false := by rw [he]; rfl
     have HOK : Hid (importL has ps.flatten = .ok σ.x) := by
      show _ = _
      rw [← HTOLD.out, told, if_pos he, ← HXF.out]
      rfl
     clear he
     obtain ⟨x, hx⟩ : ∃ x, σ.x = x := ⟨_, rfl⟩
     rw [hx] at HOK HC6 HEF hcl
     have hsnd := import_sound HOK.out HST.out.ok
     have hxh := hsnd.2.1
     have HOX := Lib.hid hsnd.1
     obtain ⟨sm6, mb, L6, M6, vo, ra, rc, hrd, hmem, hcells, -, -⟩ := HC6.out.rd H6.out
     obtain ⟨sm, m0, hF, hsb, hm0, hrest⟩ := HC6.out.st.map
     have hordl : x.order.length = x.came.length := by rw [HOX.out.order, List.length_map]
     obtain ⟨oa, oc, rfl, ho1, ho2⟩ := hmem.order.shape
     have c10 := hrd.c10
     have HORD := Lib.hid hmem.order
     have HMEM := Lib.hid hmem
     have HSB := Lib.hid hsb
     have HM0 := Lib.hid hm0
     have HFS := Lib.hid hF
     have HB9 : Hid (∀ wr, Keeps (One sm) w6 wr → wr.cell? ⟨b, 9, none⟩ = some (.map (some mb)) ∧ MapAt wr mb M6) := by
      intro wr hk
      obtain ⟨_, _, _, _, hp⟩ := H6.out
      have hlow := HC6.out.low sm hF
      have hb := hp.blk.keeps hk (fun e => hm0.notcells hp.blk e)
      refine ⟨(hb.cell 9).trans ((hp.blk.cell 9).symm.trans hrd.c9), hmem.map.keeps hk fun e => ?_⟩
      have h2 := hmem.le
      have : mb = sm := e
      omega
     have hwide : StoreAt w6 (fun k => F k ∨ (B ≤ k ∧ k < w6.heap.size)) s has := by
      have h1 := HC6.out.st
      rw [hxh] at h1
      refine h1.wide (fun k hk => .inl hk) (fun k hk => ?_) (fun k hk => ?_)
      ·rcases hk with hk | hk
       ·exact h1.top k hk
       ·have := HBT.out
        omega
      ·rcases hk with hk | hk
       ·exact h1.lt k hk
       ·exact hk.2
     have HS6 : Hid (StoreAt w6 (fun k => F k ∨ (B ≤ k ∧ k < w6.heap.size)) s (commitL has (x.came.take 0)).1) := hwide
     have HEN : Hid (∀ e ∈ x.came, ∃ p, getM M6 e.path = some (pv p) ∧ EntAt w6 (fun k => F k ∨ (B ≤ k ∧ k < w6.heap.size)) p e) := fun e he => by
      obtain ⟨p, hp, hE⟩ := hmem.ents e he
      exact ⟨p, hp, hE.ent H6.out⟩
     have HCO : Hid (∀ k, k ≤ x.came.length → ComOk has (x.came.take k) (commitL has (x.came.take k))) := fun k hk => by
      have h1 := commit_ok HOX.out k hk
      rw [hxh] at h1
      exact h1
     have HOM : Hid (x.order = x.came.map Ent.path) := HOX.out.order
     obtain ⟨Z, hZ⟩ : ∃ Z, w6.heap.size = Z := ⟨_, rfl⟩
     rw [hZ] at HS6 HEN
     have HZ := Lib.hid hZ
     have HLO : Hid (∀ k, F k → k < B) := HC6.out.low
     have HKN : Hid (Keeps Non w w6) := keeps_ge_non (by rw [HB.out]; exact HK6.out)
     have HO0 : Hid (Sl w6 Z TSr 1 (.slice none 0 0) (commitL has (x.came.take 0)).2.length (svs (commitL has (x.came.take 0)).2)) := Sl.nil _ _ _ _
     unfold maxLen at ho2
     rw [hordl] at c10
     clear hrd hmem hsb hm0 hrest hF hsnd hx hwide hordl HMEM HC6 H6 HTOLD HXF hZ
     have HKW : Hid (Keeps (One sm) w6 w6) := Keeps.refl _ _
     go_wp2_with fail
     clear c10
     go_loopg [12, 69] x.came.length (fun gk ov iv wr => ∃ (k : Nat) (va' : Option Addr) (vc' : Nat), gk = x.came.length - k ∧ k ≤ x.came.length ∧ ov = .slice va' (commitL has (x.came.take k)).2.length vc' ∧ iv = .int .i64 k ∧
      Hid (StoreAt wr (fun k => F k ∨ (B ≤ k ∧ k < Z)) s (commitL has (x.came.take k)).1) ∧ Hid (Sl wr Z TSr 1 (.slice va' (commitL has (x.came.take k)).2.length vc') (commitL has (x.came.take k)).2.length (svs (commitL has (x.came.take k)).2)) ∧ Hid (Keeps (One sm) w6 wr))
     case atStart => exact ⟨0, none, 0, rfl, Nat.zero_le _, rfl, rfl, HS6, HO0, HKW⟩
     case round =>
      clear HS6 HO0 HKW
      obtain ⟨k, va', vc', rfl, hk6, rfl, rfl, HSR, HOR, HKR⟩ := hrel
      have hsize : Z ≤ wr.heap.size := by rw [← HZ.out]; exact HKR.out.size
      by_cases hlt6 : k < x.came.length
      ·obtain ⟨e, he⟩ : ∃ e, x.came[k]? = some e := ⟨_, List.getElem?_eq_getElem hlt6⟩
       have hem := List.mem_of_getElem? he
       obtain ⟨y, hy⟩ : ∃ y, commitL has (x.came.take k) = y := ⟨_, rfl⟩
       rw [hy] at HSR HOR ⊢
       have hor := HORD.out.keep (w' := wr) fun bb c _ _ hbk => hbk.keeps HKR.out (fun e => HM0.out.notcells hbk e)
       obtain ⟨ob, oo, oc2, hsh, -, -, -, hbl, hcc, -⟩ := hor.pos (by have := HOM.out; rw [this, List.length_map]; omega)
       have d0 : wr.cell? ⟨ob, oo + k, none⟩ = some (sv e.path) := by
        rw [hcc k (by rw [HOM.out, List.length_map]; omega), HOM.out]
        simp [svs, he]
       cases hsh
       obtain ⟨sm', m', g1, g2, g3, g4, g5, g6⟩ := HSR.out.map
       have e1 : sm' = sm := by
        have h1 := g2.inj (HSB.out.keeps HKR.out (fun e => HM0.out.notcells HSB.out e))
        have h2 := h1.1
        simpa using h2
       subst e1
       have cs := g2.cell 0
       simp only [List.getElem?_toArray, List.getElem?_cons_zero] at cs
       obtain ⟨hc9, hmmb⟩ := HB9.out wr HKR.out
       obtain ⟨p, hgp, hE⟩ := HEN.out e hem
       have hEr : EntAt wr (fun k => F k ∨ (B ≤ k ∧ k < Z)) p e := hE.keeps HKR.out fun b c T fr _ hc e2 => HM0.out.notcells hc e2
       have hpl12 : e.path.length ≤ 1099511627776 := by
        obtain ⟨es, c, -, hm⟩ := hmmb
        exact hm.small _ ((getM_mem hm.keys).1 hgp)
       have hsucc := commit_succ (has := has) he
       have HHE := Lib.hid he
       have hck := HCO.out (k + 1) (by omega)
       have hlen := commit_len has (x.came.take k)
       rw [List.length_take] at hlen
       rw [hy] at hsucc hlen
       have HG3 := Lib.hid g3
       unfold sv at d0
       clear hcc hor hE hc9
       have c9 := (HB9.out wr HKR.out).1
       rcases StoreAt.look g3 g5 g6 e.path with ⟨hf, hg⟩ | ⟨e', q, hf, -, -, hg, -⟩
       ·have HVAL : Hid ((getM m' e.path).getD (.pointer none) = .pointer none) := by show _ = _; rw [hg]; rfl
        have HCF : Hid (commitL has (x.came.take (k + 1)) = (putE y.1 e, y.2 ++ [e.path])) := by
         show _ = _
         rw [hsucc]
         unfold comF
         rw [hf]
         rfl
        have hok9 : StoreOk (putE y.1 e) := by
         have h1 := hck.ok
         rw [HCF.out] at h1
         exact h1
        have hlk : Sem.run Tryz.prog (Instr.lookup 82 (.map (some mb)) (.string ⟨e.path.toArray⟩) false) wr.drew = .ok (.pointer (some ⟨p, 0, none⟩)) wr.drew := by
         have h1 := run_lookup_map (P := Tryz.prog) (w := wr.drew) HTE.out Tryz.underlying9 (z := .pointer none) (Tryz.zeroValue81 _) (hmmb.keeps (S := Non) ((Keeps.refl _ _).drew) (fun h => h)) hpl12 false
         rw [if_neg (by simp), hgp] at h1
         exact h1
        obtain ⟨w7, hmu, hm7, hk7, hs7⟩ : ∃ w7, Sem.run Tryz.prog (Instr.mapUpdate 82 (.map (some sm')) (.string ⟨e.path.toArray⟩) (.pointer (some ⟨p, 0, none⟩))) wr.drew = .ok () w7 ∧ MapAt w7 sm' (putM m' e.path (pv p)) ∧ Keeps (One sm') wr w7 ∧ w7.heap.size = wr.heap.size := by
         obtain ⟨es, clock, hb, hM⟩ := g3
         obtain ⟨es', clock', h1, h2, h3, -⟩ := run_store_fine (P := Tryz.prog) (w := wr.drew) HTE.out Tryz.underlying9 hb hM (k := e.path) hpl12 (pv p)
         exact ⟨_, h1, ⟨es', clock', (heap_set hb).1, h2⟩, ⟨h3.os, h3.tape, h3.output, h3.size, h3.block⟩, by simp⟩
        have HS7 : Hid (StoreAt w7 (fun k => F k ∨ (B ≤ k ∧ k < Z)) s (putE y.1 e)) := HSR.out.putI g1 g2 g3 g4 g5 g6 hEr hf hm7 hk7 hok9 (HEF.out e hem)
        have hos7 : Sl w7 Z TSr 1 (.slice va' y.2.length vc') y.2.length (svs y.2) := HOR.out.keep fun bb c _ _ hbk => hbk.keeps hk7 (fun e => HG3.out.notcells hbk e)
        have HK7 : Hid (Keeps (One sm') w6 w7) := HKR.out.trans hk7 fun _ h => .inl h
        have hz7 : Z ≤ w7.heap.size := by rw [hs7]; exact hsize
        clear hs7
        obtain ⟨i0, hi, hi0, hi1, hi2⟩ := info_parts infoStrI
        clear hf hg hok9 hck hsucc hy hem he g1 g2 g3 g4 g5 g6 hm7 hk7 hgp hEr hmmb
        go_upto_region 17 with (first | (at_lookup; refine wpl_look _ rfl _ _ _ rfl _ _ HTE.out Tryz.underlying9 (.pointer none) (Tryz.zeroValue81 _) sm' m' rfl HG3.out e.path rfl hpl12 ?_; rw [HVAL.out]))
        go_region_with (fail)
        all_goals (
         clear hmu hlk cs c9 d0
         go_wp2_with (at_builtin; refine wpList_append_own2 rfl _ _ 26 26 rfl 9 i0 _ 1 16 Tryz.underlying26 hi hi0 hi1 hi2 rfl Z _ _ _ rfl _ rfl 1 [.string ⟨e.path.toArray⟩] ?d11 (hos7.alloc _) ?d12 ?d13 ?d14 ?_)
         case d11 => simp; omega
         case d12 => exact Src.ofSl Tryz.underlying26 (Sl.of_new w7 0 (Nat.zero_le _) 9 1 1 [.string ⟨e.path.toArray⟩] rfl (by simp [maxLen])) (by intro u hu; simp only [List.mem_cons, List.not_mem_nil, or_false] at hu; rcases hu with rfl; rfl)
         case d13 => unfold maxLen; omega
         case d14 => omega
         intro ao cc w8 hs8 hk8 hkk8 hb8
         have hka : Keeps Non w7 (w7.alloc (.cells #[.string ⟨e.path.toArray⟩] 9)) := (Keeps.refl _ _).alloc _
         have hzb : B ≤ Z := by rw [← HZ.out, ← HB.out]; exact HKN.out.size
         have HK8 : Hid (Keeps (One sm') w6 w8) := (HK7.out.trans hka fun _ h => h.elim).trans hkk8 fun j hj => .inr (by rw [HZ.out]; exact (hos7.own j hj).1)
         have HS8 : Hid (StoreAt w8 (fun k => F k ∨ (B ≤ k ∧ k < Z)) s (commitL has (x.came.take (k + 1))).1) := by
          rw [HCF.out]
          refine (HS7.out.non hka).keeps hkk8 fun j hj hj2 => ?_
          have h1 := (hos7.own j hj2).1
          rcases hj with hj | hj
          ·have := HLO.out j hj
           omega
          ·omega
         have HO8 : Hid (Sl w8 Z TSr 1 (.slice ao (commitL has (x.came.take (k + 1))).2.length cc) (commitL has (x.came.take (k + 1))).2.length (svs (commitL has (x.came.take (k + 1))).2)) := by
          rw [HCF.out]
          show Sl w8 Z TSr 1 (.slice ao (y.2 ++ [e.path]).length cc) (y.2 ++ [e.path]).length (svs (y.2 ++ [e.path]))
          rw [List.length_append, List.length_singleton]
          have e1 : svs (y.2 ++ [e.path]) = svs y.2 ++ [.string ⟨e.path.toArray⟩] := by simp [svs, sv]
          rw [e1]
          exact hs8
         have hlc : (commitL has (x.came.take (k + 1))).2.length = y.2.length + 1 := by rw [HCF.out]; simp
         clear hs8 hk8 hkk8 hb8 hka hos7 hi hi0 hi1 hi2
         go_wp2_with fail
         go_roundg (x.came.length - (k + 1))
         case measure => omega
         case rel => exact ⟨k + 1, ao, cc, rfl, by omega, by rw [hlc], by go_num, HS8, HO8, HK8⟩)
       ·have HVAL : Hid ((getM m' e.path).getD (.pointer none) = .pointer (some ⟨q, 0, none⟩)) := by show _ = _; rw [hg]; rfl
        have HCF : Hid (commitL has (x.came.take (k + 1)) = y) := by
         show _ = _
         rw [hsucc]
         unfold comF
         rw [hf]
         rfl
        clear hf hg hck hsucc hy hem he g1 g2 g3 g4 g5 g6 hgp hEr hmmb
        go_wp2_with (first | (at_lookup; refine wpl_look _ rfl _ _ _ rfl _ _ HTE.out Tryz.underlying9 (.pointer none) (Tryz.zeroValue81 _) sm' m' rfl HG3.out e.path rfl hpl12 ?_; rw [HVAL.out]))
        go_roundg (x.came.length - (k + 1))
        case measure => omega
        case rel =>
         refine ⟨k + 1, va', vc', rfl, by omega, by rw [HCF.out], by go_num, ?_, ?_, HKR⟩
         ·rw [HCF.out]; exact HSR
         ·rw [HCF.out]; exact HOR
      ·have hke : k = x.came.length := by omega
       subst hke
       rw [List.take_length] at HSR HOR ⊢
       go_wp2_with fail
       go_ret3
       unfold ImpPost
       rw [HOK.out]
       have hzb : B ≤ Z := by rw [← HZ.out, ← HB.out]; exact HKN.out.size
       refine ⟨_, rfl, HOR.out.mono (by rw [HB.out]; exact hzb), ⟨_, HSR.out, fun k hk => ?_, fun k hk hk2 => ?_⟩, (HKN.out.mono fun _ _ h => h.elim).trans HKR.out fun j hj => .inl (by cases hj; exact HFS.out)⟩
       ·rw [HB.out]
        rcases hk with hk | hk
        ·exact .inl hk
        ·exact .inr ⟨hk.1, by omega⟩
       ·have h1 := (HOR.out.own k hk).1
        rcases hk2 with hk2 | hk2
        ·have := HLO.out k hk2
         omega
        ·omega
    ·have hb : (σf.err == 0) = false := by rw [beq_eq_false_iff_ne]; exact he
     have hb2 : (σf.err != 0) = true := by unfold bne; rw [hb]; rfl
     have HER : Hid (importL has ps.flatten = .error (σf.err, σf.bad)) := by
      show _ = _
      rw [← HTOLD.out, told, if_neg he]
      rfl
     clear he
     have HKN : Hid (Keeps Non w w6) := keeps_ge_non (by rw [HB.out]; exact HK6.out)
     go_wp2_with fail
     go_ret3
     unfold ImpPost
     rw [HER.out]
     exact ⟨rfl, HKN.out⟩
end Go.Proofs.YtdkogijdfgfpeaaGreatDoor
