/- (*Store).Get. -/
import Derived.Test.YtdkogijdfgfpeaaGreatDoorMMap
import Derived.Test.YtdkogijdfgfpeaaGreatDoorMPackw
import Derived.Test.YtdkogijdfgfpeaaGreatDoorMExpP
import Derived.Test.YtdkogijdfgfpeaaGreatDoorMPack
set_option linter.unusedVariables false
namespace Go.Proofs.YtdkogijdfgfpeaaGreatDoor
open Go Go.RowKit
theorem Sl.non {w w' : World} {B : Nat} {E : TypeId} {size : Nat} {v : Value} {n : Nat} {xs : List Value} (h : Sl w B E size v n xs) (k : Keeps Non w w') : Sl w' B E size v n xs := h.keep fun _ _ _ _ hb => hb.keeps k fun h => h
theorem Keeps.un {S : Nat → Prop} {a w : World} (h : Keeps S a.drew w) : Keeps S a w := ⟨h.os, h.tape, h.output, h.size, h.block⟩
theorem Keeps.tn {a b c : World} (h : Keeps Non a b) (k : Keeps Non b c) : Keeps Non a c := h.trans k fun _ h => h.elim
theorem get_done {w W w' : World} {rb tl rl : Nat} {vt vr : Value} {xs ys : List Value} (HK0 : Keeps Non w W) (HB0 : Blk W rb #[.slice none 0 0, .slice none 0 0, .string ⟨#[]⟩] 52) (HRB : rb = w.heap.size) (hc : Keeps Non W w') (hn : Sl w' W.heap.size 49 3 vt tl xs) (hs : Sl w' W.heap.size 9 1 vr rl ys) (sum : ByteArray) :
 Blk (((w'.setCell ⟨rb, 0, none⟩ vt).setCell ⟨rb, 1, none⟩ vr).setCell ⟨rb, 2, none⟩ (.string sum)) rb #[vt, vr, .string sum] 52 ∧
  Sl (((w'.setCell ⟨rb, 0, none⟩ vt).setCell ⟨rb, 1, none⟩ vr).setCell ⟨rb, 2, none⟩ (.string sum)) w.heap.size 49 3 vt tl xs ∧ Sl (((w'.setCell ⟨rb, 0, none⟩ vt).setCell ⟨rb, 1, none⟩ vr).setCell ⟨rb, 2, none⟩ (.string sum)) w.heap.size 9 1 vr rl ys ∧
  Keeps Non w (((w'.setCell ⟨rb, 0, none⟩ vt).setCell ⟨rb, 1, none⟩ vr).setCell ⟨rb, 2, none⟩ (.string sum)) := by
 have hlt := HB0.lt
 have hge : w.heap.size ≤ rb := Nat.le_of_eq HRB.symm
 have hb := HB0.keeps hc fun h => h
 refine ⟨?_, ?_, ?_, ?_⟩
 ·simpa using ((hb.set 0 vt).set 1 vr).set 2 (.string sum)
 ·refine (hn.keep fun b c _ hB hbk => ?_).mono HK0.size
  have hne : b ≠ rb := by omega
  exact ((hbk.set_ne _ _ hne).set_ne _ _ hne).set_ne _ _ hne
 ·refine (hs.keep fun b c _ hB hbk => ?_).mono HK0.size
  have hne : b ≠ rb := by omega
  exact ((hbk.set_ne _ _ hne).set_ne _ _ hne).set_ne _ _ hne
 ·exact ((((HK0.tn hc).setCell _ _ (.inr hge)).setCell _ _ (.inr hge)).setCell _ _ (.inr hge))
def GetPost (w : World) (L : Ents) (name : List UInt8) (ed : Ending) (w' : World) : Prop :=
 (findE L name = none ∧ ed = .returned (.tuple #[.agg #[.slice none 0 0, .slice none 0 0, .string ⟨#[]⟩], .int .i64 15]) ∧ Keeps Non w w') ∨
 ∃ e vt vr, findE L name = some e ∧ ed = .returned (.tuple #[.agg #[vt, vr, .string (sumOf (packP e.tree))], .int .i64 0]) ∧ Sl w' w.heap.size 49 3 vt e.tree.length (nodeCells e.tree) ∧ Sl w' w.heap.size 9 1 vr e.refs.length (svs e.refs) ∧ Keeps Non w w'
set_option maxHeartbeats 3200000 in
set_option maxRecDepth 100000 in
theorem get_any {F : Nat → Prop} {s : Nat} {L : Ents} (w : World) (h : StoreAt w F s L) (name : List UInt8) (hn : name.length ≤ 1099511627776) :
 Calls Tryz.prog 25 #[pv s, sv name] w (GetPost w L name) := by
 have HS := Lib.hid h
 have HTE : Hid (Tryz.prog.underlying 82 = some (.map 9 81)) := Tryz.underlying82
 clear h
 unfold pv sv
 go_enter Tryz.func25, Tryz.ntmps25
 go_upto_region 1 with (fail)
 have hk0 : Keeps Non w (w.alloc (.cells #[.slice none 0 0, .slice none 0 0, .string ⟨#[]⟩] 52)) := (Keeps.refl _ _).alloc _
 have hb0 := Blk.new w #[.slice none 0 0, .slice none 0 0, .string ⟨#[]⟩] 52
 obtain ⟨W, hW⟩ : ∃ W, W = w.alloc (.cells #[.slice none 0 0, .slice none 0 0, .string ⟨#[]⟩] 52) := ⟨_, rfl⟩
 obtain ⟨rb, hrb⟩ : ∃ rb, rb = w.heap.size := ⟨_, rfl⟩
 rw [← hW] at hk0 hb0
 rw [← hrb] at hb0
 rw [← hW, ← hrb]
 have HK0 := Lib.hid hk0
 have HB0 := Lib.hid hb0
 have HRB := Lib.hid hrb
 have HSW := Lib.hid (HS.out.non hk0)
 clear hW hrb hk0 hb0
 obtain ⟨mb, m, g1, g2, g3, g4, g5, g6⟩ := HSW.out.map
 have cs := g2.cell 0
 simp only [List.getElem?_toArray, List.getElem?_cons_zero] at cs
 have HMB := Lib.hid g3
 rcases StoreAt.look g3 g5 g6 name with ⟨hf, hg⟩ | ⟨e, q, hf, hel, hep, hg, hE⟩
 ·have HVAL : Hid ((getM m name).getD (.pointer none) = .pointer none) := by show _ = _; rw [hg]; rfl
  have HFN := Lib.hid hf
  have r0 := HB0.out.cell 0
  have r1 := HB0.out.cell 1
  have r2 := HB0.out.cell 2
  have f0 := HB0.out.free 0
  have f1 := HB0.out.free 1
  have f2 := HB0.out.free 2
  simp only [List.getElem?_toArray, List.getElem?_cons_zero, List.getElem?_cons_succ] at r0 r1 r2
  clear hf hg g1 g2 g3 g4 g5 g6
  go_wp2_with (first | (at_lookup; refine wpl_look _ rfl _ _ _ rfl _ _ HTE.out Tryz.underlying9 (.pointer none) (Tryz.zeroValue81 _) mb m rfl HMB.out name rfl hn ?_; rw [HVAL.out]))
  have hb3 := ((HB0.out.set 0 (.slice none 0 0)).set 1 (.slice none 0 0)).set 2 (.string ⟨#[]⟩)
  have hk3 : Keeps Non w (((W.setCell ⟨rb, 0, none⟩ (.slice none 0 0)).setCell ⟨rb, 1, none⟩ (.slice none 0 0)).setCell ⟨rb, 2, none⟩ (.string ⟨#[]⟩)) := ((HK0.out.setCell _ _ (.inr (Nat.le_of_eq HRB.out.symm))).setCell _ _ (.inr (Nat.le_of_eq HRB.out.symm))).setCell _ _ (.inr (Nat.le_of_eq HRB.out.symm))
  generalize ((W.setCell ⟨rb, 0, none⟩ (.slice none 0 0)).setCell ⟨rb, 1, none⟩ (.slice none 0 0)).setCell ⟨rb, 2, none⟩ (.string ⟨#[]⟩) = w3 at *
  have t0 := hb3.cell 0
  have t1 := hb3.cell 1
  have t2 := hb3.cell 2
  simp at t0 t1 t2
  refine bodyPost_ret (v := .tuple #[.agg #[.slice none 0 0, .slice none 0 0, .string ⟨#[]⟩], .int .i64 15]) (by simp [results, Tryz.results25, go_sem, t0, t1, t2]) rfl ?_
  exact .inl ⟨HFN.out, rfl, hk3⟩
 ·have HVAL : Hid ((getM m name).getD (.pointer none) = .pointer (some ⟨q, 0, none⟩)) := by show _ = _; rw [hg]; rfl
  have HFN := Lib.hid hf
  have HFIT := Lib.hid (HS.out.fit e hel)
  have HGOOD := Lib.hid (HS.out.ok.good e hel)
  obtain ⟨ho, vt, vr, h1, h2, h3, h4, h5⟩ := hE
  have HB := Lib.hid h1
  have HT := Lib.hid h2
  have HR := Lib.hid h3
  clear hf hg g1 g2 g3 g4 g5 g6 hel hep ho h1 h2 h3 h4 h5
  go_upto_region 4 with (first | (at_lookup; refine wpl_look _ rfl _ _ _ rfl _ _ HTE.out Tryz.underlying9 (.pointer none) (Tryz.zeroValue81 _) mb m rfl HMB.out name rfl hn ?_; rw [HVAL.out]))
  obtain ⟨va, vc, rfl, -, -⟩ := HT.out.shape
  obtain ⟨ua, uc, rfl, -, -⟩ := HR.out.shape
  have htl : e.tree.length ≤ 1099511627776 := by
   have h1 := HGOOD.out.2.1
   unfold wrongL at h1
   split at h1
   ·cases h1
   ·have := wrong_len e.tree 0 [] h1 (by omega)
    omega
  have HCN : Hid (∀ wx, Keeps Non W wx → Calls Tryz.prog 57 #[.slice va e.tree.length vc] wx fun ed w' => ∃ v', ed = .returned v' ∧ Sl w' W.heap.size 49 3 v' e.tree.length (nodeCells e.tree) ∧ Keeps Non wx w') := fun wx hk => (cloneN_any e.tree _ wx (HT.out.non hk) htl).mono (by rintro ed w' ⟨v', rfl, h1, h2⟩; exact ⟨v', rfl, h1.mono hk.size, h2⟩)
  have HCS : Hid (∀ wx, Keeps Non W wx → Calls Tryz.prog 58 #[.slice ua e.refs.length uc] wx fun ed w' => ∃ v', ed = .returned v' ∧ Sl w' W.heap.size 9 1 v' e.refs.length (svs e.refs) ∧ Keeps Non wx w') := fun wx hk => (cloneS_any e.refs _ wx (HR.out.non hk) HFIT.out.refs).mono (by rintro ed w' ⟨v', rfl, h1, h2⟩; exact ⟨v', rfl, h1.mono hk.size, h2⟩)
  have HSUM : Hid (∀ wx, Calls Tryz.prog 42 #[.string ⟨(packP e.tree).toArray⟩] wx fun ed w' => ed = .returned (.string (sumOf (packP e.tree))) ∧ Keeps Non wx w') := fun wx => (sum_any _ wx (by show (packP e.tree).toArray.size ≤ _; have := HFIT.out.pack; simp [maxLen]; omega))
  have q0 := HB.out.cell 0
  have q1 := HB.out.cell 1
  have q2 := HB.out.cell 2
  simp only [List.getElem?_toArray, List.getElem?_cons_zero, List.getElem?_cons_succ] at q0 q1 q2
  unfold sv at q0
  have hc : Keeps Non W W := Keeps.refl _ _
  go_region_with (first
   | (go_at_call 57; refine (HCN.out _ (by first | exact hc | exact hc.drew)).mono ?_; rintro ed w' ⟨v1, rfl, hn1, hk⟩; obtain ⟨na, nc, rfl, -, -⟩ := hn1.shape; (try replace hs1 := hs1.non (by first | exact hk | exact hk.un)); replace hc := Keeps.tn hc (by first | exact hk | exact hk.un); clear hk; have q0 := (HB.out.keeps hc (fun h => h)).cell 0; have q1 := (HB.out.keeps hc (fun h => h)).cell 1; have q2 := (HB.out.keeps hc (fun h => h)).cell 2; have hbb := HB0.out.keeps hc (fun h => h); have r0 := hbb.cell 0; have r1 := hbb.cell 1; have r2 := hbb.cell 2; have f0 := hbb.free 0; have f1 := hbb.free 1; have f2 := hbb.free 2; clear hbb; simp only [List.getElem?_toArray, List.getElem?_cons_zero, List.getElem?_cons_succ, sv] at q0 q1 q2 r0 r1 r2)
   | (go_at_call 58; refine (HCS.out _ (by first | exact hc | exact hc.drew)).mono ?_; rintro ed w' ⟨v1, rfl, hs1, hk⟩; obtain ⟨sa, sc, rfl, -, -⟩ := hs1.shape; (try replace hn1 := hn1.non (by first | exact hk | exact hk.un)); replace hc := Keeps.tn hc (by first | exact hk | exact hk.un); clear hk; have q0 := (HB.out.keeps hc (fun h => h)).cell 0; have q1 := (HB.out.keeps hc (fun h => h)).cell 1; have q2 := (HB.out.keeps hc (fun h => h)).cell 2; have hbb := HB0.out.keeps hc (fun h => h); have r0 := hbb.cell 0; have r1 := hbb.cell 1; have r2 := hbb.cell 2; have f0 := hbb.free 0; have f1 := hbb.free 1; have f2 := hbb.free 2; clear hbb; simp only [List.getElem?_toArray, List.getElem?_cons_zero, List.getElem?_cons_succ, sv] at q0 q1 q2 r0 r1 r2)
   | (go_at_call 42; refine (HSUM.out _).mono ?_; rintro ed w' ⟨rfl, hk⟩; (try replace hs1 := hs1.non (by first | exact hk | exact hk.un)); (try replace hn1 := hn1.non (by first | exact hk | exact hk.un)); replace hc := Keeps.tn hc (by first | exact hk | exact hk.un); clear hk; have q0 := (HB.out.keeps hc (fun h => h)).cell 0; have q1 := (HB.out.keeps hc (fun h => h)).cell 1; have q2 := (HB.out.keeps hc (fun h => h)).cell 2; have hbb := HB0.out.keeps hc (fun h => h); have r0 := hbb.cell 0; have r1 := hbb.cell 1; have r2 := hbb.cell 2; have f0 := hbb.free 0; have f1 := hbb.free 1; have f2 := hbb.free 2; clear hbb; simp only [List.getElem?_toArray, List.getElem?_cons_zero, List.getElem?_cons_succ, sv] at q0 q1 q2 r0 r1 r2))
  all_goals (
   obtain ⟨hb3, hn3, hs3, hk3⟩ := get_done HK0.out HB0.out HRB.out hc hn1 hs1 (sumOf (packP e.tree))
   generalize ((w'.setCell ⟨rb, 0, none⟩ (.slice na e.tree.length nc)).setCell ⟨rb, 1, none⟩ (.slice sa e.refs.length sc)).setCell ⟨rb, 2, none⟩ (.string (sumOf (packP e.tree))) = w3 at *
   have t0 := hb3.cell 0
   have t1 := hb3.cell 1
   have t2 := hb3.cell 2
   simp only [List.getElem?_toArray, List.getElem?_cons_zero, List.getElem?_cons_succ] at t0 t1 t2
   have HN3 := Lib.hid hn3
   have HS3 := Lib.hid hs3
   have HK3 := Lib.hid hk3
   clear hb3 hn3 hs3 hk3 hn1 hs1 hc q0 q1 q2 r0 r1 r2 f0 f1 f2
   go_wp2_with fail
   refine bodyPost_ret (v := .tuple #[.agg #[.slice na e.tree.length nc, .slice sa e.refs.length sc, .string (sumOf (packP e.tree))], .int .i64 0]) (by simp [results, Tryz.results25, go_sem, t0, t1, t2]) rfl ?_
   exact .inr ⟨e, _, _, HFN.out, rfl, HN3.out, HS3.out, HK3.out⟩)
set_option maxHeartbeats 800000 in
set_option maxRecDepth 100000 in
theorem same_any (v v' : Value) (l : List Node) (w : World) (hv : Rd w 3 v l.length (nodeCells l)) (hv' : Rd w 3 v' l.length (nodeCells l)) (hl47 : l.length ≤ 140737488355328) :
 Calls Tryz.prog 53 #[v, v'] w fun e w' => e = .returned (.bool true) ∧ Keeps Non w w' := by
 obtain ⟨a, cap, rfl, hl63, hcm⟩ := hv.shape
 obtain ⟨a', cap', rfl, hl63', hcm'⟩ := hv'.shape
 unfold maxLen at hcm hcm'
 have HV := Lib.hid hv
 have HV' := Lib.hid hv'
 clear hv hv'
 go_enter Tryz.func53, Tryz.ntmps53
 go_wp2_with fail
 go_loopg [13] l.length (fun gk i wr => ∃ k : Nat, gk = l.length - k ∧ k ≤ l.length ∧ i = .int .i64 k ∧ Hid (Keeps Non w wr))
 case atStart => exact ⟨0, rfl, Nat.zero_le _, rfl, Keeps.refl _ _⟩
 case round =>
  obtain ⟨k, rfl, hk, rfl, HK⟩ := hrel
  by_cases hlt : k < l.length
  ·have hat := nodeCells_at l k hlt
   obtain ⟨b, off, cp, hsh, -, -, -, hbl, hc, -⟩ := HV.out.pos (by omega)
   cases hsh
   obtain ⟨b', off', cp', hsh, -, -, -, hbl', hc', -⟩ := HV'.out.pos (by omega)
   cases hsh
   have hbelow := HK.out.below (Nat.le_refl _) (fun _ _ h => h)
   generalize l[k] = N at *
   obtain ⟨p, kd, da⟩ := N
   simp only at hat
   have c0 : wr.cell? ⟨b, off + k * 3, none⟩ = some (sv p) := (hbelow.cell (p := ⟨b, off + k * 3, none⟩) hbl).trans ((hc _ (by omega)).trans hat.1)
   have c1 : wr.cell? ⟨b, off + k * 3 + 1, none⟩ = some (.int .i64 kd) := (hbelow.cell (p := ⟨b, off + k * 3 + 1, none⟩) hbl).trans ((hc _ (by omega)).trans hat.2.1)
   have c2 : wr.cell? ⟨b, off + k * 3 + 2, none⟩ = some (sv da) := (hbelow.cell (p := ⟨b, off + k * 3 + 2, none⟩) hbl).trans ((hc _ (by omega)).trans hat.2.2)
   have d0 : wr.cell? ⟨b', off' + k * 3, none⟩ = some (sv p) := (hbelow.cell (p := ⟨b', off' + k * 3, none⟩) hbl').trans ((hc' _ (by omega)).trans hat.1)
   have d1 : wr.cell? ⟨b', off' + k * 3 + 1, none⟩ = some (.int .i64 kd) := (hbelow.cell (p := ⟨b', off' + k * 3 + 1, none⟩) hbl').trans ((hc' _ (by omega)).trans hat.2.1)
   have d2 : wr.cell? ⟨b', off' + k * 3 + 2, none⟩ = some (sv da) := (hbelow.cell (p := ⟨b', off' + k * 3 + 2, none⟩) hbl').trans ((hc' _ (by omega)).trans hat.2.2)
   unfold sv at c0 c2 d0 d2
   clear hat hc hc' hbelow
   have q2 : (0 : Int) ≤ (k : Int) := by omega
   have q3 : (k : Int) < (l.length : Int) := by omega
   have q4 : IntKind.i64.wrap (k : Int) = (k : Int) := IntWalk.i64_in _ (by omega)
   go_upto_region 6 with (fail)
   go_quiet (fail)
   go_wp2_with fail
   go_roundg (l.length - (k + 1))
   case measure => omega
   case rel => exact ⟨k + 1, rfl, by omega, by go_num, HK.out.drewN _⟩
  ·go_wp2_with fail
   go_ret
   exact ⟨rfl, HK.out⟩
set_option maxHeartbeats 3200000 in
set_option maxRecDepth 100000 in
theorem sameEnt_any {F F' : Nat → Prop} {x y st su : Nat} {L L' : Ents} (w : World) (hx : Blk w x #[pv st] 36) (hs : StoreAt w F st L) (hy : Blk w y #[pv su] 36) (hs' : StoreAt w F' su L') (e : Ent)
 (he : findE L e.path = some e) (he' : findE L' e.path = some e) :
 Calls Tryz.prog 23 #[pv x, pv y, .string ⟨e.path.toArray⟩] w fun ed w' => ed = .returned (.bool true) ∧ Keeps Non w w' := by
 have hp12 := hs.ok.pathLen (p := e.path) (by rw [he]; rfl)
 obtain ⟨h31, h32⟩ := hs.ok.refsLen (findE_some he).1
 have hwr := (hs.ok.good e (findE_some he).1).2.1
 have hnl := (wrong_small hwr).1
 have HX := Lib.hid hx
 have HS := Lib.hid hs
 have HY := Lib.hid hy
 have HS' := Lib.hid hs'
 have HE := Lib.hid he
 have HE' := Lib.hid he'
 have hcx := hx.cell 0
 simp only [List.getElem?_toArray, List.getElem?_cons_zero] at hcx
 obtain ⟨SU, hSU⟩ : ∃ SU, sumOf (packP e.tree) = SU := ⟨_, rfl⟩
 have h8 : SU.size = 8 := by rw [← hSU]; exact sumB_size _ 8
 have HSU := Lib.hid hSU
 have HG := Lib.hid (get_any w hs e.path (by omega))
 clear hx hs hy hs' he he' hwr hSU h32
 unfold pv at *
 unfold sv at HG
 go_enter Tryz.func23, Tryz.ntmps23
 go_wp2_with fail
 refine HG.out.mono ?_
 rintro ed w1 (⟨hn, -, -⟩ | ⟨e1, vt, vr, hf, rfl, ht1, hr1, hk1⟩)
 ·rw [HE.out] at hn; cases hn
 rw [HE.out] at hf
 cases hf
 obtain ⟨ta, tc, rfl, -, htc⟩ := ht1.shape
 obtain ⟨ra, rc, rfl, -, hrc⟩ := hr1.shape
 unfold maxLen at htc hrc
 rw [HSU.out]
 have HK1 := Lib.hid hk1
 have HT1 := Lib.hid ht1.rd
 have HR1 := Lib.hid hr1.rd
 clear ht1 hr1 hk1 hcx HG
 go_upto_region 2 with (fail)
 obtain ⟨ab, hab⟩ : ∃ ab, w1.heap.size = ab := ⟨_, rfl⟩
 have HB2 : Hid (Blk (w1.alloc (.cells #[.slice ta e.tree.length tc, .slice ra e.refs.length rc, .string SU] 52)) ab #[.slice ta e.tree.length tc, .slice ra e.refs.length rc, .string SU] 52) := by
  rw [← hab]
  exact Blk.new _ _ _
 have HK2 : Hid (Keeps Non w1 (w1.alloc (.cells #[.slice ta e.tree.length tc, .slice ra e.refs.length rc, .string SU] 52))) := (Keeps.refl _ _).alloc _
 rw [hab]
 generalize w1.alloc (.cells #[.slice ta e.tree.length tc, .slice ra e.refs.length rc, .string SU] 52) = w2 at *
 clear hab
 have HKW2 := Lib.hid (HK1.out.tn HK2.out)
 have hcy := (HY.out.keeps HKW2.out fun h => h).cell 0
 simp only [List.getElem?_toArray, List.getElem?_cons_zero] at hcy
 have HG := Lib.hid (get_any w2 (HS'.out.non HKW2.out) e.path (by omega))
 unfold pv sv at HG
 go_wp2_with fail
 refine HG.out.mono ?_
 rintro ed w3 (⟨hn, -, -⟩ | ⟨e1, vt, vr, hf, rfl, ht3, hr3, hk3⟩)
 ·rw [HE'.out] at hn; cases hn
 rw [HE'.out] at hf
 cases hf
 obtain ⟨ua, uc, rfl, -, huc⟩ := ht3.shape
 obtain ⟨va, vc, rfl, -, hvc⟩ := hr3.shape
 unfold maxLen at huc hvc
 rw [HSU.out]
 have HK3 := Lib.hid hk3
 have HT3 := Lib.hid ht3.rd
 have HR3 := Lib.hid hr3.rd
 clear ht3 hr3 hk3 hcy HG
 go_upto_region 3 with (fail)
 obtain ⟨bb, hbb⟩ : ∃ bb, w3.heap.size = bb := ⟨_, rfl⟩
 have HB4 : Hid (Blk (w3.alloc (.cells #[.slice ua e.tree.length uc, .slice va e.refs.length vc, .string SU] 52)) bb #[.slice ua e.tree.length uc, .slice va e.refs.length vc, .string SU] 52) := by
  rw [← hbb]
  exact Blk.new _ _ _
 have HK4 : Hid (Keeps Non w3 (w3.alloc (.cells #[.slice ua e.tree.length uc, .slice va e.refs.length vc, .string SU] 52))) := (Keeps.refl _ _).alloc _
 rw [hbb]
 generalize w3.alloc (.cells #[.slice ua e.tree.length uc, .slice va e.refs.length vc, .string SU] 52) = w4 at *
 clear hbb
 have HA4 := Lib.hid ((HB2.out.keeps HK3.out fun h => h).keeps HK4.out fun h => h)
 have HTA := Lib.hid ((HT1.out.non HK2.out).non (HK3.out.tn HK4.out))
 have HRA := Lib.hid ((HR1.out.non HK2.out).non (HK3.out.tn HK4.out))
 have HTB := Lib.hid (HT3.out.non HK4.out)
 have HRB := Lib.hid (HR3.out.non HK4.out)
 have HKW4 := Lib.hid (HKW2.out.tn (HK3.out.tn HK4.out))
 have a0 := HA4.out.cell 0
 have a1 := HA4.out.cell 1
 have a2 := HA4.out.cell 2
 have b0 := HB4.out.cell 0
 have b1 := HB4.out.cell 1
 have b2 := HB4.out.cell 2
 simp only [List.getElem?_toArray, List.getElem?_cons_zero, List.getElem?_cons_succ] at a0 a1 a2 b0 b1 b2
 have HSM := Lib.hid (same_any _ _ e.tree w4 HTA.out HTB.out (by omega))
 clear HX HS HY HS' HK1 HT1 HR1 HK2 HB2 HKW2 HK3 HT3 HR3 HK4 HE HE'
 go_wp2_with fail
 refine HSM.out.mono ?_
 rintro ed w5 ⟨rfl, hk5⟩
 have HK5 := Lib.hid (HKW4.out.tn hk5)
 have HA5 := Lib.hid (HA4.out.keeps hk5 fun h => h)
 have HB5 := Lib.hid (HB4.out.keeps hk5 fun h => h)
 have HRA5 := Lib.hid (HRA.out.non hk5)
 have HRB5 := Lib.hid (HRB.out.non hk5)
 have a1 := HA5.out.cell 1
 have a2 := HA5.out.cell 2
 have b1 := HB5.out.cell 1
 have b2 := HB5.out.cell 2
 simp only [List.getElem?_toArray, List.getElem?_cons_zero, List.getElem?_cons_succ] at a1 a2 b1 b2
 clear hk5 HSM a0 b0 HA4 HB4 HTA HTB HRA HRB HKW4
 go_wp2_with fail
 go_loopg [69] e.refs.length (fun gk iv wr => ∃ k : Nat, gk = e.refs.length - k ∧ k ≤ e.refs.length ∧ iv = .int .i64 k ∧ Hid (Keeps Non w5 wr))
 case atStart => exact ⟨0, rfl, Nat.zero_le _, rfl, Keeps.refl _ _⟩
 case round =>
  clear a1 a2 b1 b2
  obtain ⟨k, rfl, hk, rfl, HK⟩ := hrel
  by_cases hlt : k < e.refs.length
  ·have a1 := (HA5.out.keeps HK.out fun h => h).cell 1
   have b1 := (HB5.out.keeps HK.out fun h => h).cell 1
   simp only [List.getElem?_toArray, List.getElem?_cons_zero, List.getElem?_cons_succ] at a1 b1
   obtain ⟨c, o, cc, hsh, -, -, -, -, hcc, -⟩ := (HRA5.out.non HK.out).pos (by omega)
   cases hsh
   obtain ⟨c', o', cc', hsh, -, -, -, -, hcc', -⟩ := (HRB5.out.non HK.out).pos (by omega)
   cases hsh
   obtain ⟨r, hr⟩ : ∃ r, e.refs[k]? = some r := ⟨_, List.getElem?_eq_getElem hlt⟩
   have hre := (List.getElem?_eq_some_iff.1 hr).2
   have c0 : wr.cell? ⟨c, o + k, none⟩ = some (.string ⟨r.toArray⟩) := (hcc k (by omega)).trans (by rw [svs_get _ _ hlt, hre]; rfl)
   have d0 : wr.cell? ⟨c', o' + k, none⟩ = some (.string ⟨r.toArray⟩) := (hcc' k (by omega)).trans (by rw [svs_get _ _ hlt, hre]; rfl)
   have q2 : (0 : Int) ≤ (k : Int) := by omega
   have q3 : (k : Int) < (e.refs.length : Int) := by omega
   clear hcc hcc' hr hre
   go_upto_region 8 with (fail)
   go_quiet (fail)
   go_wp2_with fail
   go_roundg (e.refs.length - (k + 1))
   case measure => omega
   case rel => exact ⟨k + 1, rfl, by omega, by go_num, HK.out.drewN _⟩
  ·go_wp2_with fail
   go_ret
   exact ⟨rfl, HK5.out.tn HK.out⟩
abbrev buTs : List TypeId := [93, 5]
structure BuS (W : World) (bb : Nat) (T rest : List UInt8) (w : World) : Prop where
 bu : ∃ out, BuilderAt w W.heap.size bb out ∧ out ++ rest = T
 ft : T.length ≤ 70368744177664
 kp : Kp W.heap.size buTs W w
section
variable {W w w' : World} {bb : Nat} {T rest : List UInt8}
theorem BuS.new (W : World) (T : List UInt8) (h : T.length ≤ 70368744177664) : BuS W W.heap.size T T (W.alloc (.cells #[.pointer none, .slice none 0 0] 93)) :=
 ⟨⟨[], BuilderAt.new W, rfl⟩, h, (Kp.refl _ _ _).alloc _⟩
theorem BuS.non (h : BuS W bb T rest w) : Keeps Non W w := h.kp.keeps (Nat.le_refl _)
theorem BuS.keeps (h : BuS W bb T rest w) (hk : Keeps Non w w') : BuS W bb T rest w' := by
 have k : Kp W.heap.size [] w w' := Kp.of_keeps hk
 obtain ⟨out, hb, ho⟩ := h.bu
 exact ⟨⟨out, hb.kp k (.inr (by simp)), ho⟩, h.ft, h.kp.trans (Kp.of_keeps hk)⟩
theorem BuS.alloc (h : BuS W bb T rest w) (o : Obj) : BuS W bb T rest (w.alloc o) := h.keeps ((Keeps.refl _ _).alloc o)
theorem BuS.drew (h : BuS W bb T rest w) : BuS W bb T rest w.drew := h.keeps (Keeps.refl _ _).drew
theorem BuS.drewN (h : BuS W bb T rest w) (n : Nat) : BuS W bb T rest (w.drewN n) := h.keeps ((Keeps.refl _ _).drewN n)
theorem bs_put (h : BuS W bb T rest w) (l : List (List UInt8)) (n sz : Nat) (c : Array Value) (hsz : sz = w.heap.size) (hc : c = (svs l).toArray) (hn : l.length = n) (h0 : 0 < n) (h9 : n ≤ 100) (hr : roomOf l ≤ 70368744177664) :
 Calls Tryz.prog 41 #[.slice (some ⟨sz, 0, none⟩) n n] (w.alloc (.cells c 9)) fun e w' => e = .returned (.string ⟨(putAll l).toArray⟩) ∧ BuS W bb T rest w' := by
 subst hsz
 refine (put_any _ l _ (putArg w n _ l c rfl hc hn (by omega)) (by omega) hr).mono ?_
 rintro e w1 ⟨rfl, hk⟩
 exact ⟨rfl, (h.alloc _).keeps hk⟩
theorem bs_write (x : List UInt8) (h : BuS W bb T (x ++ rest) w) :
 Calls Tryz.prog 40 #[.pointer (some ⟨bb, 0, none⟩), .string ⟨x.toArray⟩] w fun e w' => e = .returned (.tuple #[.int .i64 x.length, .nilIface]) ∧ BuS W bb T rest w' := by
 obtain ⟨⟨out, hb, ho⟩, hf, hk⟩ := h
 have hl : out.length + (x.length + rest.length) = T.length := by rw [← ho]; simp
 refine (writeString_any W.heap.size bb out ⟨x.toArray⟩ w hb (by show _ + x.toArray.size ≤ _; simp; omega)).mono ?_
 rintro e w1 ⟨rfl, hb1, hk1⟩
 exact ⟨rfl, ⟨_, hb1, by rw [← ho, List.append_assoc]⟩, hf, hk.trans hk1⟩
theorem bs_string (h : BuS W bb T [] w) (hT : T ≠ []) :
 Calls Tryz.prog 43 #[.pointer (some ⟨bb, 0, none⟩)] w fun e w' => e = .returned (.string ⟨T.toArray⟩) ∧ Keeps Non W w' := by
 obtain ⟨⟨out, hb, ho⟩, hf, hk⟩ := h
 rw [List.append_nil] at ho
 subst ho
 refine (bstring_any _ _ _ _ hb hT).mono ?_
 rintro e w1 ⟨rfl, hk1⟩
 have hb0 := hk.below (Nat.le_refl _)
 refine ⟨rfl, ?_⟩
 refine Keeps.of_below (B := W.heap.size) ⟨hk1.os.trans hb0.os, hk1.tape.trans hb0.tape, hk1.output.trans hb0.output, Nat.le_trans hb0.size hk1.size, fun k hk => (hk1.block k hk).trans (hb0.block k hk)⟩ fun k hk _ => hk
end
end Go.Proofs.YtdkogijdfgfpeaaGreatDoor
