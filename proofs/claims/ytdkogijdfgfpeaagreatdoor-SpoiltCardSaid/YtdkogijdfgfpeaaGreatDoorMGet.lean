/- (*Store).Get. -/
import Derived.Test.YtdkogijdfgfpeaaGreatDoorMMap
import Derived.Test.YtdkogijdfgfpeaaGreatDoorMPackw
import Derived.Test.YtdkogijdfgfpeaaGreatDoorMRefN
import Derived.Test.YtdkogijdfgfpeaaGreatDoorMPack
import Derived.Test.YtdkogijdfgfpeaaGreatDoorMClosW
set_option linter.unusedVariables false
namespace Go.Proofs.YtdkogijdfgfpeaaGreatDoor
open Go Go.RowKit
theorem Sl.non {w w' : World} {B : Nat} {E : TypeId} {size : Nat} {v : Value} {n : Nat} {xs : List Value} (h : Sl w B E size v n xs) (k : Keeps Non w w') : Sl w' B E size v n xs := h.keep fun _ _ _ _ hb => hb.keeps k fun h => h
theorem Keeps.un {S : Nat → Prop} {a w : World} (h : Keeps S a.drew w) : Keeps S a w := ⟨h.os, h.tape, h.output, h.size, h.block⟩
theorem Keeps.tn {a b c : World} (h : Keeps Non a b) (k : Keeps Non b c) : Keeps Non a c := h.trans k fun _ h => h.elim
theorem get_done {w W w' : World} {rb tl rl : Nat} {vt vr : Value} {xs ys : List Value} (HK0 : Keeps Non w W) (HB0 : Blk W rb #[.slice none 0 0, .slice none 0 0, .string ⟨#[]⟩] 52) (HRB : rb = w.heap.size) (hc : Keeps Non W w') (hn : Sl w' W.heap.size 49 3 vt tl xs) (hs : Sl w' W.heap.size 9 1 vr rl ys) (sum : ByteArray) :
 Blk (((w'.setCell ⟨rb, 0, none⟩ vt).setCell ⟨rb, 1, none⟩ vr).setCell ⟨rb, 2, none⟩ (.string sum)) rb #[vt, vr, .string sum] 52 ∧
  Sl (((w'.setCell ⟨rb, 0, none⟩ vt).setCell ⟨rb, 1, none⟩ vr).setCell ⟨rb, 2, none⟩ (.string sum)) w.heap.size 49 3 vt tl xs ∧ Sl (((w'.setCell ⟨rb, 0, none⟩ vt).setCell ⟨rb, 1, none⟩ vr).setCell ⟨rb, 2, none⟩ (.string sum)) w.heap.size 9 1 vr rl ys ∧
  Keeps Non w (((w'.setCell ⟨rb, 0, none⟩ vt).setCell ⟨rb, 1, none⟩ vr).setCell ⟨rb, 2, none⟩ (.string sum)) := by
 have hlt := HB0.lt
 have hge : w.heap.size ≤ rb := Nat.le_of_eq HRB.symm
 have hb := HB0.keeps hc fun h => h
 refine ⟨?_, ?_, ?_, ?_⟩
 ·simpa using ((hb.set 0 vt).set 1 vr).set 2 (.string sum)
 ·refine (hn.keep fun b c _ hB hbk => ?_).mono HK0.size
  have hne : b ≠ rb := by omega
  exact ((hbk.set_ne _ _ hne).set_ne _ _ hne).set_ne _ _ hne
 ·refine (hs.keep fun b c _ hB hbk => ?_).mono HK0.size
  have hne : b ≠ rb := by omega
  exact ((hbk.set_ne _ _ hne).set_ne _ _ hne).set_ne _ _ hne
 ·exact ((((HK0.tn hc).setCell _ _ (.inr hge)).setCell _ _ (.inr hge)).setCell _ _ (.inr hge))
def GetPost (w : World) (L : Ents) (name : List UInt8) (ed : Ending) (w' : World) : Prop :=
 (findE L name = none ∧ ed = .returned (.tuple #[.agg #[.slice none 0 0, .slice none 0 0, .string ⟨#[]⟩], .int .i64 15]) ∧ Keeps Non w w') ∨
 ∃ e vt vr, findE L name = some e ∧ ed = .returned (.tuple #[.agg #[vt, vr, .string (sumOf (packP e.tree))], .int .i64 0]) ∧ Sl w' w.heap.size 49 3 vt e.tree.length (nodeCells e.tree) ∧ Sl w' w.heap.size 9 1 vr e.refs.length (svs e.refs) ∧ Keeps Non w w'
set_option maxHeartbeats 3200000 in
set_option maxRecDepth 100000 in
theorem get_any {F : Nat → Prop} {s : Nat} {L : Ents} (w : World) (h : StoreAt w F s L) (name : List UInt8) (hn : name.length ≤ 1099511627776) :
 Calls Tryz.prog 25 #[pv s, sv name] w (GetPost w L name) := by
 have HS := Lib.hid h
 have HTE : Hid (Tryz.prog.underlying 82 = some (.map 9 81)) := Tryz.underlying82
 clear h
 unfold pv sv
 go_enter Tryz.func25, Tryz.ntmps25
 go_upto_region 1 with (fail)
 have hk0 : Keeps Non w (w.alloc (.cells #[.slice none 0 0, .slice none 0 0, .string ⟨#[]⟩] 52)) := (Keeps.refl _ _).alloc _
 have hb0 := Blk.new w #[.slice none 0 0, .slice none 0 0, .string ⟨#[]⟩] 52
 obtain ⟨W, hW⟩ : ∃ W, W = w.alloc (.cells #[.slice none 0 0, .slice none 0 0, .string ⟨#[]⟩] 52) := ⟨_, rfl⟩
 obtain ⟨rb, hrb⟩ : ∃ rb, rb = w.heap.size := ⟨_, rfl⟩
 rw [← hW] at hk0 hb0
 rw [← hrb] at hb0
 rw [← hW, ← hrb]
 have HK0 := Lib.hid hk0
 have HB0 := Lib.hid hb0
 have HRB := Lib.hid hrb
 have HSW := Lib.hid (HS.out.non hk0)
 clear hW hrb hk0 hb0
 obtain ⟨mb, m, g1, g2, g3, g4, g5, g6⟩ := HSW.out.map
 have cs := g2.cell 0
 simp only [List.getElem?_toArray, List.getElem?_cons_zero] at cs
 have HMB := Lib.hid g3
 rcases StoreAt.look g3 g5 g6 name with ⟨hf, hg⟩ | ⟨e, q, hf, hel, hep, hg, hE⟩
 ·have HVAL : Hid ((getM m name).getD (.pointer none) = .pointer none) := by show _ = _; rw [hg]; rfl
  have HFN := Lib.hid hf
  have r0 := HB0.out.cell 0
  have r1 := HB0.out.cell 1
  have r2 := HB0.out.cell 2
  have f0 := HB0.out.free 0
  have f1 := HB0.out.free 1
  have f2 := HB0.out.free 2
  simp only [List.getElem?_toArray, List.getElem?_cons_zero, List.getElem?_cons_succ] at r0 r1 r2
  clear hf hg g1 g2 g3 g4 g5 g6
  go_wp2_with (first | (at_lookup; refine wpl_look _ rfl _ _ _ rfl _ _ HTE.out Tryz.underlying9 (.pointer none) (Tryz.zeroValue81 _) mb m rfl HMB.out name rfl hn ?_; rw [HVAL.out]))
  have hb3 := ((HB0.out.set 0 (.slice none 0 0)).set 1 (.slice none 0 0)).set 2 (.string ⟨#[]⟩)
  have hk3 : Keeps Non w (((W.setCell ⟨rb, 0, none⟩ (.slice none 0 0)).setCell ⟨rb, 1, none⟩ (.slice none 0 0)).setCell ⟨rb, 2, none⟩ (.string ⟨#[]⟩)) := ((HK0.out.setCell _ _ (.inr (Nat.le_of_eq HRB.out.symm))).setCell _ _ (.inr (Nat.le_of_eq HRB.out.symm))).setCell _ _ (.inr (Nat.le_of_eq HRB.out.symm))
  generalize ((W.setCell ⟨rb, 0, none⟩ (.slice none 0 0)).setCell ⟨rb, 1, none⟩ (.slice none 0 0)).setCell ⟨rb, 2, none⟩ (.string ⟨#[]⟩) = w3 at *
  have t0 := hb3.cell 0
  have t1 := hb3.cell 1
  have t2 := hb3.cell 2
  simp at t0 t1 t2
  refine bodyPost_ret (v := .tuple #[.agg #[.slice none 0 0, .slice none 0 0, .string ⟨#[]⟩], .int .i64 15]) (by simp [results, Tryz.results25, go_sem, t0, t1, t2]) rfl ?_
  exact .inl ⟨HFN.out, rfl, hk3⟩
 ·have HVAL : Hid ((getM m name).getD (.pointer none) = .pointer (some ⟨q, 0, none⟩)) := by show _ = _; rw [hg]; rfl
  have HFN := Lib.hid hf
  have HFIT := Lib.hid (HS.out.fit e hel)
  have HGOOD := Lib.hid (HS.out.ok.good e hel)
  obtain ⟨ho, vt, vr, h1, h2, h3, h4, h5⟩ := hE
  have HB := Lib.hid h1
  have HT := Lib.hid h2
  have HR := Lib.hid h3
  clear hf hg g1 g2 g3 g4 g5 g6 hel hep ho h1 h2 h3 h4 h5
  go_upto_region 4 with (first | (at_lookup; refine wpl_look _ rfl _ _ _ rfl _ _ HTE.out Tryz.underlying9 (.pointer none) (Tryz.zeroValue81 _) mb m rfl HMB.out name rfl hn ?_; rw [HVAL.out]))
  obtain ⟨va, vc, rfl, -, -⟩ := HT.out.shape
  obtain ⟨ua, uc, rfl, -, -⟩ := HR.out.shape
  have htl : e.tree.length ≤ 1099511627776 := by
   have h1 := HGOOD.out.2.1
   unfold wrongL at h1
   split at h1
   ·cases h1
   ·have := wrong_len e.tree 0 [] h1 (by omega)
    omega
  have HCN : Hid (∀ wx, Keeps Non W wx → Calls Tryz.prog 57 #[.slice va e.tree.length vc] wx fun ed w' => ∃ v', ed = .returned v' ∧ Sl w' W.heap.size 49 3 v' e.tree.length (nodeCells e.tree) ∧ Keeps Non wx w') := fun wx hk => (cloneN_any e.tree _ wx (HT.out.non hk) htl).mono (by rintro ed w' ⟨v', rfl, h1, h2⟩; exact ⟨v', rfl, h1.mono hk.size, h2⟩)
  have HCS : Hid (∀ wx, Keeps Non W wx → Calls Tryz.prog 58 #[.slice ua e.refs.length uc] wx fun ed w' => ∃ v', ed = .returned v' ∧ Sl w' W.heap.size 9 1 v' e.refs.length (svs e.refs) ∧ Keeps Non wx w') := fun wx hk => (cloneS_any e.refs _ wx (HR.out.non hk) HFIT.out.refs).mono (by rintro ed w' ⟨v', rfl, h1, h2⟩; exact ⟨v', rfl, h1.mono hk.size, h2⟩)
  have HSUM : Hid (∀ wx, Calls Tryz.prog 42 #[.string ⟨(packP e.tree).toArray⟩] wx fun ed w' => ed = .returned (.string (sumOf (packP e.tree))) ∧ Keeps Non wx w') := fun wx => (sum_any _ wx (by show (packP e.tree).toArray.size ≤ _; have := HFIT.out.pack; simp [maxLen]; omega))
  have q0 := HB.out.cell 0
  have q1 := HB.out.cell 1
  have q2 := HB.out.cell 2
  simp only [List.getElem?_toArray, List.getElem?_cons_zero, List.getElem?_cons_succ] at q0 q1 q2
  unfold sv at q0
  have hc : Keeps Non W W := Keeps.refl _ _
  go_region_with (first
   | (go_at_call 57; refine (HCN.out _ (by first | exact hc | exact hc.drew)).mono ?_; rintro ed w' ⟨v1, rfl, hn1, hk⟩; obtain ⟨na, nc, rfl, -, -⟩ := hn1.shape; (try replace hs1 := hs1.non (by first | exact hk | exact hk.un)); replace hc := Keeps.tn hc (by first | exact hk | exact hk.un); clear hk; have q0 := (HB.out.keeps hc (fun h => h)).cell 0; have q1 := (HB.out.keeps hc (fun h => h)).cell 1; have q2 := (HB.out.keeps hc (fun h => h)).cell 2; have hbb := HB0.out.keeps hc (fun h => h); have r0 := hbb.cell 0; have r1 := hbb.cell 1; have r2 := hbb.cell 2; have f0 := hbb.free 0; have f1 := hbb.free 1; have f2 := hbb.free 2; clear hbb; simp only [List.getElem?_toArray, List.getElem?_cons_zero, List.getElem?_cons_succ, sv] at q0 q1 q2 r0 r1 r2)
   | (go_at_call 58; refine (HCS.out _ (by first | exact hc | exact hc.drew)).mono ?_; rintro ed w' ⟨v1, rfl, hs1, hk⟩; obtain ⟨sa, sc, rfl, -, -⟩ := hs1.shape; (try replace hn1 := hn1.non (by first | exact hk | exact hk.un)); replace hc := Keeps.tn hc (by first | exact hk | exact hk.un); clear hk; have q0 := (HB.out.keeps hc (fun h => h)).cell 0; have q1 := (HB.out.keeps hc (fun h => h)).cell 1; have q2 := (HB.out.keeps hc (fun h => h)).cell 2; have hbb := HB0.out.keeps hc (fun h => h); have r0 := hbb.cell 0; have r1 := hbb.cell 1; have r2 := hbb.cell 2; have f0 := hbb.free 0; have f1 := hbb.free 1; have f2 := hbb.free 2; clear hbb; simp only [List.getElem?_toArray, List.getElem?_cons_zero, List.getElem?_cons_succ, sv] at q0 q1 q2 r0 r1 r2)
   | (go_at_call 42; refine (HSUM.out _).mono ?_; rintro ed w' ⟨rfl, hk⟩; (try replace hs1 := hs1.non (by first | exact hk | exact hk.un)); (try replace hn1 := hn1.non (by first | exact hk | exact hk.un)); replace hc := Keeps.tn hc (by first | exact hk | exact hk.un); clear hk; have q0 := (HB.out.keeps hc (fun h => h)).cell 0; have q1 := (HB.out.keeps hc (fun h => h)).cell 1; have q2 := (HB.out.keeps hc (fun h => h)).cell 2; have hbb := HB0.out.keeps hc (fun h => h); have r0 := hbb.cell 0; have r1 := hbb.cell 1; have r2 := hbb.cell 2; have f0 := hbb.free 0; have f1 := hbb.free 1; have f2 := hbb.free 2; clear hbb; simp only [List.getElem?_toArray, List.getElem?_cons_zero, List.getElem?_cons_succ, sv] at q0 q1 q2 r0 r1 r2))
  all_goals (
   obtain ⟨hb3, hn3, hs3, hk3⟩ := get_done HK0.out HB0.out HRB.out hc hn1 hs1 (sumOf (packP e.tree))
   generalize ((w'.setCell ⟨rb, 0, none⟩ (.slice na e.tree.length nc)).setCell ⟨rb, 1, none⟩ (.slice sa e.refs.length sc)).setCell ⟨rb, 2, none⟩ (.string (sumOf (packP e.tree))) = w3 at *
   have t0 := hb3.cell 0
   have t1 := hb3.cell 1
   have t2 := hb3.cell 2
   simp only [List.getElem?_toArray, List.getElem?_cons_zero, List.getElem?_cons_succ] at t0 t1 t2
   have HN3 := Lib.hid hn3
   have HS3 := Lib.hid hs3
   have HK3 := Lib.hid hk3
   clear hb3 hn3 hs3 hk3 hn1 hs1 hc q0 q1 q2 r0 r1 r2 f0 f1 f2
   go_wp2_with fail
   refine bodyPost_ret (v := .tuple #[.agg #[.slice na e.tree.length nc, .slice sa e.refs.length sc, .string (sumOf (packP e.tree))], .int .i64 0]) (by simp [results, Tryz.results25, go_sem, t0, t1, t2]) rfl ?_
   exact .inr ⟨e, _, _, HFN.out, rfl, HN3.out, HS3.out, HK3.out⟩)
abbrev buTs : List TypeId := [93, 5]
structure BuS (W : World) (bb : Nat) (T rest : List UInt8) (w : World) : Prop where
 bu : ∃ out, BuilderAt w W.heap.size bb out ∧ out ++ rest = T
 ft : T.length ≤ 70368744177664
 kp : Kp W.heap.size buTs W w
section
variable {W w w' : World} {bb : Nat} {T rest : List UInt8}
theorem BuS.new (W : World) (T : List UInt8) (h : T.length ≤ 70368744177664) : BuS W W.heap.size T T (W.alloc (.cells #[.pointer none, .slice none 0 0] 93)) :=
 ⟨⟨[], BuilderAt.new W, rfl⟩, h, (Kp.refl _ _ _).alloc _⟩
theorem BuS.non (h : BuS W bb T rest w) : Keeps Non W w := h.kp.keeps (Nat.le_refl _)
theorem BuS.keeps (h : BuS W bb T rest w) (hk : Keeps Non w w') : BuS W bb T rest w' := by
 have k : Kp W.heap.size [] w w' := Kp.of_keeps hk
 obtain ⟨out, hb, ho⟩ := h.bu
 exact ⟨⟨out, hb.kp k (.inr (by simp)), ho⟩, h.ft, h.kp.trans (Kp.of_keeps hk)⟩
theorem BuS.alloc (h : BuS W bb T rest w) (o : Obj) : BuS W bb T rest (w.alloc o) := h.keeps ((Keeps.refl _ _).alloc o)
theorem BuS.drew (h : BuS W bb T rest w) : BuS W bb T rest w.drew := h.keeps (Keeps.refl _ _).drew
theorem BuS.drewN (h : BuS W bb T rest w) (n : Nat) : BuS W bb T rest (w.drewN n) := h.keeps ((Keeps.refl _ _).drewN n)
theorem bs_put (h : BuS W bb T rest w) (l : List (List UInt8)) (n sz : Nat) (c : Array Value) (hsz : sz = w.heap.size) (hc : c = (svs l).toArray) (hn : l.length = n) (h0 : 0 < n) (h9 : n ≤ 100) (hr : roomOf l ≤ 70368744177664) :
 Calls Tryz.prog 41 #[.slice (some ⟨sz, 0, none⟩) n n] (w.alloc (.cells c 9)) fun e w' => e = .returned (.string ⟨(putAll l).toArray⟩) ∧ BuS W bb T rest w' := by
 subst hsz
 refine (put_any _ l _ (putArg w n _ l c rfl hc hn (by omega)) (by omega) hr).mono ?_
 rintro e w1 ⟨rfl, hk⟩
 exact ⟨rfl, (h.alloc _).keeps hk⟩
theorem bs_write (x : List UInt8) (h : BuS W bb T (x ++ rest) w) :
 Calls Tryz.prog 40 #[.pointer (some ⟨bb, 0, none⟩), .string ⟨x.toArray⟩] w fun e w' => e = .returned (.tuple #[.int .i64 x.length, .nilIface]) ∧ BuS W bb T rest w' := by
 obtain ⟨⟨out, hb, ho⟩, hf, hk⟩ := h
 have hl : out.length + (x.length + rest.length) = T.length := by rw [← ho]; simp
 refine (writeString_any W.heap.size bb out ⟨x.toArray⟩ w hb (by show _ + x.toArray.size ≤ _; simp; omega)).mono ?_
 rintro e w1 ⟨rfl, hb1, hk1⟩
 exact ⟨rfl, ⟨_, hb1, by rw [← ho, List.append_assoc]⟩, hf, hk.trans hk1⟩
theorem bs_string (h : BuS W bb T [] w) (hT : T ≠ []) :
 Calls Tryz.prog 43 #[.pointer (some ⟨bb, 0, none⟩)] w fun e w' => e = .returned (.string ⟨T.toArray⟩) ∧ Keeps Non W w' := by
 obtain ⟨⟨out, hb, ho⟩, hf, hk⟩ := h
 rw [List.append_nil] at ho
 subst ho
 refine (bstring_any _ _ _ _ hb hT).mono ?_
 rintro e w1 ⟨rfl, hk1⟩
 have hb0 := hk.below (Nat.le_refl _)
 refine ⟨rfl, ?_⟩
 refine Keeps.of_below (B := W.heap.size) ⟨hk1.os.trans hb0.os, hk1.tape.trans hb0.tape, hk1.output.trans hb0.output, Nat.le_trans hb0.size hk1.size, fun k hk => (hk1.block k hk).trans (hb0.block k hk)⟩ fun k hk _ => hk
end
def ExpRes (L : Ents) (roots : List (List UInt8)) (E : Int) (T : List UInt8) : Prop :=
 ((∃ r ∈ roots, findE L r = none) ∧ E = 15 ∧ T = []) ∨ ((∀ r ∈ roots, (findE L r).isSome = true) ∧ ∃ K, ReachOf L roots K ∧ E = 0 ∧ T = expL (entsOf L (closL L K)))
def ExpPost (w : World) (L : Ents) (roots : List (List UInt8)) (ed : Ending) (w' : World) : Prop :=
 ∃ E T, ExpRes L roots E T ∧ ed = .returned (.tuple #[.string ⟨T.toArray⟩, .int .i64 E]) ∧ Keeps Non w w'
theorem told_find {L : Ents} {all out : List (List UInt8)} (h : Told L all out) {k : Nat} {p : List UInt8} (hk : out[k]? = some p) : ∃ e, e ∈ L ∧ findE L p = some e ∧ e.path = p := by
 obtain ⟨a, b, hab⟩ := List.append_of_mem (List.mem_of_getElem? hk)
 obtain ⟨e, he, hep, -⟩ := h.ahead a p b hab
 obtain ⟨o, ho⟩ := Option.isSome_iff_exists.1 (findE_isSome.2 ⟨e, he, hep⟩)
 exact ⟨o, (findE_some ho).1, ho, (findE_some ho).2⟩
theorem clos_ten {L : Ents} (h : StoreOk L) (K : List (List UInt8)) : (closL L K).length ≤ 10 := Nat.le_trans (toldc_len (closL_told L K)) h.ten
set_option maxHeartbeats 6400000 in
set_option maxRecDepth 100000 in
theorem export_any {F : Nat → Prop} {s : Nat} {L : Ents} (w : World) (h : StoreAt w F s L) (roots : List (List UInt8)) (vr : Value) (hr : Rd w 1 vr roots.length (svs roots)) (hrl : roots.length ≤ 1099511627776) (hrs : ∀ r ∈ roots, r.length ≤ 1099511627776) :
 Calls Tryz.prog 19 #[pv s, vr] w (ExpPost w L roots) := by
 have HS := Lib.hid h
 have HTE : Hid (Tryz.prog.underlying 82 = some (.map 9 81)) := Tryz.underlying82
 obtain ⟨ra, rc, rfl, -, hrc⟩ := hr.shape
 unfold maxLen at hrc
 have HCL := Lib.hid (closure_any w h roots _ hr hrl hrs)
 clear h hr hrs
 unfold pv at *
 go_enter Tryz.func19, Tryz.ntmps19
 go_wp2_with fail
 refine HCL.out.mono ?_
 clear HCL
 rintro ed w1 (⟨hf, rfl, hk1⟩ | ⟨hall, K, v, hK, rfl, hs1, hk1⟩)
 ·have HP : Hid (ExpPost w L roots (.returned (.tuple #[.string ⟨#[]⟩, .int .i64 15])) w1) := ⟨15, [], .inl ⟨hf, rfl, rfl⟩, rfl, hk1⟩
  clear hf hk1
  go_wp2_with fail
  refine bodyPost_ret (v := .tuple #[.string ⟨#[]⟩, .int .i64 15]) (by simp [results, Tryz.results19, go_sem]) rfl ?_
  exact HP.out
 ·have hten := clos_ten HS.out.ok K
  have HT := Lib.hid (closL_told L K)
  have HLEN := Lib.hid (exp_len HS.out.ok hten)
  have HK := Lib.hid hK
  have HALL := Lib.hid hall
  have HK1 := Lib.hid hk1
  have HS1 := Lib.hid (HS.out.non hk1)
  obtain ⟨l, hl⟩ : ∃ l, closL L K = l := ⟨_, rfl⟩
  have HLQ := Lib.hid hl
  rw [hl] at hs1 hten HT HLEN
  obtain ⟨la, lc, rfl, hl1, hl2⟩ := hs1.shape
  unfold maxLen at hl2
  have HSL := Lib.hid hs1.rd
  obtain ⟨T, hT⟩ : ∃ T, expL (entsOf L l) = T := ⟨_, rfl⟩
  have HTQ := Lib.hid hT
  rw [hT] at HLEN
  have hb0 := BuS.new w1 T (Nat.le_trans HLEN.out (by decide))
  have hq0 : T = putAll [wExport] ++ expAt L l 0 := by rw [← hT, expL_start]; simp [putAll]
  clear hall hK hk1 hl hs1 hT
  go_upto_region 5 with (fail)
  obtain ⟨bb, hbb⟩ : ∃ bb, w1.heap.size = bb := ⟨_, rfl⟩
  rw [hbb] at hb0
  rw [hbb]
  generalize w1.alloc (.cells #[.pointer none, .slice none 0 0] 93) = w2 at *
  have HB0 : Hid (BuS w1 bb T (putAll [wExport] ++ expAt L l 0) w2) := by rw [← hq0]; exact hb0
  clear hb0 hq0 hbb
  go_wp2_with fail
  refine (bs_put HB0.out [wExport] 1 _ _ rfl ?c1 rfl (by omega) (by omega) (by simp [roomOf])).mono ?_
  case c1 => rfl
  rintro e w3 ⟨rfl, hq⟩
  have HB1 := Lib.hid hq
  clear hq HB0
  go_wp2_with fail
  refine (bs_write _ HB1.out).mono ?_
  rintro e w4 ⟨rfl, hq⟩
  have HB2 := Lib.hid hq
  clear hq HB1
  go_wp2_with fail
  obtain ⟨mb, m, -, g2, g3, g4, g5, g6⟩ := HS1.out.map
  have HG2 := Lib.hid g2
  have HG3 := Lib.hid g3
  have HG5 := Lib.hid g5
  have HG6 := Lib.hid g6
  clear g2 g3 g4 g5 g6
  go_loopg [28] l.length (fun gk iv wr => ∃ k : Nat, gk = l.length - k ∧ k ≤ l.length ∧ iv = .int .i64 k ∧ Hid (BuS w1 bb T (expAt L l k) wr))
  case atStart => exact ⟨0, rfl, Nat.zero_le _, rfl, HB2⟩
  case round =>
   clear HB2
   obtain ⟨k, rfl, hk, rfl, HB⟩ := hrel
   by_cases hlt : k < l.length
   ·obtain ⟨p, hp⟩ : ∃ p, l[k]? = some p := ⟨_, List.getElem?_eq_getElem hlt⟩
    obtain ⟨e, hel, hfe, hep⟩ := told_find HT.out hp
    subst hep
    have hp12 := HS1.out.ok.pathLen (p := e.path) (by rw [hfe]; rfl)
    obtain ⟨e', q, hf', -, -, hg, hE⟩ : ∃ e' q, findE L e.path = some e' ∧ e' ∈ L ∧ e'.path = e.path ∧ getM m e.path = some (pv q) ∧ EntAt w1 F q e' := by
     rcases StoreAt.look HG3.out HG5.out HG6.out e.path with ⟨hn, -⟩ | h
     ·rw [hfe] at hn; cases hn
     ·exact h
    rw [hfe] at hf'
    cases hf'
    obtain ⟨b', o', cc, hsh, -, -, -, hltb, hcc, -⟩ := (HSL.out.non HB.out.non).pos (by omega)
    cases hsh
    have c0 : wr.cell? ⟨b', o' + k, none⟩ = some (.string ⟨e.path.toArray⟩) := (hcc k (by omega)).trans (by rw [svs_get _ _ hlt]; have := (List.getElem?_eq_some_iff.1 hp).2; rw [this]; rfl)
    have cs := (HG2.out.keeps HB.out.non fun h => h).cell 0
    simp only [List.getElem?_toArray, List.getElem?_cons_zero] at cs
    have HMB := Lib.hid (HG3.out.keeps HB.out.non fun h => h)
    have HVAL : Hid ((getM m e.path).getD (.pointer none) = .pointer (some ⟨q, 0, none⟩)) := by show _ = _; rw [hg]; rfl
    obtain ⟨h31, h32⟩ := HS1.out.ok.refsLen hel
    have hpk := (wrong_small (HS1.out.ok.good e hel).2.1).2.2
    have HR12 := Lib.hid h32
    have HBX : Hid (BuS w1 bb T ((putAll [wPath, e.path] ++ packP e.tree ++ putAll [wRefs]) ++ (refsAt e 0 ++ expAt L l (k + 1))) wr) := by
     have h1 := HB.out
     rw [expAt_step hp hfe, expEnt_eq, List.append_assoc] at h1
     exact h1
    obtain ⟨-, vt, vr, h1, h2, h3, h4, h5⟩ := hE
    obtain ⟨va, vc, rfl, hv1, hv2⟩ := h3.shape
    unfold maxLen at hv2
    have HEB := Lib.hid h1
    have HRF := Lib.hid h3
    clear hg hfe hcc hp h1 h2 h3 h4 h5 h32 hel
    go_upto_region 10 with (first | (at_lookup; refine wpl_look _ rfl _ _ _ rfl _ _ HTE.out Tryz.underlying9 (.pointer none) (Tryz.zeroValue81 _) mb m rfl HMB.out e.path rfl (by omega) ?_; rw [HVAL.out]))
    clear c0 cs HB HMB HVAL
    go_cut [] (fun wx => Hid (BuS w1 bb T (refsAt e 0 ++ expAt L l (k + 1)) wx))
    case first =>
     obtain ⟨sA, hsA⟩ : ∃ sA : ByteArray, (⟨(putAll [wPath, e.path]).toArray⟩ : ByteArray) = sA := ⟨_, rfl⟩
     obtain ⟨sB, hsB⟩ : ∃ sB : ByteArray, (⟨(packP e.tree).toArray⟩ : ByteArray) = sB := ⟨_, rfl⟩
     obtain ⟨sC, hsC⟩ : ∃ sC : ByteArray, (⟨(putAll [wRefs]).toArray⟩ : ByteArray) = sC := ⟨_, rfl⟩
     obtain ⟨sD, hsD⟩ : ∃ sD : ByteArray, sA ++ sB = sD := ⟨_, rfl⟩
     obtain ⟨sE, hsE⟩ : ∃ sE : ByteArray, sD ++ sC = sE := ⟨_, rfl⟩
     have hla : (putAll [wPath, e.path]).length ≤ 100 := Nat.le_trans (putAll_le _) (by simp [roomOf]; omega)
     have hlc : (putAll [wRefs]).length ≤ 100 := Nat.le_trans (putAll_le _) (by simp [roomOf])
     have hadd1 : ∀ W : World, (Op.stringOp .add sA sB).run Tryz.prog W = .ok (.string sD) W := fun W => by
      rw [run_string_add_sum W _ _ (by rw [← hsA, ← hsB]; show (putAll [wPath, e.path]).toArray.size + (packP e.tree).toArray.size ≤ _; simp only [List.size_toArray]; omega), hsD]
     have hde : sD = ⟨(putAll [wPath, e.path] ++ packP e.tree).toArray⟩ := by rw [← hsD, ← hsA, ← hsB, str_app]
     have hadd2 : ∀ W : World, (Op.stringOp .add sD sC).run Tryz.prog W = .ok (.string sE) W := fun W => by
      rw [run_string_add_sum W _ _ (by rw [hde, ← hsC]; show (putAll [wPath, e.path] ++ packP e.tree).toArray.size + (putAll [wRefs]).toArray.size ≤ _; simp only [List.size_toArray, List.length_append]; omega), hsE]
     have hee : sE = ⟨(putAll [wPath, e.path] ++ packP e.tree ++ putAll [wRefs]).toArray⟩ := by rw [← hsE, hde, ← hsC, str_app]
     obtain ⟨RX, hRX⟩ : ∃ RX, (putAll [wPath, e.path] ++ packP e.tree ++ putAll [wRefs]) ++ (refsAt e 0 ++ expAt L l (k + 1)) = RX := ⟨_, rfl⟩
     rw [hRX] at HBX
     have HPUT : ∀ (wx : World) (sz : Nat), BuS w1 bb T RX wx → Blk wx sz #[.string ⟨#[112, 97, 116, 104]⟩, .string ⟨e.path.toArray⟩] 9 →
      Calls Tryz.prog 41 #[.slice (some ⟨sz, 0, none⟩) 2 2] wx fun ed w' => ed = .returned (.string sA) ∧ BuS w1 bb T RX w' ∧ Keeps Non wx w' := fun wx sz hb hk => by
      rw [← hsA]
      refine (put_any _ [wPath, e.path] wx (argBlk 2 _ hk rfl rfl (by simp)) (by simp) (by simp [roomOf]; omega)).mono ?_
      rintro ed w' ⟨rfl, hk⟩
      exact ⟨rfl, hb.keeps hk, hk⟩
     have HPR : Hid (∀ (wx : World) (sz : Nat), BuS w1 bb T RX wx → Blk wx sz #[.string ⟨#[114, 101, 102, 115]⟩] 9 →
      Calls Tryz.prog 41 #[.slice (some ⟨sz, 0, none⟩) 1 1] wx fun ed w' => ed = .returned (.string sC) ∧ BuS w1 bb T RX w') := fun wx sz hb hk => by
      rw [← hsC]
      refine (put_any _ [wRefs] wx (argBlk 1 _ hk rfl rfl (by simp)) (by simp) (by simp [roomOf])).mono ?_
      rintro ed w' ⟨rfl, hk⟩
      exact ⟨rfl, hb.keeps hk⟩
     obtain ⟨sz, hsz⟩ : ∃ sz, wr.heap.size = sz := ⟨_, rfl⟩
     have HSZ := Lib.hid hsz
     have HP1 : Hid (Calls Tryz.prog 41 #[.slice (some ⟨wr.heap.size, 0, none⟩) 2 2] (wr.alloc (.cells #[.string ⟨#[112, 97, 116, 104]⟩, .string ⟨e.path.toArray⟩] 9)).drew fun ed w' => ed = .returned (.string sA) ∧ BuS w1 bb T RX w') :=
      (HPUT _ _ (HBX.out.alloc _).drew (Blk.new _ _ _)).mono fun ed w' h => ⟨h.1, h.2.1⟩
     have HP2 : Hid (Calls Tryz.prog 41 #[.slice (some ⟨wr.heap.size, 0, none⟩) 2 2] ((wr.alloc (.cells #[.string ⟨#[112, 97, 116, 104]⟩, .string ⟨e.path.toArray⟩] 9)).alloc (.cells #[.string ⟨#[114, 101, 102, 115]⟩] 9)).drew fun ed w' => ed = .returned (.string sA) ∧ BuS w1 bb T RX w' ∧ Blk w' (wr.heap.size + 1) #[.string ⟨#[114, 101, 102, 115]⟩] 9) :=
      (HPUT _ _ ((HBX.out.alloc _).alloc _).drew ((Blk.new _ _ _).alloc _)).mono fun ed w' h => ⟨h.1, h.2.1, by
        have h1 := (Blk.new (wr.alloc (.cells #[.string ⟨#[112, 97, 116, 104]⟩, .string ⟨e.path.toArray⟩] 9)) #[.string ⟨#[114, 101, 102, 115]⟩] 9).keeps ((Keeps.refl Non _).drew.tn h.2.2) (fun h => h)
        simpa using h1⟩
     have HP3 : Hid (Calls Tryz.prog 41 #[.slice (some ⟨wr.heap.size + 1, 0, none⟩) 2 2] ((wr.alloc (.cells #[.string ⟨#[114, 101, 102, 115]⟩] 9)).alloc (.cells #[.string ⟨#[112, 97, 116, 104]⟩, .string ⟨e.path.toArray⟩] 9)).drew fun ed w' => ed = .returned (.string sA) ∧ BuS w1 bb T RX w' ∧ Blk w' wr.heap.size #[.string ⟨#[114, 101, 102, 115]⟩] 9) :=
      (HPUT _ _ ((HBX.out.alloc _).alloc _).drew (show Blk ((wr.alloc (.cells #[.string ⟨#[114, 101, 102, 115]⟩] 9)).alloc (.cells #[.string ⟨#[112, 97, 116, 104]⟩, .string ⟨e.path.toArray⟩] 9)) (wr.heap.size + 1) #[.string ⟨#[112, 97, 116, 104]⟩, .string ⟨e.path.toArray⟩] 9 by
        have h1 := Blk.new (wr.alloc (.cells #[.string ⟨#[114, 101, 102, 115]⟩] 9)) #[.string ⟨#[112, 97, 116, 104]⟩, .string ⟨e.path.toArray⟩] 9
        simpa using h1)).mono fun ed w' h => ⟨h.1, h.2.1, ((Blk.new wr #[.string ⟨#[114, 101, 102, 115]⟩] 9).alloc _).keeps ((Keeps.refl Non _).drew.tn h.2.2) (fun h => h)⟩
     clear HPUT hsz
     obtain ⟨nn, hnn⟩ : ∃ nn : Int, (((putAll [wPath, e.path] ++ packP e.tree ++ putAll [wRefs]).length : Nat) : Int) = nn := ⟨_, rfl⟩
     have HWR : Hid (∀ wx, BuS w1 bb T RX wx → Calls Tryz.prog 40 #[.pointer (some ⟨bb, 0, none⟩), .string sE] wx fun ed w' => ed = .returned (.tuple #[.int .i64 nn, .nilIface]) ∧ BuS w1 bb T (refsAt e 0 ++ expAt L l (k + 1)) w') := fun wx hb => by
      rw [hee, ← hnn]
      exact bs_write _ (by rw [hRX]; exact hb)
     clear hnn
     have HQC : Hid (∀ wx, BuS w1 bb T RX wx → wx.cell? ⟨q, 0, none⟩ = some (.string sB)) := fun wx hb => by
      rw [← hsB]
      exact (HEB.out.keeps hb.non fun h => h).cell 0
     have HQE : Hid (∀ wx, BuS w1 bb T (refsAt e 0 ++ expAt L l (k + 1)) wx → wx.cell? ⟨q, 0, none⟩ = some (.string sB)) := fun wx hb => by
      rw [← hsB]
      exact (HEB.out.keeps hb.non fun h => h).cell 0
     have q0 := HQC.out wr HBX.out
     have HB := HBX.out
     clear HBX hsA hsB hsC hsD hsE hde hee hRX hla hlc
     go_region_held3 (fun w' => w'.cell? ⟨q, 0, none⟩ = some (.string sB)) (with_reducible first | exact q0 | exact HQC.out _ HB | exact HQC.out _ HB.drew | exact HQC.out _ (HB.alloc _).drew | exact HQC.out _ (HB.alloc _) | exact HQC.out _ ((HB.alloc _).alloc _).drew) (first
      | (go_at_call 41
         with_reducible refine HP1.out.mono ?_
         clear HP1 HP2 HP3
         rintro ed w' ⟨rfl, hq⟩
         clear HB
         have HB := hq
         clear hq
         have q0 := HQC.out _ HB)
      | (go_at_call 41
         with_reducible refine HP2.out.mono ?_
         clear HP1 HP2 HP3
         rintro ed w' ⟨rfl, hq, hbR⟩
         clear HB
         have HB := hq
         clear hq
         have q0 := HQC.out _ HB)
      | (go_at_call 41
         with_reducible refine HP3.out.mono ?_
         clear HP1 HP2 HP3
         rintro ed w' ⟨rfl, hq, hbR⟩
         clear HB
         have HB := hq
         clear hq
         have q0 := HQC.out _ HB)
      | (go_at_call 41
         with_reducible refine (HPR.out _ _ HB hbR).mono ?_
         clear HPR
         rintro ed w' ⟨rfl, hq⟩
         clear HB
         have HB := hq
         clear hq
         have q0 := HQC.out _ HB)
      | (go_at_call 41
         refine (HPR.out _ _ (HB.alloc _) (Blk.new _ _ _)).mono ?_
         clear HPR
         rintro ed w' ⟨rfl, hq⟩
         clear HB
         have HB := hq
         clear hq
         have q0 := HQC.out _ HB)
      | (go_at_call 40
         refine (HWR.out _ HB).mono ?_
         rintro ed w' ⟨rfl, hq⟩
         have q0 := HQE.out _ hq))
     all_goals (go_wp2_with fail)
     all_goals go_meet
     all_goals exact hq
    case rest =>
     have HB1 : Hid (BuS w1 bb T (refsAt e 0 ++ expAt L l (k + 1)) wc) := hcut
     generalize wc = w5 at *
     have q2 : w5.cell? ⟨q, 2, none⟩ = some (.slice va e.refs.length vc) := (HEB.out.keeps HB1.out.non fun h => h).cell 2
     clear HBX
     go_wp2_with fail
     go_loopg [55] e.refs.length (fun gj jv wq => ∃ j : Nat, gj = e.refs.length - j ∧ j ≤ e.refs.length ∧ jv = .int .i64 j ∧ Hid (BuS w1 bb T (refsAt e j ++ expAt L l (k + 1)) wq))
     case atStart => exact ⟨0, rfl, Nat.zero_le _, rfl, HB1⟩
     case round =>
      clear HB1 q2
      obtain ⟨j, rfl, hj, rfl, HB⟩ := hrel
      by_cases hjl : j < e.refs.length
      ·obtain ⟨y, hy⟩ : ∃ y, e.refs[j]? = some y := ⟨_, List.getElem?_eq_getElem hjl⟩
       have hy12 := HR12.out y (List.mem_of_getElem? hy)
       obtain ⟨b2, o2, cc2, hsh, -, -, -, hltb2, hcc, -⟩ := (HRF.out.non HB.out.non).pos (by omega)
       cases hsh
       have c1 : wr.cell? ⟨b2, o2 + j, none⟩ = some (.string ⟨y.toArray⟩) := (hcc j (by omega)).trans (by rw [svs_get _ _ hjl]; have := (List.getElem?_eq_some_iff.1 hy).2; rw [this]; rfl)
       have HBY : Hid (BuS w1 bb T (putAll [wRef, y] ++ (refsAt e (j + 1) ++ expAt L l (k + 1))) wr) := by
        have h1 := HB.out
        rw [refsAt_step hy, List.append_assoc] at h1
        exact h1
       clear hcc hy HB
       go_wp2_with fail
       refine (bs_put HBY.out [wRef, y] 2 _ _ rfl ?c2 rfl (by omega) (by omega) (by simp [roomOf]; omega)).mono ?_
       case c2 => rfl
       rintro e2 w6 ⟨rfl, hq⟩
       have HB1 := Lib.hid hq
       clear hq HBY c1
       go_wp2_with fail
       refine (bs_write _ HB1.out).mono ?_
       rintro e2 w7 ⟨rfl, hq⟩
       have HB2 := Lib.hid hq
       clear hq HB1
       go_wp2_with fail
       go_roundg (e.refs.length - (j + 1))
       case measure => omega
       case rel => exact ⟨j + 1, rfl, by omega, by go_num, HB2⟩
      ·have hj2 : e.refs.length = j := by omega
       subst hj2
       have HBY : Hid (BuS w1 bb T (putAll [wSum, (sumOf (packP e.tree)).data.toList] ++ expAt L l (k + 1)) wr) := by
        have h1 := HB.out
        rw [refsAt_end] at h1
        exact h1
       have q0 : wr.cell? ⟨q, 0, none⟩ = some (.string ⟨(packP e.tree).toArray⟩) := (HEB.out.keeps HB.out.non fun h => h).cell 0
       clear HB
       go_wp2_with fail
       refine (sum_any _ _ (by show (packP e.tree).toArray.size ≤ _; simp [maxLen]; omega)).mono ?_
       rintro e2 w6 ⟨rfl, hk6⟩
       have HB1 := Lib.hid (HBY.out.keeps hk6)
       have hsl := sumOf_len (packP e.tree)
       clear hk6 HBY q0
       go_wp2_with fail
       refine (bs_put HB1.out [wSum, (sumOf (packP e.tree)).data.toList] 2 _ _ rfl ?c3 rfl (by omega) (by omega) (by simp only [roomOf, List.map_cons, List.sum_cons, List.map_nil, List.sum_nil]; rw [hsl]; decide)).mono ?_
       case c3 => rfl
       rintro e2 w7 ⟨rfl, hq⟩
       have HB2 := Lib.hid hq
       clear hq HB1
       go_wp2_with fail
       refine (bs_write _ HB2.out).mono ?_
       rintro e2 w8 ⟨rfl, hq⟩
       have HB3 := Lib.hid hq
       clear hq HB2
       go_wp2_with fail
       go_roundg (l.length - (k + 1))
       case measure => omega
       case rel => exact ⟨k + 1, rfl, by omega, by go_num, HB3⟩
   ·have hk2 : l.length = k := by omega
    subst hk2
    have HBY : Hid (BuS w1 bb T (putAll [wEnd] ++ []) wr) := by
     have h1 := HB.out
     rw [expAt_end] at h1
     have h2 : putAll [wEnd] ++ [] = putL wEnd := by simp [putAll]
     rw [h2]
     exact h1
    have hTne : T ≠ [] := by
     rw [← HTQ.out]
     intro h0
     have h1 := congrArg List.length h0
     have h2 := putL_length wExport
     simp only [expL, List.length_append, List.length_nil] at h1
     omega
    have HNE := Lib.hid hTne
    clear HB hTne
    go_wp2_with fail
    refine (bs_put HBY.out [wEnd] 1 _ _ rfl ?c4 rfl (by omega) (by omega) (by simp [roomOf])).mono ?_
    case c4 => rfl
    rintro e2 w7 ⟨rfl, hq⟩
    have HB2 := Lib.hid hq
    clear hq HBY
    go_wp2_with fail
    refine (bs_write _ HB2.out).mono ?_
    rintro e2 w8 ⟨rfl, hq⟩
    have HB3 := Lib.hid hq
    clear hq HB2
    go_wp2_with fail
    refine (bs_string HB3.out HNE.out).mono ?_
    rintro e2 w9 ⟨rfl, hk9⟩
    have HP : Hid (ExpPost w L roots (.returned (.tuple #[.string ⟨T.toArray⟩, .int .i64 0])) w9) := ⟨0, T, .inr ⟨HALL.out, K, HK.out, rfl, by rw [HLQ.out]; exact HTQ.out.symm⟩, rfl, HK1.out.tn hk9⟩
    clear hk9 HB3
    go_wp2_with fail
    refine bodyPost_ret (v := .tuple #[.string ⟨T.toArray⟩, .int .i64 0]) (by simp [results, Tryz.results19, go_sem]) rfl ?_
    exact HP.out
end Go.Proofs.YtdkogijdfgfpeaaGreatDoor
