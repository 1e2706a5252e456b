/- (*tree.Parser).file. -/
import Derived.Test.YtdkogijdfgfpeaaGreatDoorMPDir
import Derived.Test.YtdkogijdfgfpeaaGreatDoorMPWord
import Derived.Test.YtdkogijdfgfpeaaGreatDoorMGet
import Derived.Deep.RegionHeld3
import Derived.Test.YtdkogijdfgfpeaaGreatDoorMPInv
set_option linter.unusedVariables false
namespace Go.Proofs.YtdkogijdfgfpeaaGreatDoor
open Go Go.RowKit
theorem sl_keeps {w w' : World} {B : Nat} {E : TypeId} {size : Nat} {v : Value} {n : Nat} {xs : List Value} (h : Sl w B E size v n xs) (k : Hid (Keeps Non w w')) : Sl w' B E size v n xs := h.kp (Kp.of_keeps (B := 0) (Ts := []) k.out) (.inl (by simp))
theorem sl_drew {w : World} {B : Nat} {E : TypeId} {size : Nat} {v : Value} {n : Nat} {xs : List Value} (h : Sl w B E size v n xs) : Sl w.drew B E size v n xs := h
theorem pa_alloc {B b : Nat} {tail : PT} {ts : List (Job × Value)} {σ : PSt} {w : World} (h : PA B b tail ts σ w) (o : Obj) : PA B b tail ts σ (w.alloc o) := h.keeps ((Keeps.refl _ _).alloc o)
set_option maxHeartbeats 4000000 in
set_option maxRecDepth 100000 in
theorem file_any {B b : Nat} {tail : PT} {ts : List (Job × Value)} {σ : PSt} {w : World} (h : PA B b tail ts σ w) (s : ByteArray) (p : Int) (ht : ts.length ≤ 1099511627000) :
 Calls Tryz.prog 167 #[.pointer (some ⟨b, 0, none⟩), .string s, .int .i64 p] w (Did B b tail ts (doAct .file s.data.toList p σ) w) := by
 have hk1 : Keeps Non w (w.alloc (.cells #[.pointer (some ⟨b, 0, none⟩)] 151)) := (Keeps.refl _ _).alloc _
 have hb1 := Blk.new w #[.pointer (some ⟨b, 0, none⟩)] 151
 have h1 := h.keeps hk1
 clear h
 by_cases hx : s.data.toList = wExec
 ·have hb : (s.toList == [101, 120, 101, 99]) = true := by rw [ByteArray.toList_eq, hx]; rfl
  have HS : Hid (doAct .file s.data.toList p σ = ([.word [[]] .none, .word [wData] .none, .keep 2, .word [wShut] .none], σ)) := by show _ = _; simp only [doAct, hx, if_true]
  clear hx
  go_enter Tryz.func167, Tryz.ntmps167
  go_upto_region 3 with (fail)
  generalize w.heap.size = z at hb1 ⊢
  generalize w.alloc _ = w0 at *
  have HP1 : Hid (PA B b tail ts σ w0) := h1
  have KB1 : Hid (Kp B jobTs w w0) := Kp.of_keeps hk1
  clear h1 hk1
  go_region_held3 (fun w => w.cell? ⟨z, 0, none⟩ = some (.pointer (some ⟨b, 0, none⟩))) (exact Blk.cell (show Blk _ z #[.pointer (some ⟨b, 0, none⟩)] 151 by repeat (first | assumption | refine Blk.alloc ?_ _)) 0) (first
   | (go_at_call 172
      refine (keepw_any b 2 z _ (show Blk _ z _ _ by ((repeat (first | exact hb3 | refine Blk.alloc ?_ _)); (first | done | fail "left")))).mono ?_
      rintro e w4 ⟨f3, rfl, hj, hk⟩
      have HKE4 := Lib.hid hk
      have KB4 : Hid (Kp B jobTs w w4) := (show Kp B jobTs w _ by ((repeat (first | exact KB3.out | refine Kp.alloc ?_ _)); (first | done | fail "left"))).trans (Kp.of_keeps hk)
      have hb4 : Blk w4 z #[.pointer (some ⟨b, 0, none⟩)] 151 := (show Blk _ z _ _ by ((repeat (first | exact hb3 | refine Blk.alloc ?_ _)); (first | done | fail "left"))).keeps hk (fun h => h)
      have HP4 : Hid (PA B b tail ts σ w4) := (show PA B b tail ts σ _ by ((repeat (first | exact HP3.out | refine pa_alloc ?_ _)); (first | done | fail "left"))).keeps hk
      have JX4 : Hid (JobAt w4 b (.word [[]] .none) f1) := (show JobAt _ b _ _ by ((repeat (first | exact JX3.out | refine JobAt.alloc ?_ _)); (first | done | fail "left"))).keeps hk
      have JY4 : Hid (JobAt w4 b (.word [wData] .none) f2) := (show JobAt _ b _ _ by ((repeat (first | exact JY3.out | refine JobAt.alloc ?_ _)); (first | done | fail "left"))).keeps hk
      have JK4 := Lib.hid hj
      clear hj hk)
   | (have g0 := JK4
      go_at_call 46
      refine (word_any b [wShut] .none _ _ (show Sl _ 0 9 1 _ 1 (svs [wShut]) by ((repeat (first | exact putArg _ 1 _ [wShut] _ (by simp) rfl rfl (by simp) | refine Sl.alloc ?_ _ | refine sl_keeps ?_ (by assumption))); (first | done | fail "left")))).mono ?_
      rintro e w5 ⟨f4, rfl, hj, hk⟩
      have HKE5 := Lib.hid hk
      have KB5 : Hid (Kp B jobTs w w5) := (show Kp B jobTs w _ by ((repeat (first | exact KB4.out | refine Kp.alloc ?_ _)); (first | done | fail "left"))).trans (Kp.of_keeps hk)
      have hb5 : Blk w5 z #[.pointer (some ⟨b, 0, none⟩)] 151 := (show Blk _ z _ _ by ((repeat (first | exact hb4 | refine Blk.alloc ?_ _)); (first | done | fail "left"))).keeps hk (fun h => h)
      have HP5 : Hid (PA B b tail ts σ w5) := (show PA B b tail ts σ _ by ((repeat (first | exact HP4.out | refine pa_alloc ?_ _)); (first | done | fail "left"))).keeps hk
      have JX5 : Hid (JobAt w5 b (.word [[]] .none) f1) := (show JobAt _ b _ _ by ((repeat (first | exact JX4.out | refine JobAt.alloc ?_ _)); (first | done | fail "left"))).keeps hk
      have JY5 : Hid (JobAt w5 b (.word [wData] .none) f2) := (show JobAt _ b _ _ by ((repeat (first | exact JY4.out | refine JobAt.alloc ?_ _)); (first | done | fail "left"))).keeps hk
      have JK5 : Hid (JobAt w5 b (.keep 2) f3) := (show JobAt _ b _ _ by ((repeat (first | exact JK4.out | refine JobAt.alloc ?_ _)); (first | done | fail "left"))).keeps hk
      have JZ5 := Lib.hid hj
      clear hj hk)
   | (have g0 := JX2
      go_at_call 46
      refine (word_any b [wData] .none _ _ (show Sl _ 0 9 1 _ 1 (svs [wData]) by ((repeat (first | exact putArg _ 1 _ [wData] _ (by simp) rfl rfl (by simp) | refine Sl.alloc ?_ _ | refine sl_keeps ?_ (by assumption))); (first | done | fail "left")))).mono ?_
      rintro e w3 ⟨f2, rfl, hj, hk⟩
      have HKE3 := Lib.hid hk
      have KB3 : Hid (Kp B jobTs w w3) := (show Kp B jobTs w _ by ((repeat (first | exact KB2.out | refine Kp.alloc ?_ _)); (first | done | fail "left"))).trans (Kp.of_keeps hk)
      have hb3 : Blk w3 z #[.pointer (some ⟨b, 0, none⟩)] 151 := (show Blk _ z _ _ by ((repeat (first | exact hb2 | refine Blk.alloc ?_ _)); (first | done | fail "left"))).keeps hk (fun h => h)
      have HP3 : Hid (PA B b tail ts σ w3) := (show PA B b tail ts σ _ by ((repeat (first | exact HP2.out | refine pa_alloc ?_ _)); (first | done | fail "left"))).keeps hk
      have JX3 : Hid (JobAt w3 b (.word [[]] .none) f1) := (show JobAt _ b _ _ by ((repeat (first | exact JX2.out | refine JobAt.alloc ?_ _)); (first | done | fail "left"))).keeps hk
      have JY3 := Lib.hid hj
      clear hj hk)
   | (go_at_call 46
      refine (word_any b [[]] .none _ _ (sl_drew (show Sl _ 0 9 1 _ 1 (svs [[]]) by ((repeat (first | exact putArg _ 1 _ [[]] _ (by simp) rfl rfl (by simp) | refine Sl.alloc ?_ _ | refine sl_keeps ?_ (by assumption))); (first | done | fail "left"))))).mono ?_
      rintro e w2 ⟨f1, rfl, hj, hk'⟩
      have hk := Keeps.of_drew hk'
      clear hk'
      have HKE2 := Lib.hid hk
      have KB2 : Hid (Kp B jobTs w w2) := (show Kp B jobTs w _ by ((repeat (first | exact KB1.out | refine Kp.alloc ?_ _)); (first | done | fail "left"))).trans (Kp.of_keeps hk)
      have hb2 : Blk w2 z #[.pointer (some ⟨b, 0, none⟩)] 151 := (show Blk _ z _ _ by ((repeat (first | exact hb1 | refine Blk.alloc ?_ _)); (first | done | fail "left"))).keeps hk (fun h => h)
      have HP2 : Hid (PA B b tail ts σ w2) := (show PA B b tail ts σ _ by ((repeat (first | exact HP1.out | refine pa_alloc ?_ _)); (first | done | fail "left"))).keeps hk
      have JX2 := Lib.hid hj
      clear hj hk)
   | (go_at_call 45
      refine (plan_new HP5.out [(.word [[]] .none, f1), (.word [wData] .none, f2), (.keep 2, f3), (.word [wShut] .none, f4)] 4 _ _ rfl rfl rfl (by omega) (by intro t ht; simp only [List.mem_cons, List.not_mem_nil, or_false] at ht; rcases ht with rfl | rfl | rfl | rfl; exact JX5.out; exact JY5.out; exact JK5.out; exact JZ5.out) ht).mono ?_
      rintro e w6 ⟨rfl, h6, k6⟩
      have H6 := Lib.hid h6
      have K6 := Lib.hid k6
      have hb6 := hb5.kp k6 (.inr (by decide))
      clear h6 k6))
  all_goals (
   go_wp2_with fail
   go_end0
   rw [HS.out]
   exact Did.planned rfl rfl H6.out KB5.out K6.out)
 ·have hb : (s.toList == [101, 120, 101, 99]) = false := by rw [ByteArray.toList_eq, beq_eq_false_iff_ne]; exact hx
  have HS : Hid (doAct .file s.data.toList p σ = ([.keep 1, .word [wShut] .none], σ)) := by show _ = _; simp only [doAct, if_neg hx]
  clear hx
  go_enter Tryz.func167, Tryz.ntmps167
  go_upto_region 4 with (fail)
  generalize w.heap.size = z at hb1 ⊢
  generalize w.alloc _ = w1 at *
  have H1 := Lib.hid h1
  have K1 := Lib.hid hk1
  clear h1 hk1
  have HKP : Hid (∀ wx, Blk wx z #[.pointer (some ⟨b, 0, none⟩)] 151 → Calls Tryz.prog 172 #[.int .i64 1, .pointer (some ⟨z, 0, none⟩)] wx (KeepPost wx b 1)) := fun wx hbx => keepw_any b 1 z wx hbx
  have HWD : Hid (∀ (v : Value) (wx : World), Sl wx 0 9 1 v [wShut].length (svs [wShut]) → Calls Tryz.prog 46 #[.pointer (some ⟨b, 0, none⟩), .nilFunc, v] wx (WordPost wx b [wShut] .none)) := fun v wx hv => word_any b [wShut] .none v wx hv
  go_region_held3 (fun w => w.cell? ⟨z, 0, none⟩ = some (.pointer (some ⟨b, 0, none⟩))) (first | exact Blk.cell (by assumption) 0 | exact Blk.cell (Blk.drew (by assumption)) 0 | exact Blk.cell (Blk.alloc (by assumption) _) 0 | exact Blk.cell (Blk.alloc (Blk.drew (by assumption)) _) 0) (first
   | (go_at_call 172
      refine (HKP.out _ (by first | exact hb1 | exact Blk.alloc (w := w1.drew) hb1 _)).mono ?_
      rintro e w2 ⟨f1, rfl, hj1, hk2⟩
      have J1 := Lib.hid hj1
      have HKE := Lib.hid hk2
      have K2 : Hid (Keeps Non w w2) := (by first | exact (K1.out.drew).trans hk2 (fun k hk => .inl hk) | exact (K1.out.drew.alloc _).trans hk2 (fun k hk => .inl hk))
      have hb2 : Blk w2 z #[.pointer (some ⟨b, 0, none⟩)] 151 := (by first | exact Blk.keeps (w := w1.drew) hb1 hk2 (fun h => h) | exact Blk.keeps (Blk.alloc (w := w1.drew) hb1 _) hk2 (fun h => h))
      have H2 : Hid (PA B b tail ts σ w2) := (by first | exact H1.out.keeps (((Keeps.refl _ _).drew).trans hk2 (fun k hk => .inl hk)) | exact H1.out.keeps (((Keeps.refl _ _).drew.alloc _).trans hk2 (fun k hk => .inl hk)))
      clear hj1 hk2)
   | (go_at_call 46
      refine (HWD.out _ _ (by first | exact putArg _ 1 _ [wShut] _ rfl rfl rfl (by simp) | exact (putArg w1.drew 1 _ [wShut] _ rfl rfl rfl (by simp)).kp (Kp.of_keeps (B := 0) (Ts := []) HKE.out) (.inl (by simp)))).mono ?_
      rintro e w3 ⟨f2, rfl, hj2, hk3⟩
      have hk23 : Keeps Non w2 w3 := (by first | exact hk3 | exact ((Keeps.refl _ _).alloc _).trans hk3 (fun k hk => .inl hk))
      have J13 := Lib.hid (J1.out.keeps hk23)
      have J2 := Lib.hid hj2
      have K3 := Lib.hid (K2.out.trans hk23 (fun k hk => .inl hk))
      have H3 := Lib.hid (H2.out.keeps hk23)
      have hb3 := hb2.keeps hk23 (fun h => h)
      clear hj2 hk3 hk23)
   | (go_at_call 45
      refine (plan_new H3.out [(.keep 1, f1), (.word [wShut] .none, f2)] 2 _ _ rfl rfl rfl (by omega) (by intro t ht; simp only [List.mem_cons, List.not_mem_nil, or_false] at ht; rcases ht with rfl | rfl; exact J13.out; exact J2.out) ht).mono ?_
      rintro e w4 ⟨rfl, h4, k4⟩
      have H4 := Lib.hid h4
      have K4 := Lib.hid k4
      have hb4 := hb3.kp k4 (.inr (by decide))
      clear h4 k4))
  all_goals (
   go_wp2_with fail
   go_end0
   rw [HS.out]
   exact Did.planned rfl rfl H4.out (Kp.of_keeps K3.out) K4.out)
set_option maxHeartbeats 1600000 in
set_option maxRecDepth 100000 in
theorem cnext_any {B b : Nat} {tail : PT} {ts : List (Job × Value)} {σ : PSt} {w : World} (h : PA B b tail ts σ w) (s : ByteArray) (p : Int) (ht : ts.length ≤ 1099511627000) :
 Calls Tryz.prog 47 #[.pointer (some ⟨b, 0, none⟩), .string s, .int .i64 p] w (Did B b tail ts (doAct .next' s.data.toList p σ) w) := by
 have H0 := Lib.hid h
 clear h
 by_cases h1 : s.data.toList = wPath
 ·have hb : (s.toList == [112, 97, 116, 104]) = true := by rw [ByteArray.toList_eq, h1]; rfl
  have HS : Hid (doAct .next' s.data.toList p σ = ([.cpath], σ)) := by show _ = _; simp only [doAct, h1, if_true]
  clear h1
  go_enter Tryz.func47, Tryz.ntmps47
  go_upto_region 1 with (fail)
  go_region_held3 (fun _ => True) (trivial) (first
   | (go_at_call 79
      refine (text_any b 12 (.func (.func 80) #[.pointer (some ⟨b, 0, none⟩)] #[]) rfl ⟨_, _, _, rfl⟩ _).mono ?_
      rintro e w1 ⟨rfl, hk1⟩
      replace hk1 : Keeps Non w w1 := (by first | exact hk1 | exact hk1.of_drew)
      have H1 := Lib.hid (H0.out.keeps hk1)
      have K1 := Lib.hid hk1)
   | (go_at_call 45
      refine (plan_new H1.out [(.cpath, .func (.func 80) #[.pointer (some ⟨b, 0, none⟩)] #[])] 1 _ _ rfl rfl rfl (by omega) (by intro t ht; obtain rfl := List.mem_singleton.1 ht; rfl) ht).mono ?_
      rintro e w2 ⟨rfl, h2, k2⟩
      have H2 := Lib.hid h2
      have K2 := Lib.hid k2))
  all_goals (
   clear h2 k2 hk1
   go_wp2_with fail
   go_end0
   rw [HS.out]
   exact Did.planned rfl rfl H2.out (Kp.of_keeps K1.out) K2.out)
 ·have hb : (s.toList == [112, 97, 116, 104]) = false := by rw [ByteArray.toList_eq, beq_eq_false_iff_ne]; exact h1
  have HS : Hid (doAct .next' s.data.toList p σ = ([], σ)) := by show _ = _; simp only [doAct, if_neg h1]
  clear h1
  go_enter Tryz.func47, Tryz.ntmps47
  go_wp2_with fail
  go_end0
  rw [HS.out]
  exact Did.plain (Ts := []) rfl rfl H0.out (Kp.refl _ _ _) (by simp)
theorem farnew_more {w w2 w3 : World} {B bm2 bp2 bt2 sz : Nat} {Ts : List TypeId} {f1 f2 : Value} (J J' : Job) (hJ : J' ≠ moreJob ∧ J' ≠ nextJob) (hf : f2 = .func (.func 77) #[] #[.pointer (some ⟨bm2, 0, none⟩), .pointer (some ⟨bp2, 0, none⟩), .pointer (some ⟨bt2, 0, none⟩)])
 (hb : Blk w2 bm2 #[.slice (some ⟨sz, 0, none⟩) 2 2] 26) (k : Kp B Ts w2 w3) (hT : 26 ∉ Ts) (hs : w.heap.size ≤ sz) : FarNew w w3 [(J, f2), (J', f1)] := by
 intro v B' n ys hsl t ht he bm bp bt vm hfv hbv
 simp only [List.mem_cons, List.not_mem_nil, or_false] at ht
 rcases ht with rfl | rfl
 ·simp only at hfv
  rw [hf] at hfv
  have e1 : bm2 = bm := by simp at hfv; exact hfv.1
  subst e1
  have h2 := (hb.kp k (.inr hT)).inj hbv
  have e2 : vm = .slice (some ⟨sz, 0, none⟩) 2 2 := by simpa using h2.1.symm
  subst e2
  unfold Ahead
  split
  ·rename_i a n1 c1 a' n' c' h1
   cases h1
   intro e
   have := hsl.own_lt (k := a.block) rfl
   simp only at e
   omega
  ·trivial
 ·exact absurd he (fun e => e.elim hJ.1 hJ.2)
set_option maxHeartbeats 1600000 in
set_option maxRecDepth 100000 in
theorem cmore_any {B b : Nat} {tail : PT} {ts : List (Job × Value)} {σ : PSt} {w : World} (h : PA B b tail ts σ w) (s : ByteArray) (p : Int) (ht : ts.length ≤ 1099511627000) :
 Calls Tryz.prog 114 #[.pointer (some ⟨b, 0, none⟩), .string s, .int .i64 p] w (Did B b tail ts (doAct .more s.data.toList p σ) w) := by
 have H0 := Lib.hid h
 clear h
 by_cases h1 : s.data.toList = wRef
 ·have hb : (s.toList == [114, 101, 102]) = true := by rw [ByteArray.toList_eq, h1]; rfl
  have HS : Hid (doAct .more s.data.toList p σ = ([.cref, moreJob], σ)) := by show _ = _; simp only [doAct, h1, if_true]
  clear h1
  go_enter Tryz.func114, Tryz.ntmps114
  go_upto_region 1 with (fail)
  go_region_held3 (fun _ => True) (trivial) (first
   | (go_at_call 79
      refine (text_any b 12 (.func (.func 129) #[.pointer (some ⟨b, 0, none⟩)] #[]) rfl ⟨_, _, _, rfl⟩ _).mono ?_
      rintro e w1 ⟨rfl, hk1⟩
      have hk1a : Keeps Non w w1 := (by first | exact hk1 | exact hk1.of_drew | exact ((Keeps.refl Non w).alloc _).tn hk1 | exact ((Keeps.refl Non w).alloc _).tn hk1.of_drew | exact Keeps.of_drew (((Keeps.refl Non w.drew).alloc _).tn hk1))
      have K1 := Lib.hid hk1a
      clear hk1a)
   | (go_at_call 46
      refine (word_any2 b [wRef, wSum] .more _ _ (by first | exact putArg w1 2 _ [wRef, wSum] _ rfl rfl rfl (by simp) | exact (putArg w 2 _ [wRef, wSum] _ rfl rfl rfl (by simp)).kp (Kp.of_keeps (B := 0) (Ts := []) hk1) (.inl (by simp)) | exact (putArg w 2 _ [wRef, wSum] _ rfl rfl rfl (by simp)).kp (Kp.of_keeps (B := 0) (Ts := []) hk1.of_drew) (.inl (by simp)) | exact putArg w1.drew 2 _ [wRef, wSum] _ rfl rfl rfl (by simp) | exact (putArg w1 2 _ [wRef, wSum] _ rfl rfl rfl (by simp)).drewN 1)).mono ?_
      rintro e w2 ⟨f2, rfl, hj2, hk2, bm2, bp2, bt2, hf2, hbm2⟩
      have HF2 := Lib.hid hf2
      have HBM2 := Lib.hid hbm2
      clear hf2 hbm2
      have hk02 : Keeps Non w w2 := K1.out.tn (by first | exact hk2 | exact hk2.of_drew | exact ((Keeps.refl _ _).alloc _).tn hk2 | exact ((Keeps.refl _ _).alloc _).tn hk2.of_drew | exact Keeps.of_drew (((Keeps.refl _ _).alloc _).tn hk2))
      have J2 := Lib.hid hj2
      have K2 := Lib.hid hk02
      have H2 := Lib.hid (H0.out.keeps hk02))
   | (go_at_call 45
      refine (plan_new H2.out [(.cref, .func (.func 129) #[.pointer (some ⟨b, 0, none⟩)] #[]), (moreJob, f2)] 2 _ _ rfl rfl rfl (by omega) (by intro t ht; simp only [List.mem_cons, List.not_mem_nil, or_false] at ht; rcases ht with rfl | rfl; rfl; exact J2.out) ht).mono ?_
      rintro e w3 ⟨rfl, h3, k3⟩
      have H3 := Lib.hid h3
      have K3 := Lib.hid k3))
  all_goals (
   clear h3 k3 hk1 hk2 hk02 hj2
   go_wp2_with fail
   go_end0
   rw [HS.out]
   exact Did.plannedF rfl rfl H3.out (Kp.of_keeps K2.out) K3.out (farnew_more _ _ (by decide) HF2.out HBM2.out K3.out (by decide) (by first | exact Nat.le_refl _ | exact K1.out.size)))
 ·have hb : (s.toList == [114, 101, 102]) = false := by rw [ByteArray.toList_eq, beq_eq_false_iff_ne]; exact h1
  have HS : Hid (doAct .more s.data.toList p σ = ([.csum, nextJob], σ)) := by show _ = _; simp only [doAct, if_neg h1]
  clear h1
  go_enter Tryz.func114, Tryz.ntmps114
  go_upto_region 2 with (fail)
  go_region_held3 (fun _ => True) (trivial) (first
   | (go_at_call 79
      refine (text_any b 8 (.func (.func 130) #[.pointer (some ⟨b, 0, none⟩)] #[]) rfl ⟨_, _, _, rfl⟩ _).mono ?_
      rintro e w1 ⟨rfl, hk1⟩
      have hk1a : Keeps Non w w1 := (by first | exact hk1 | exact hk1.of_drew | exact ((Keeps.refl Non w).alloc _).tn hk1 | exact ((Keeps.refl Non w).alloc _).tn hk1.of_drew | exact Keeps.of_drew (((Keeps.refl Non w.drew).alloc _).tn hk1))
      have K1 := Lib.hid hk1a
      clear hk1a)
   | (go_at_call 46
      refine (word_any2 b [wPath, wEnd] .next' _ _ (by first | exact putArg w1 2 _ [wPath, wEnd] _ rfl rfl rfl (by simp) | exact (putArg w 2 _ [wPath, wEnd] _ rfl rfl rfl (by simp)).kp (Kp.of_keeps (B := 0) (Ts := []) hk1) (.inl (by simp)) | exact (putArg w 2 _ [wPath, wEnd] _ rfl rfl rfl (by simp)).kp (Kp.of_keeps (B := 0) (Ts := []) hk1.of_drew) (.inl (by simp)) | exact putArg w1.drew 2 _ [wPath, wEnd] _ rfl rfl rfl (by simp) | exact (putArg w1 2 _ [wPath, wEnd] _ rfl rfl rfl (by simp)).drewN 1)).mono ?_
      rintro e w2 ⟨f2, rfl, hj2, hk2, bm2, bp2, bt2, hf2, hbm2⟩
      have HF2 := Lib.hid hf2
      have HBM2 := Lib.hid hbm2
      clear hf2 hbm2
      have hk02 : Keeps Non w w2 := K1.out.tn (by first | exact hk2 | exact hk2.of_drew | exact ((Keeps.refl _ _).alloc _).tn hk2 | exact ((Keeps.refl _ _).alloc _).tn hk2.of_drew | exact Keeps.of_drew (((Keeps.refl _ _).alloc _).tn hk2))
      have J2 := Lib.hid hj2
      have K2 := Lib.hid hk02
      have H2 := Lib.hid (H0.out.keeps hk02))
   | (go_at_call 45
      refine (plan_new H2.out [(.csum, .func (.func 130) #[.pointer (some ⟨b, 0, none⟩)] #[]), (nextJob, f2)] 2 _ _ rfl rfl rfl (by omega) (by intro t ht; simp only [List.mem_cons, List.not_mem_nil, or_false] at ht; rcases ht with rfl | rfl; rfl; exact J2.out) ht).mono ?_
      rintro e w3 ⟨rfl, h3, k3⟩
      have H3 := Lib.hid h3
      have K3 := Lib.hid k3))
  all_goals (
   clear h3 k3 hk1 hk2 hk02 hj2
   go_wp2_with fail
   go_end0
   rw [HS.out]
   exact Did.plannedF rfl rfl H3.out (Kp.of_keeps K2.out) K3.out (farnew_more _ _ (by decide) HF2.out HBM2.out K3.out (by decide) (by first | exact Nat.le_refl _ | exact K1.out.size)))
def jsOf (ts : List (Job × Value)) : List Job := (ts.map Prod.fst).reverse
theorem jsOf_snoc (ts : List (Job × Value)) (j : Job) (f : Value) : jsOf (ts ++ [(j, f)]) = j :: jsOf ts := by simp [jsOf]
theorem jsOf_append (ts us : List (Job × Value)) : jsOf (ts ++ us) = (us.map Prod.fst).reverse ++ jsOf ts := by simp [jsOf]
theorem jsOf_length (ts : List (Job × Value)) : (jsOf ts).length = ts.length := by simp [jsOf]
theorem FitJ.fit {ts : List (Job × Value)} {σ : PSt} (h : FitJ ts.length σ) : Fit ts σ := ⟨h.all, h.todo, h.nodes, h.above, h.path, h.dirs⟩
theorem next_some {σ σ' : PSt} {most : Nat} {s : List UInt8} (h : σ.next most = (.some s, σ')) : σ.err = 0 ∧ ∃ k, 8 ≤ k ∧ s.length + 8 ≤ k ∧ k ≤ σ.rest.length ∧ s.length ≤ most ∧ σ' = { σ with rest := σ.rest.drop k, at' := σ.at' + k } := by
 unfold PSt.next at h
 split at h
 ·cases h
 ·rename_i h0
  split at h
  ·cases h
  ·split at h
   ·cases h
   ·split at h
    ·cases h
    ·cases h
     exact ⟨Classical.byContradiction fun e => h0 (.inl e), _, by omega, by rw [List.length_take]; omega, by omega, by rw [List.length_take]; omega, rfl⟩
theorem next_none {σ σ' : PSt} {most : Nat} (h : σ.next most = (.none, σ')) : σ' = σ ∨ ∃ e, σ' = σ.fail e σ.at' := by
 unfold PSt.next at h
 split at h
 ·cases h; exact .inl rfl
 ·split at h
  ·cases h; exact .inr ⟨3, rfl⟩
  ·split at h
   ·cases h; exact .inl rfl
   ·split at h
    ·cases h; exact .inr ⟨4, rfl⟩
    ·cases h
theorem FitJ.fail {n : Nat} {σ : PSt} (h : FitJ n σ) (e p : Int) : FitJ n (σ.fail e p) := by
 obtain ⟨h1, h2, h3, h4, h5, h6⟩ := h
 obtain ⟨q1, q2, q3, q4, q5⟩ := fail_above σ e p
 exact ⟨by rw [q4]; omega, by rw [q4]; exact h2, by rw [q2, q4]; exact h3, by rw [q1, q4]; exact h4, by rw [q3, q4]; exact h5, fun o ho => by rw [q4]; exact h6 o (by rwa [q1] at ho)⟩
theorem did_fail {B b : Nat} {tail : PT} {ts : List (Job × Value)} {σ : PSt} {w w' : World} {ed : Ending} (may : List (List UInt8)) (act : Act1) (s : List UInt8) (p : Int) (hm : s ∉ may) (he : ed = .returned (.tuple #[])) (h : PA B b tail ts (σ.fail 5 p) w') (hk : Kp B [TB] w w') : Did B b tail ts (doJob (.word may act) s p σ) w ed w' := by
 have e : doJob (.word may act) s p σ = ([], σ.fail 5 p) := by simp only [doJob, if_neg hm]
 rw [e]
 exact Did.plain he rfl h hk (by simp)
theorem did_act {B b : Nat} {tail : PT} {ts : List (Job × Value)} {σ : PSt} {w w' : World} {ed : Ending} (may : List (List UInt8)) (act : Act1) (s : List UInt8) (p : Int) (hm : s ∈ may) (h : Did B b tail ts (doAct act s p σ) w ed w') : Did B b tail ts (doJob (.word may act) s p σ) w ed w' := by
 have e : doJob (.word may act) s p σ = doAct act s p σ := by simp only [doJob, if_pos hm]
 rw [e]
 exact h
theorem func_nil (w : World) : Sem.run Tryz.prog (binOp BinOp.neq 111 Value.nilFunc Value.nilFunc) w = .ok (.bool false) w := by kernel_rfl
theorem func_some (w : World) (fn : Fn) (x y : Array Value) : Sem.run Tryz.prog (binOp BinOp.neq 111 (Value.func fn x y) Value.nilFunc) w = .ok (.bool true) w := by kernel_rfl
set_option maxHeartbeats 1600000 in
set_option maxRecDepth 100000 in
theorem word1_any {B b : Nat} {tail : PT} {ts : List (Job × Value)} {σ : PSt} {w : World} (h : PA B b tail ts σ w) (may : List (List UInt8)) (act : Act1) (s : ByteArray) (p : Int) (bm bp bt : Nat) (vm : Value)
 (hbm : Blk w bm #[vm] 26) (hsm : Sl w 0 9 1 vm may.length (svs may)) (hbp : Blk w bp #[.pointer (some ⟨b, 0, none⟩)] 151) (hbt : Blk w bt #[actV b act] 111)
 (hl : σ.nodes.length ≤ 1099511627776) (ha : σ.above.length ≤ 1099511627776) (ht : ts.length ≤ 1099511627000) (hne : (Job.word may act).needs = true → 1 ≤ σ.above.length) :
 Calls Tryz.prog 77 #[.string s, .int .i64 p, .pointer (some ⟨bm, 0, none⟩), .pointer (some ⟨bp, 0, none⟩), .pointer (some ⟨bt, 0, none⟩)] w (Did B b tail ts (doJob (.word may act) s.data.toList p σ) w) := by
 have cm : w.cell? ⟨bm, 0, none⟩ = some vm := hbm.cell 0
 have cp : w.cell? ⟨bp, 0, none⟩ = some (.pointer (some ⟨b, 0, none⟩)) := hbp.cell 0
 have ct : w.cell? ⟨bt, 0, none⟩ = some (actV b act) := hbt.cell 0
 obtain ⟨a0, c0, rfl, -, -⟩ := hsm.shape
 have H0 := Lib.hid h
 have HS := Lib.hid hsm
 have HNE := Lib.hid hne
 clear h hbm hbp hbt hsm hne
 by_cases hm : s.data.toList ∈ may
 ·have HD : Hid (decide (s.data.toList ∈ may) = true) := decide_eq_true hm
  have HM := Lib.hid hm
  clear hm
  have hn0 := func_nil w
  have hn1 : ∀ F : Nat, Sem.run Tryz.prog (binOp BinOp.neq 111 (Value.func (.func F) #[.pointer (some ⟨b, 0, none⟩)] #[]) Value.nilFunc) w = .ok (.bool true) w := fun F => func_some w _ _ _
  cases act
  all_goals (
   unfold actV at ct
   go_enter Tryz.func77, Tryz.ntmps77
   go_wp2_with fail
   refine (contains_any may _ s _ HS.out).mono ?_
   rintro e w1 ⟨rfl, rfl⟩
   rw [HD.out]
   go_wp2_with fail)
  ·go_end0
   exact did_act _ _ _ _ HM.out (Did.plain (Ts := []) rfl rfl H0.out (Kp.refl _ _ _) (by simp))
  ·refine (open_any H0.out s p hl ha).mono ?_
   rintro e w1 ⟨rfl, h1, k1⟩
   have H1 := Lib.hid h1
   have K1 := Lib.hid k1
   clear h1 k1
   go_wp2_with fail
   go_end0
   exact did_act _ _ _ _ HM.out (Did.plain rfl (by simp only [doAct]) H1.out K1.out (by simp))
  ·refine (kind_any H0.out s p hl ha ht).mono ?_
   rintro e w1 hd
   obtain rfl := hd.1
   have HDD := Lib.hid hd
   clear hd
   go_wp2_with fail
   go_end0
   exact did_act _ _ _ _ HM.out HDD.out
  ·refine (file_any H0.out s p ht).mono ?_
   rintro e w1 hd
   obtain rfl := hd.1
   have HDD := Lib.hid hd
   clear hd
   go_wp2_with fail
   go_end0
   exact did_act _ _ _ _ HM.out HDD.out
  ·refine (dir_any H0.out s p ha (HNE.out rfl) ht).mono ?_
   rintro e w1 hd
   obtain rfl := hd.1
   have HDD := Lib.hid hd
   clear hd
   go_wp2_with fail
   go_end0
   exact did_act _ _ _ _ HM.out HDD.out
  ·refine (cnext_any H0.out s p ht).mono ?_
   rintro e w1 hd
   obtain rfl := hd.1
   have HDD := Lib.hid hd
   clear hd
   go_wp2_with fail
   go_end0
   exact did_act _ _ _ _ HM.out HDD.out
  ·refine (cmore_any H0.out s p ht).mono ?_
   rintro e w1 hd
   obtain rfl := hd.1
   have HDD := Lib.hid hd
   clear hd
   go_wp2_with fail
   go_end0
   exact did_act _ _ _ _ HM.out HDD.out
 ·have HD : Hid (decide (s.data.toList ∈ may) = false) := decide_eq_false hm
  have HM : Hid (s.data.toList ∉ may) := hm
  clear hm ct
  go_enter Tryz.func77, Tryz.ntmps77
  go_wp2_with fail
  refine (contains_any may _ s _ HS.out).mono ?_
  rintro e w1 ⟨rfl, rfl⟩
  rw [HD.out]
  go_wp2_with fail
  refine (fail_any H0.out 5 p).mono ?_
  rintro e w1 ⟨rfl, h1, k1⟩
  have H1 := Lib.hid h1
  have K1 := Lib.hid k1
  clear h1 k1
  go_wp2_with fail
  go_end0
  exact did_fail _ _ _ _ HM.out rfl H1.out K1.out
def clearP (σ : PSt) : PSt := { σ with nodes := [], above := [], path := [] }
set_option maxHeartbeats 1600000 in
set_option maxRecDepth 100000 in
theorem tree_any {B b : Nat} {tail : PT} {ts : List (Job × Value)} {σ : PSt} {w : World} (h : PA B b tail ts σ w) (ht : ts.length ≤ 1099511627000) :
 Calls Tryz.prog 115 #[.pointer (some ⟨b, 0, none⟩)] w fun ed w' => ed = .returned (.tuple #[]) ∧ (∃ us : List (Job × Value), (us.map Prod.fst).reverse = treeJobs ∧ PA B b tail (ts ++ us) (clearP σ) w') ∧ Kp B jobTs w w' := by
 obtain ⟨vr, vt, vl, va, h⟩ := h
 obtain ⟨g0, g1, g2, g3, g4, g5, g6, g7⟩ := pcells_get vr σ.at' σ.err σ.bad vt vl va σ.path tail.cells
 have c5 := (h.blk.cell 5).trans g5
 have c6 := (h.blk.cell 6).trans g6
 have c7 := (h.blk.cell 7).trans g7
 have f5 := h.blk.free 5
 have f6 := h.blk.free 6
 have f7 := h.blk.free 7
 have b1 := h.blk.set 5 (.slice none 0 0)
 rw [(pcells_set ..).2.2.2.2.2.1] at b1
 have b2 := b1.set 6 (.slice none 0 0)
 rw [(pcells_set ..).2.2.2.2.2.2.1] at b2
 have b3 := b2.set 7 (sv [])
 rw [(pcells_set ..).2.2.2.2.2.2.2] at b3
 have k3 := ((h.kpSet 5 (.slice none 0 0)).set b1 (.inr ⟨h.le, by simp⟩) 6 (.slice none 0 0)).set b2 (.inr ⟨h.le, by simp⟩) 7 (sv [])
 obtain ⟨p1, p2, -, -, p5, p6⟩ := h.parts k3
 have h3 : PAt B b tail ts (clearP σ) (((w.setCell ⟨b, 5, none⟩ (.slice none 0 0)).setCell ⟨b, 6, none⟩ (.slice none 0 0)).setCell ⟨b, 7, none⟩ (sv [])) vr vt (.slice none 0 0) (.slice none 0 0) := ⟨b3, h.le, p1, p2, Sl.nil _ _ _ _, Sl.nil _ _ _ _, p5, fun t ht => ⟨(p6 t ht).1, ahead_nil _ _ _ _⟩⟩
 have hown : ∀ k, vt.ownBlock = some k → k < w.heap.size := fun k hk => h.todo.own_lt hk
 have HOWN := Lib.hid hown
 have hsz3 : (((w.setCell ⟨b, 5, none⟩ (.slice none 0 0)).setCell ⟨b, 6, none⟩ (.slice none 0 0)).setCell ⟨b, 7, none⟩ (sv [])).heap.size = w.heap.size := by simp [World.setCell]
 have H3 := Lib.hid h3
 have K3 := Lib.hid k3
 clear g0 g1 g2 g3 g4 g5 g6 g7 b1 b2 b3 k3 h3 h p1 p2 p5 p6 hown
 unfold sv at H3 K3 c7 hsz3
 go_enter Tryz.func115, Tryz.ntmps115
 go_upto_region 1 with (fail)
 obtain ⟨i0, hi, hz0, hz1, hz2⟩ := info_parts infoWant
 have hbw := H3.out.blk.lt
 generalize ((w.setCell ⟨b, 5, none⟩ (.slice none 0 0)).setCell ⟨b, 6, none⟩ (.slice none 0 0)).setCell ⟨b, 7, none⟩ (.string ⟨#[]⟩) = w1 at *
 have HS3 := Lib.hid hsz3
 clear c5 c6 c7 f5 f6 f7 hsz3
 go_wp2_with fail
 refine (word_any b [wNar] .none _ _ (putArg w1 1 _ [wNar] _ rfl rfl rfl (by simp))).mono ?_
 rintro e w2 ⟨f1, rfl, hj2, hk2⟩
 have hk12 : Keeps Non w1 w2 := ((Keeps.refl _ _).alloc _).trans hk2 (fun k hk => .inl hk)
 have J2 := Lib.hid hj2
 have K2 := Lib.hid hk12
 clear hj2 hk2 hk12
 go_wp2_with fail
 have hw1 := wantArg (w := w2) [((.word [wNar] .none : Job), f1)] 1 _ _ rfl rfl rfl (by omega)
 refine (node_any b _).mono ?_
 rintro e w3 ⟨n1, n2, n3, bl, rfl, hsl3, hbl3, hj3, hk3⟩
 have hz := K2.out.size
 have HW1 : Hid (Sl w3 0 113 2 (.slice (some ⟨w2.heap.size, 0, none⟩) 1 1) 1 (wantCells [((.word [wNar] .none : Job), f1)])) := hw1.kp (Kp.of_keeps (B := 0) (Ts := []) hk3) (.inl (by simp))
 have hk23 : Keeps Non w2 w3 := ((Keeps.refl _ _).alloc _).trans hk3 (fun k hk => .inl hk)
 have K3' := Lib.hid (K2.out.trans hk23 (fun k hk => .inl hk))
 have J3 := Lib.hid (J2.out.keeps hk23)
 have HSL3 := Lib.hid hsl3
 have HJ3 := Lib.hid hj3
 have HSZ3 : Hid (w1.heap.size ≤ w3.heap.size) := K3'.out.size
 generalize w2.heap.size = z at *
 have HZ : Hid (w1.heap.size ≤ z) := hz
 clear hw1 hbl3 hk3 hk23 J2 K2 hsl3 hj3 hz
 go_wp2_with (at_builtin; refine wpList_append_own2 rfl _ _ 103 103 rfl 113 i0 _ 2 16 Tryz.underlying103 hi hz0 hz1 hz2 rfl 0 _ 1 (wantCells [((.word [wNar] .none : Job), f1)]) rfl _ rfl 3 (wantCells (nodeWs n1 n2 n3)) (Nat.zero_le _) HW1.out ?c2 ?c3 ?c4 ?_)
 case c2 => exact Src.ofSl Tryz.underlying103 HSL3.out (want_one (fun t ht => (HJ3.out t ht).one))
 case c3 => unfold maxLen; omega
 case c4 => omega
 intro ao cc w4 hs4 hk4 hkk4 hb4
 have sub : ∀ T ∈ ([113] : List TypeId), T ∈ paTs := by intro T hT; simp only [List.mem_singleton] at hT; subst hT; simp
 have K4 : Hid (Keeps Non w1 w4) := K3'.out.trans hkk4 (fun k hk => .inr (by cases hk; exact HZ.out))
 have HB4 : Hid (∀ k, (Value.slice ao (1 + 3) cc).ownBlock = some k → w1.heap.size ≤ k) := fun k hk => by
  rcases hb4 with e | e
  ·rw [e] at hk; cases hk; exact HZ.out
  ·rw [e] at hk; cases hk; exact HSZ3.out
 obtain ⟨us, hus⟩ : ∃ us : List (Job × Value), us = [((.word [wNar] .none : Job), f1)] ++ nodeWs n1 n2 n3 := ⟨_, rfl⟩
 have HJ4 : Hid (∀ t ∈ us, JobAt w4 b t.1 t.2) := by
  intro t ht
  refine JobAt.kp ?_ hk4 sub
  rw [hus] at ht
  rcases List.mem_append.1 ht with ht | ht
  ·obtain rfl := List.mem_singleton.1 ht
   exact J3.out
  ·exact HJ3.out t ht
 have hul : us.length = 1 + 3 := by rw [hus]; rfl
 have hs4' : Sl w4 0 113 2 (.slice ao (1 + 3) cc) us.length (wantCells us) := by
  rw [hul, hus, wantCells_append]
  exact hs4
 obtain ⟨bl2, ol2, cp2, hsh, -, -, -, -, -, -⟩ := hs4'.pos (by omega)
 rw [hul] at hsh
 cases hsh
 have hmap : us.map Prod.fst = treeJobs := by rw [hus]; rfl
 have HMAP := Lib.hid hmap
 have HUL := Lib.hid hul
 have hpl := plan_any (H3.out.keeps K4.out) us bl2 ol2 cc (by rw [hul] at hs4' ⊢; exact hs4') (by intro e; have h1 := HB4.out bl2 rfl; have h2 := HOWN.out bl2 e; have h3 := HS3.out; omega) HJ4.out (by rw [hul]; omega)
 have HPL := Lib.hid hpl
 clear hs4 hs4' hk4 hkk4 hb4 hus hul hmap hpl HB4 J3 HJ3 HJ4 HZ HSZ3 hi hz0 hz1 hz2 HW1 HSL3 K3'
 rw [HUL.out] at HPL
 go_wp2_with fail
 refine HPL.out.mono ?_
 rintro e w5 ⟨rfl, h5, k5⟩
 have H5 := Lib.hid h5
 have K5 : Hid (Kp B jobTs w w5) := ((K3.out.mono (.inr ⟨Nat.le_refl _, by simp⟩)).trans (Kp.of_keeps K4.out)).trans (k5.mono (.inr ⟨Nat.le_refl _, by simp⟩))
 clear h5 k5
 go_wp2_with fail
 go_end0
 refine ⟨rfl, ⟨us.reverse, ?_, H5.out⟩, K5.out⟩
 simp only [List.map_reverse, List.reverse_reverse]
 exact HMAP.out
end Go.Proofs.YtdkogijdfgfpeaaGreatDoor
