/- (*tree.Parser).file's closures; a word's closure. -/
import Derived.Test.YtdkogijdfgfpeaaGreatDoorVPKind
import Derived.Deep.RegionHeld3
import Derived.Test.YtdkogijdfgfpeaaGreatDoorVExpP
import Derived.Test.YtdkogijdfgfpeaaGreatDoorVPInv
set_option linter.unusedVariables false
namespace Go.Proofs.YtdkogijdfgfpeaaGreatDoor
open Go Go.RowKit
set_option maxHeartbeats 800000 in
set_option maxRecDepth 100000 in
theorem keep_any {B b : Nat} {tail : PT} {ts : List (Job × Value)} {σ : PSt} {w : World} (h : PA B b tail ts σ w) (s : ByteArray) (p k : Int) (bp bk : Nat) (hbp : Blk w bp #[.pointer (some ⟨b, 0, none⟩)] 151) (hbk : Blk w bk #[.int .i64 k] 47) (hl : σ.nodes.length ≤ 1099511627776) :
 Calls Tryz.prog 173 #[.string s, .int .i64 p, .pointer (some ⟨bp, 0, none⟩), .pointer (some ⟨bk, 0, none⟩)] w (Did B b tail ts (doJob (.keep k) s.data.toList p σ) w) := by
 have c0 : w.cell? ⟨bp, 0, none⟩ = some (.pointer (some ⟨b, 0, none⟩)) := hbp.cell 0
 have c1 : w.cell? ⟨bk, 0, none⟩ = some (.int .i64 k) := hbk.cell 0
 have H0 := Lib.hid h
 clear h hbp hbk
 go_enter Tryz.func173, Tryz.ntmps173
 go_wp2_with fail
 refine (add_any H0.out k s hl).mono ?_
 rintro e w1 ⟨rfl, h1, k1⟩
 go_wp2_with fail
 go_end0
 exact Did.plain rfl rfl h1 k1 (by simp)
def KeepPost (w : World) (b : Nat) (k : Int) (ed : Ending) (w' : World) : Prop := ∃ f, ed = .returned (.agg #[.int .i64 100, f]) ∧ JobAt w' b (.keep k) f ∧ Keeps Non w w'
set_option maxHeartbeats 800000 in
set_option maxRecDepth 100000 in
theorem keepw_any (b : Nat) (k : Int) (bp : Nat) (w : World) (hbp : Blk w bp #[.pointer (some ⟨b, 0, none⟩)] 151) :
 Calls Tryz.prog 172 #[.int .i64 k, .pointer (some ⟨bp, 0, none⟩)] w (KeepPost w b k) := by
 have hb1 := (hbp.alloc (.cells #[.int .i64 k] 47)).alloc (.cells #[.int .i64 0, .nilFunc] 113)
 have hb2 := (Blk.new w #[.int .i64 k] 47).alloc (.cells #[.int .i64 0, .nilFunc] 113)
 have hb3 := Blk.new (w.alloc (.cells #[.int .i64 k] 47)) #[.int .i64 0, .nilFunc] 113
 rw [World.size_alloc] at hb3
 have hk0 : Keeps Non w ((w.alloc (.cells #[.int .i64 k] 47)).alloc (.cells #[.int .i64 0, .nilFunc] 113)) := ((Keeps.refl _ _).alloc _).alloc _
 clear hbp
 go_enter Tryz.func172, Tryz.ntmps172
 go_upto_region 1 with (fail)
 generalize hw1 : (w.alloc (.cells #[.int .i64 k] 47)).alloc (.cells #[.int .i64 0, .nilFunc] 113) = w1 at *
 have HK0 := Lib.hid hk0
 have HB1 := Lib.hid hb1
 have HB2 := Lib.hid hb2
 have HB3 := Lib.hid hb3
 have c0 : w1.cell? ⟨bp, 0, none⟩ = some (.pointer (some ⟨b, 0, none⟩)) := hb1.cell 0
 clear hw1 hk0 hb1 hb2 hb3
 generalize hz : w.heap.size = z at HB2 HB3 ⊢
 have HZ := Lib.hid hz
 clear hz
 go_wp2_with fail
 refine (text_any b 100 (.func (.func 173) #[] #[.pointer (some ⟨bp, 0, none⟩), .pointer (some ⟨z, 0, none⟩)]) rfl ⟨_, _, _, rfl⟩ _).mono ?_
 rintro e w2 ⟨rfl, hk2⟩
 have B1 := Lib.hid (HB1.out.keeps hk2 (fun h => h))
 have B2 := Lib.hid (HB2.out.keeps hk2 (fun h => h))
 have b3 := HB3.out.keeps hk2 (fun h => h)
 have K2 := Lib.hid (HK0.out.trans hk2 (fun k hk => .inl hk))
 have d0 : w2.cell? ⟨z + 1, 0, none⟩ = some (.int .i64 0) := b3.cell 0
 have d1 : w2.cell? ⟨z + 1, 1, none⟩ = some .nilFunc := b3.cell 1
 have g0 := b3.free 0
 have g1 := b3.free 1
 have B3 := Lib.hid b3
 clear hk2 b3 HB1 HB2 HB3 HK0
 go_wp2_with fail
 have b4 := (B3.out.set 0 (.int .i64 100)).set 1 (.func (.func 173) #[] #[.pointer (some ⟨bp, 0, none⟩), .pointer (some ⟨z, 0, none⟩)])
 have k4 := ((Keeps.refl Non w).trans K2.out (fun k hk => .inl hk)).setCell ⟨z + 1, 0, none⟩ (.int .i64 100) (.inr (by rw [HZ.out]; exact Nat.le_succ z)) |>.setCell ⟨z + 1, 1, none⟩ (.func (.func 173) #[] #[.pointer (some ⟨bp, 0, none⟩), .pointer (some ⟨z, 0, none⟩)]) (.inr (by rw [HZ.out]; exact Nat.le_succ z))
 have b1 := (B1.out.set_ne ⟨z + 1, 0, none⟩ (.int .i64 100) (fun e => absurd (B1.out.inj (by rw [show bp = z + 1 from e]; exact B3.out)).2 (by decide))).set_ne ⟨z + 1, 1, none⟩ (.func (.func 173) #[] #[.pointer (some ⟨bp, 0, none⟩), .pointer (some ⟨z, 0, none⟩)]) (fun e => absurd (B1.out.inj (by rw [show bp = z + 1 from e]; exact B3.out)).2 (by decide))
 have b2 := (B2.out.set_ne ⟨z + 1, 0, none⟩ (.int .i64 100) (by simp)).set_ne ⟨z + 1, 1, none⟩ (.func (.func 173) #[] #[.pointer (some ⟨bp, 0, none⟩), .pointer (some ⟨z, 0, none⟩)]) (by simp)
 generalize (w2.setCell ⟨z + 1, 0, none⟩ (.int .i64 100)).setCell ⟨z + 1, 1, none⟩ (.func (.func 173) #[] #[.pointer (some ⟨bp, 0, none⟩), .pointer (some ⟨z, 0, none⟩)]) = w3 at *
 have e0 : w3.cell? ⟨z + 1, 0, none⟩ = some (.int .i64 100) := b4.cell 0
 have e1 : w3.cell? ⟨z + 1, 1, none⟩ = some (.func (.func 173) #[] #[.pointer (some ⟨bp, 0, none⟩), .pointer (some ⟨z, 0, none⟩)]) := b4.cell 1
 refine bodyPost_ret (v := .agg #[.int .i64 100, .func (.func 173) #[] #[.pointer (some ⟨bp, 0, none⟩), .pointer (some ⟨z, 0, none⟩)]]) (by simp [results, Tryz.results172, go_sem, e0, e1]) rfl ?_
 exact ⟨_, rfl, ⟨bp, z, rfl, b1, b2⟩, k4⟩
theorem sl_keeps {w w' : World} {B : Nat} {E : TypeId} {size : Nat} {v : Value} {n : Nat} {xs : List Value} (h : Sl w B E size v n xs) (k : Hid (Keeps Non w w')) : Sl w' B E size v n xs := h.kp (Kp.of_keeps (B := 0) (Ts := []) k.out) (.inl (by simp))
theorem sl_drew {w : World} {B : Nat} {E : TypeId} {size : Nat} {v : Value} {n : Nat} {xs : List Value} (h : Sl w B E size v n xs) : Sl w.drew B E size v n xs := h
theorem pa_alloc {B b : Nat} {tail : PT} {ts : List (Job × Value)} {σ : PSt} {w : World} (h : PA B b tail ts σ w) (o : Obj) : PA B b tail ts σ (w.alloc o) := h.keeps ((Keeps.refl _ _).alloc o)
set_option maxHeartbeats 4000000 in
set_option maxRecDepth 100000 in
theorem file_any {B b : Nat} {tail : PT} {ts : List (Job × Value)} {σ : PSt} {w : World} (h : PA B b tail ts σ w) (s : ByteArray) (p : Int) (ht : ts.length ≤ 1099511627000) :
 Calls Tryz.prog 167 #[.pointer (some ⟨b, 0, none⟩), .string s, .int .i64 p] w (Did B b tail ts (doAct .file s.data.toList p σ) w) := by
 have hk1 : Keeps Non w (w.alloc (.cells #[.pointer (some ⟨b, 0, none⟩)] 151)) := (Keeps.refl _ _).alloc _
 have hb1 := Blk.new w #[.pointer (some ⟨b, 0, none⟩)] 151
 have h1 := h.keeps hk1
 clear h
 by_cases hx : s.data.toList = wExec
 ·have hb : (s.toList == [101, 120, 101, 99]) = true := by rw [ByteArray.toList_eq, hx]; rfl
  have HS : Hid (doAct .file s.data.toList p σ = ([.word [[]] .none, .word [wData] .none, .keep 2, .word [wShut] .none], σ)) := by show _ = _; simp only [doAct, hx, if_true]
  clear hx
  go_enter Tryz.func167, Tryz.ntmps167
  go_upto_region 3 with (fail)
  generalize w.heap.size = z at hb1 ⊢
  generalize w.alloc _ = w0 at *
  have HP1 : Hid (PA B b tail ts σ w0) := h1
  have KB1 : Hid (Kp B jobTs w w0) := Kp.of_keeps hk1
  clear h1 hk1
  go_region_held3 (fun w => w.cell? ⟨z, 0, none⟩ = some (.pointer (some ⟨b, 0, none⟩))) (exact Blk.cell (show Blk _ z #[.pointer (some ⟨b, 0, none⟩)] 151 by repeat (first | assumption | refine Blk.alloc ?_ _)) 0) (first
   | (go_at_call 172
      refine (keepw_any b 2 z _ (show Blk _ z _ _ by ((repeat (first | exact hb3 | refine Blk.alloc ?_ _)); (first | done | fail "left")))).mono ?_
      rintro e w4 ⟨f3, rfl, hj, hk⟩
      have HKE4 := Lib.hid hk
      have KB4 : Hid (Kp B jobTs w w4) := (show Kp B jobTs w _ by ((repeat (first | exact KB3.out | refine Kp.alloc ?_ _)); (first | done | fail "left"))).trans (Kp.of_keeps hk)
      have hb4 : Blk w4 z #[.pointer (some ⟨b, 0, none⟩)] 151 := (show Blk _ z _ _ by ((repeat (first | exact hb3 | refine Blk.alloc ?_ _)); (first | done | fail "left"))).keeps hk (fun h => h)
      have HP4 : Hid (PA B b tail ts σ w4) := (show PA B b tail ts σ _ by ((repeat (first | exact HP3.out | refine pa_alloc ?_ _)); (first | done | fail "left"))).keeps hk
      have JX4 : Hid (JobAt w4 b (.word [[]] .none) f1) := (show JobAt _ b _ _ by ((repeat (first | exact JX3.out | refine JobAt.alloc ?_ _)); (first | done | fail "left"))).keeps hk
      have JY4 : Hid (JobAt w4 b (.word [wData] .none) f2) := (show JobAt _ b _ _ by ((repeat (first | exact JY3.out | refine JobAt.alloc ?_ _)); (first | done | fail "left"))).keeps hk
      have JK4 := Lib.hid hj
      clear hj hk)
   | (have g0 := JK4
      go_at_call 46
      refine (word_any b [wShut] .none _ _ (show Sl _ 0 9 1 _ 1 (svs [wShut]) by ((repeat (first | exact putArg _ 1 _ [wShut] _ (by simp) rfl rfl (by simp) | refine Sl.alloc ?_ _ | refine sl_keeps ?_ (by assumption))); (first | done | fail "left")))).mono ?_
      rintro e w5 ⟨f4, rfl, hj, hk⟩
      have HKE5 := Lib.hid hk
      have KB5 : Hid (Kp B jobTs w w5) := (show Kp B jobTs w _ by ((repeat (first | exact KB4.out | refine Kp.alloc ?_ _)); (first | done | fail "left"))).trans (Kp.of_keeps hk)
      have hb5 : Blk w5 z #[.pointer (some ⟨b, 0, none⟩)] 151 := (show Blk _ z _ _ by ((repeat (first | exact hb4 | refine Blk.alloc ?_ _)); (first | done | fail "left"))).keeps hk (fun h => h)
      have HP5 : Hid (PA B b tail ts σ w5) := (show PA B b tail ts σ _ by ((repeat (first | exact HP4.out | refine pa_alloc ?_ _)); (first | done | fail "left"))).keeps hk
      have JX5 : Hid (JobAt w5 b (.word [[]] .none) f1) := (show JobAt _ b _ _ by ((repeat (first | exact JX4.out | refine JobAt.alloc ?_ _)); (first | done | fail "left"))).keeps hk
      have JY5 : Hid (JobAt w5 b (.word [wData] .none) f2) := (show JobAt _ b _ _ by ((repeat (first | exact JY4.out | refine JobAt.alloc ?_ _)); (first | done | fail "left"))).keeps hk
      have JK5 : Hid (JobAt w5 b (.keep 2) f3) := (show JobAt _ b _ _ by ((repeat (first | exact JK4.out | refine JobAt.alloc ?_ _)); (first | done | fail "left"))).keeps hk
      have JZ5 := Lib.hid hj
      clear hj hk)
   | (have g0 := JX2
      go_at_call 46
      refine (word_any b [wData] .none _ _ (show Sl _ 0 9 1 _ 1 (svs [wData]) by ((repeat (first | exact putArg _ 1 _ [wData] _ (by simp) rfl rfl (by simp) | refine Sl.alloc ?_ _ | refine sl_keeps ?_ (by assumption))); (first | done | fail "left")))).mono ?_
      rintro e w3 ⟨f2, rfl, hj, hk⟩
      have HKE3 := Lib.hid hk
      have KB3 : Hid (Kp B jobTs w w3) := (show Kp B jobTs w _ by ((repeat (first | exact KB2.out | refine Kp.alloc ?_ _)); (first | done | fail "left"))).trans (Kp.of_keeps hk)
      have hb3 : Blk w3 z #[.pointer (some ⟨b, 0, none⟩)] 151 := (show Blk _ z _ _ by ((repeat (first | exact hb2 | refine Blk.alloc ?_ _)); (first | done | fail "left"))).keeps hk (fun h => h)
      have HP3 : Hid (PA B b tail ts σ w3) := (show PA B b tail ts σ _ by ((repeat (first | exact HP2.out | refine pa_alloc ?_ _)); (first | done | fail "left"))).keeps hk
      have JX3 : Hid (JobAt w3 b (.word [[]] .none) f1) := (show JobAt _ b _ _ by ((repeat (first | exact JX2.out | refine JobAt.alloc ?_ _)); (first | done | fail "left"))).keeps hk
      have JY3 := Lib.hid hj
      clear hj hk)
   | (go_at_call 46
      refine (word_any b [[]] .none _ _ (sl_drew (show Sl _ 0 9 1 _ 1 (svs [[]]) by ((repeat (first | exact putArg _ 1 _ [[]] _ (by simp) rfl rfl (by simp) | refine Sl.alloc ?_ _ | refine sl_keeps ?_ (by assumption))); (first | done | fail "left"))))).mono ?_
      rintro e w2 ⟨f1, rfl, hj, hk'⟩
      have hk := Keeps.of_drew hk'
      clear hk'
      have HKE2 := Lib.hid hk
      have KB2 : Hid (Kp B jobTs w w2) := (show Kp B jobTs w _ by ((repeat (first | exact KB1.out | refine Kp.alloc ?_ _)); (first | done | fail "left"))).trans (Kp.of_keeps hk)
      have hb2 : Blk w2 z #[.pointer (some ⟨b, 0, none⟩)] 151 := (show Blk _ z _ _ by ((repeat (first | exact hb1 | refine Blk.alloc ?_ _)); (first | done | fail "left"))).keeps hk (fun h => h)
      have HP2 : Hid (PA B b tail ts σ w2) := (show PA B b tail ts σ _ by ((repeat (first | exact HP1.out | refine pa_alloc ?_ _)); (first | done | fail "left"))).keeps hk
      have JX2 := Lib.hid hj
      clear hj hk)
   | (go_at_call 45
      refine (plan_new HP5.out [(.word [[]] .none, f1), (.word [wData] .none, f2), (.keep 2, f3), (.word [wShut] .none, f4)] 4 _ _ rfl rfl rfl (by omega) (by intro t ht; simp only [List.mem_cons, List.not_mem_nil, or_false] at ht; rcases ht with rfl | rfl | rfl | rfl; exact JX5.out; exact JY5.out; exact JK5.out; exact JZ5.out) ht).mono ?_
      rintro e w6 ⟨rfl, h6, k6⟩
      have H6 := Lib.hid h6
      have K6 := Lib.hid k6
      have hb6 := hb5.kp k6 (.inr (by decide))
      clear h6 k6))
  all_goals (
   go_wp2_with fail
   go_end0
   rw [HS.out]
   exact Did.planned rfl rfl H6.out KB5.out K6.out)
 ·have hb : (s.toList == [101, 120, 101, 99]) = false := by rw [ByteArray.toList_eq, beq_eq_false_iff_ne]; exact hx
  have HS : Hid (doAct .file s.data.toList p σ = ([.keep 1, .word [wShut] .none], σ)) := by show _ = _; simp only [doAct, if_neg hx]
  clear hx
  go_enter Tryz.func167, Tryz.ntmps167
  go_upto_region 4 with (fail)
  generalize w.heap.size = z at hb1 ⊢
  generalize w.alloc _ = w1 at *
  have H1 := Lib.hid h1
  have K1 := Lib.hid hk1
  clear h1 hk1
  have HKP : Hid (∀ wx, Blk wx z #[.pointer (some ⟨b, 0, none⟩)] 151 → Calls Tryz.prog 172 #[.int .i64 1, .pointer (some ⟨z, 0, none⟩)] wx (KeepPost wx b 1)) := fun wx hbx => keepw_any b 1 z wx hbx
  have HWD : Hid (∀ (v : Value) (wx : World), Sl wx 0 9 1 v [wShut].length (svs [wShut]) → Calls Tryz.prog 46 #[.pointer (some ⟨b, 0, none⟩), .nilFunc, v] wx (WordPost wx b [wShut] .none)) := fun v wx hv => word_any b [wShut] .none v wx hv
  go_region_held3 (fun w => w.cell? ⟨z, 0, none⟩ = some (.pointer (some ⟨b, 0, none⟩))) (first | exact Blk.cell (by assumption) 0 | exact Blk.cell (Blk.drew (by assumption)) 0 | exact Blk.cell (Blk.alloc (by assumption) _) 0 | exact Blk.cell (Blk.alloc (Blk.drew (by assumption)) _) 0) (first
   | (go_at_call 172
      refine (HKP.out _ (by first | exact hb1 | exact Blk.alloc (w := w1.drew) hb1 _)).mono ?_
      rintro e w2 ⟨f1, rfl, hj1, hk2⟩
      have J1 := Lib.hid hj1
      have HKE := Lib.hid hk2
      have K2 : Hid (Keeps Non w w2) := (by first | exact (K1.out.drew).trans hk2 (fun k hk => .inl hk) | exact (K1.out.drew.alloc _).trans hk2 (fun k hk => .inl hk))
      have hb2 : Blk w2 z #[.pointer (some ⟨b, 0, none⟩)] 151 := (by first | exact Blk.keeps (w := w1.drew) hb1 hk2 (fun h => h) | exact Blk.keeps (Blk.alloc (w := w1.drew) hb1 _) hk2 (fun h => h))
      have H2 : Hid (PA B b tail ts σ w2) := (by first | exact H1.out.keeps (((Keeps.refl _ _).drew).trans hk2 (fun k hk => .inl hk)) | exact H1.out.keeps (((Keeps.refl _ _).drew.alloc _).trans hk2 (fun k hk => .inl hk)))
      clear hj1 hk2)
   | (go_at_call 46
      refine (HWD.out _ _ (by first | exact putArg _ 1 _ [wShut] _ rfl rfl rfl (by simp) | exact (putArg w1.drew 1 _ [wShut] _ rfl rfl rfl (by simp)).kp (Kp.of_keeps (B := 0) (Ts := []) HKE.out) (.inl (by simp)))).mono ?_
      rintro e w3 ⟨f2, rfl, hj2, hk3⟩
      have hk23 : Keeps Non w2 w3 := (by first | exact hk3 | exact ((Keeps.refl _ _).alloc _).trans hk3 (fun k hk => .inl hk))
      have J13 := Lib.hid (J1.out.keeps hk23)
      have J2 := Lib.hid hj2
      have K3 := Lib.hid (K2.out.trans hk23 (fun k hk => .inl hk))
      have H3 := Lib.hid (H2.out.keeps hk23)
      have hb3 := hb2.keeps hk23 (fun h => h)
      clear hj2 hk3 hk23)
   | (go_at_call 45
      refine (plan_new H3.out [(.keep 1, f1), (.word [wShut] .none, f2)] 2 _ _ rfl rfl rfl (by omega) (by intro t ht; simp only [List.mem_cons, List.not_mem_nil, or_false] at ht; rcases ht with rfl | rfl; exact J13.out; exact J2.out) ht).mono ?_
      rintro e w4 ⟨rfl, h4, k4⟩
      have H4 := Lib.hid h4
      have K4 := Lib.hid k4
      have hb4 := hb3.kp k4 (.inr (by decide))
      clear h4 k4))
  all_goals (
   go_wp2_with fail
   go_end0
   rw [HS.out]
   exact Did.planned rfl rfl H4.out (Kp.of_keeps K3.out) K4.out)
set_option maxHeartbeats 1600000 in
set_option maxRecDepth 100000 in
theorem cnext_any {B b : Nat} {tail : PT} {ts : List (Job × Value)} {σ : PSt} {w : World} (h : PA B b tail ts σ w) (s : ByteArray) (p : Int) (ht : ts.length ≤ 1099511627000) :
 Calls Tryz.prog 47 #[.pointer (some ⟨b, 0, none⟩), .string s, .int .i64 p] w (Did B b tail ts (doAct .next' s.data.toList p σ) w) := by
 have H0 := Lib.hid h
 clear h
 by_cases h1 : s.data.toList = wPath
 ·have hb : (s.toList == [112, 97, 116, 104]) = true := by rw [ByteArray.toList_eq, h1]; rfl
  have HS : Hid (doAct .next' s.data.toList p σ = ([.cpath], σ)) := by show _ = _; simp only [doAct, h1, if_true]
  clear h1
  go_enter Tryz.func47, Tryz.ntmps47
  go_upto_region 1 with (fail)
  go_region_held3 (fun _ => True) (trivial) (first
   | (go_at_call 79
      refine (text_any b 12 (.func (.func 80) #[.pointer (some ⟨b, 0, none⟩)] #[]) rfl ⟨_, _, _, rfl⟩ _).mono ?_
      rintro e w1 ⟨rfl, hk1⟩
      replace hk1 : Keeps Non w w1 := (by first | exact hk1 | exact hk1.of_drew)
      have H1 := Lib.hid (H0.out.keeps hk1)
      have K1 := Lib.hid hk1)
   | (go_at_call 45
      refine (plan_new H1.out [(.cpath, .func (.func 80) #[.pointer (some ⟨b, 0, none⟩)] #[])] 1 _ _ rfl rfl rfl (by omega) (by intro t ht; obtain rfl := List.mem_singleton.1 ht; rfl) ht).mono ?_
      rintro e w2 ⟨rfl, h2, k2⟩
      have H2 := Lib.hid h2
      have K2 := Lib.hid k2))
  all_goals (
   clear h2 k2 hk1
   go_wp2_with fail
   go_end0
   rw [HS.out]
   exact Did.planned rfl rfl H2.out (Kp.of_keeps K1.out) K2.out)
 ·have hb : (s.toList == [112, 97, 116, 104]) = false := by rw [ByteArray.toList_eq, beq_eq_false_iff_ne]; exact h1
  have HS : Hid (doAct .next' s.data.toList p σ = ([], σ)) := by show _ = _; simp only [doAct, if_neg h1]
  clear h1
  go_enter Tryz.func47, Tryz.ntmps47
  go_wp2_with fail
  go_end0
  rw [HS.out]
  exact Did.plain (Ts := []) rfl rfl H0.out (Kp.refl _ _ _) (by simp)
theorem farnew_more {w w2 w3 : World} {B bm2 bp2 bt2 sz : Nat} {Ts : List TypeId} {f1 f2 : Value} (J J' : Job) (hJ : J' ≠ moreJob ∧ J' ≠ nextJob) (hf : f2 = .func (.func 77) #[] #[.pointer (some ⟨bm2, 0, none⟩), .pointer (some ⟨bp2, 0, none⟩), .pointer (some ⟨bt2, 0, none⟩)])
 (hb : Blk w2 bm2 #[.slice (some ⟨sz, 0, none⟩) 2 2] 26) (k : Kp B Ts w2 w3) (hT : 26 ∉ Ts) (hs : w.heap.size ≤ sz) : FarNew w w3 [(J, f2), (J', f1)] := by
 intro v B' n ys hsl t ht he bm bp bt vm hfv hbv
 simp only [List.mem_cons, List.not_mem_nil, or_false] at ht
 rcases ht with rfl | rfl
 ·simp only at hfv
  rw [hf] at hfv
  have e1 : bm2 = bm := by simp at hfv; exact hfv.1
  subst e1
  have h2 := (hb.kp k (.inr hT)).inj hbv
  have e2 : vm = .slice (some ⟨sz, 0, none⟩) 2 2 := by simpa using h2.1.symm
  subst e2
  unfold Ahead
  split
  ·rename_i a n1 c1 a' n' c' h1
   cases h1
   intro e
   have := hsl.own_lt (k := a.block) rfl
   simp only at e
   omega
  ·trivial
 ·exact absurd he (fun e => e.elim hJ.1 hJ.2)
set_option maxHeartbeats 1600000 in
set_option maxRecDepth 100000 in
theorem cmore_any {B b : Nat} {tail : PT} {ts : List (Job × Value)} {σ : PSt} {w : World} (h : PA B b tail ts σ w) (s : ByteArray) (p : Int) (ht : ts.length ≤ 1099511627000) :
 Calls Tryz.prog 114 #[.pointer (some ⟨b, 0, none⟩), .string s, .int .i64 p] w (Did B b tail ts (doAct .more s.data.toList p σ) w) := by
 have H0 := Lib.hid h
 clear h
 by_cases h1 : s.data.toList = wRef
 ·have hb : (s.toList == [114, 101, 102]) = true := by rw [ByteArray.toList_eq, h1]; rfl
  have HS : Hid (doAct .more s.data.toList p σ = ([.cref, moreJob], σ)) := by show _ = _; simp only [doAct, h1, if_true]
  clear h1
  go_enter Tryz.func114, Tryz.ntmps114
  go_upto_region 1 with (fail)
  go_region_held3 (fun _ => True) (trivial) (first
   | (go_at_call 79
      refine (text_any b 12 (.func (.func 129) #[.pointer (some ⟨b, 0, none⟩)] #[]) rfl ⟨_, _, _, rfl⟩ _).mono ?_
      rintro e w1 ⟨rfl, hk1⟩
      have hk1a : Keeps Non w w1 := (by first | exact hk1 | exact hk1.of_drew | exact ((Keeps.refl Non w).alloc _).tn hk1 | exact ((Keeps.refl Non w).alloc _).tn hk1.of_drew | exact Keeps.of_drew (((Keeps.refl Non w.drew).alloc _).tn hk1))
      have K1 := Lib.hid hk1a
      clear hk1a)
   | (go_at_call 46
      refine (word_any2 b [wRef, wSum] .more _ _ (by first | exact putArg w1 2 _ [wRef, wSum] _ rfl rfl rfl (by simp) | exact (putArg w 2 _ [wRef, wSum] _ rfl rfl rfl (by simp)).kp (Kp.of_keeps (B := 0) (Ts := []) hk1) (.inl (by simp)) | exact (putArg w 2 _ [wRef, wSum] _ rfl rfl rfl (by simp)).kp (Kp.of_keeps (B := 0) (Ts := []) hk1.of_drew) (.inl (by simp)) | exact putArg w1.drew 2 _ [wRef, wSum] _ rfl rfl rfl (by simp) | exact (putArg w1 2 _ [wRef, wSum] _ rfl rfl rfl (by simp)).drewN 1)).mono ?_
      rintro e w2 ⟨f2, rfl, hj2, hk2, bm2, bp2, bt2, hf2, hbm2⟩
      have HF2 := Lib.hid hf2
      have HBM2 := Lib.hid hbm2
      clear hf2 hbm2
      have hk02 : Keeps Non w w2 := K1.out.tn (by first | exact hk2 | exact hk2.of_drew | exact ((Keeps.refl _ _).alloc _).tn hk2 | exact ((Keeps.refl _ _).alloc _).tn hk2.of_drew | exact Keeps.of_drew (((Keeps.refl _ _).alloc _).tn hk2))
      have J2 := Lib.hid hj2
      have K2 := Lib.hid hk02
      have H2 := Lib.hid (H0.out.keeps hk02))
   | (go_at_call 45
      refine (plan_new H2.out [(.cref, .func (.func 129) #[.pointer (some ⟨b, 0, none⟩)] #[]), (moreJob, f2)] 2 _ _ rfl rfl rfl (by omega) (by intro t ht; simp only [List.mem_cons, List.not_mem_nil, or_false] at ht; rcases ht with rfl | rfl; rfl; exact J2.out) ht).mono ?_
      rintro e w3 ⟨rfl, h3, k3⟩
      have H3 := Lib.hid h3
      have K3 := Lib.hid k3))
  all_goals (
   clear h3 k3 hk1 hk2 hk02 hj2
   go_wp2_with fail
   go_end0
   rw [HS.out]
   exact Did.plannedF rfl rfl H3.out (Kp.of_keeps K2.out) K3.out (farnew_more _ _ (by decide) HF2.out HBM2.out K3.out (by decide) (by first | exact Nat.le_refl _ | exact K1.out.size)))
 ·have hb : (s.toList == [114, 101, 102]) = false := by rw [ByteArray.toList_eq, beq_eq_false_iff_ne]; exact h1
  have HS : Hid (doAct .more s.data.toList p σ = ([.csum, nextJob], σ)) := by show _ = _; simp only [doAct, if_neg h1]
  clear h1
  go_enter Tryz.func114, Tryz.ntmps114
  go_upto_region 2 with (fail)
  go_region_held3 (fun _ => True) (trivial) (first
   | (go_at_call 79
      refine (text_any b 8 (.func (.func 130) #[.pointer (some ⟨b, 0, none⟩)] #[]) rfl ⟨_, _, _, rfl⟩ _).mono ?_
      rintro e w1 ⟨rfl, hk1⟩
      have hk1a : Keeps Non w w1 := (by first | exact hk1 | exact hk1.of_drew | exact ((Keeps.refl Non w).alloc _).tn hk1 | exact ((Keeps.refl Non w).alloc _).tn hk1.of_drew | exact Keeps.of_drew (((Keeps.refl Non w.drew).alloc _).tn hk1))
      have K1 := Lib.hid hk1a
      clear hk1a)
   | (go_at_call 46
      refine (word_any2 b [wPath, wEnd] .next' _ _ (by first | exact putArg w1 2 _ [wPath, wEnd] _ rfl rfl rfl (by simp) | exact (putArg w 2 _ [wPath, wEnd] _ rfl rfl rfl (by simp)).kp (Kp.of_keeps (B := 0) (Ts := []) hk1) (.inl (by simp)) | exact (putArg w 2 _ [wPath, wEnd] _ rfl rfl rfl (by simp)).kp (Kp.of_keeps (B := 0) (Ts := []) hk1.of_drew) (.inl (by simp)) | exact putArg w1.drew 2 _ [wPath, wEnd] _ rfl rfl rfl (by simp) | exact (putArg w1 2 _ [wPath, wEnd] _ rfl rfl rfl (by simp)).drewN 1)).mono ?_
      rintro e w2 ⟨f2, rfl, hj2, hk2, bm2, bp2, bt2, hf2, hbm2⟩
      have HF2 := Lib.hid hf2
      have HBM2 := Lib.hid hbm2
      clear hf2 hbm2
      have hk02 : Keeps Non w w2 := K1.out.tn (by first | exact hk2 | exact hk2.of_drew | exact ((Keeps.refl _ _).alloc _).tn hk2 | exact ((Keeps.refl _ _).alloc _).tn hk2.of_drew | exact Keeps.of_drew (((Keeps.refl _ _).alloc _).tn hk2))
      have J2 := Lib.hid hj2
      have K2 := Lib.hid hk02
      have H2 := Lib.hid (H0.out.keeps hk02))
   | (go_at_call 45
      refine (plan_new H2.out [(.csum, .func (.func 130) #[.pointer (some ⟨b, 0, none⟩)] #[]), (nextJob, f2)] 2 _ _ rfl rfl rfl (by omega) (by intro t ht; simp only [List.mem_cons, List.not_mem_nil, or_false] at ht; rcases ht with rfl | rfl; rfl; exact J2.out) ht).mono ?_
      rintro e w3 ⟨rfl, h3, k3⟩
      have H3 := Lib.hid h3
      have K3 := Lib.hid k3))
  all_goals (
   clear h3 k3 hk1 hk2 hk02 hj2
   go_wp2_with fail
   go_end0
   rw [HS.out]
   exact Did.plannedF rfl rfl H3.out (Kp.of_keeps K2.out) K3.out (farnew_more _ _ (by decide) HF2.out HBM2.out K3.out (by decide) (by first | exact Nat.le_refl _ | exact K1.out.size)))
def jsOf (ts : List (Job × Value)) : List Job := (ts.map Prod.fst).reverse
theorem jsOf_snoc (ts : List (Job × Value)) (j : Job) (f : Value) : jsOf (ts ++ [(j, f)]) = j :: jsOf ts := by simp [jsOf]
theorem jsOf_append (ts us : List (Job × Value)) : jsOf (ts ++ us) = (us.map Prod.fst).reverse ++ jsOf ts := by simp [jsOf]
theorem jsOf_length (ts : List (Job × Value)) : (jsOf ts).length = ts.length := by simp [jsOf]
theorem FitJ.fit {ts : List (Job × Value)} {σ : PSt} (h : FitJ ts.length σ) : Fit ts σ := ⟨h.all, h.todo, h.nodes, h.above, h.path, h.dirs⟩
theorem next_some {σ σ' : PSt} {most : Nat} {s : List UInt8} (h : σ.next most = (.some s, σ')) : σ.err = 0 ∧ ∃ k, 8 ≤ k ∧ s.length + 8 ≤ k ∧ k ≤ σ.rest.length ∧ s.length ≤ most ∧ σ' = { σ with rest := σ.rest.drop k, at' := σ.at' + k } := by
 unfold PSt.next at h
 split at h
 ·cases h
 ·rename_i h0
  split at h
  ·cases h
  ·split at h
   ·cases h
   ·split at h
    ·cases h
    ·cases h
     exact ⟨Classical.byContradiction fun e => h0 (.inl e), _, by omega, by rw [List.length_take]; omega, by omega, by rw [List.length_take]; omega, rfl⟩
theorem next_none {σ σ' : PSt} {most : Nat} (h : σ.next most = (.none, σ')) : σ' = σ ∨ ∃ e, σ' = σ.fail e σ.at' := by
 unfold PSt.next at h
 split at h
 ·cases h; exact .inl rfl
 ·split at h
  ·cases h; exact .inr ⟨3, rfl⟩
  ·split at h
   ·cases h; exact .inl rfl
   ·split at h
    ·cases h; exact .inr ⟨4, rfl⟩
    ·cases h
theorem FitJ.fail {n : Nat} {σ : PSt} (h : FitJ n σ) (e p : Int) : FitJ n (σ.fail e p) := by
 obtain ⟨h1, h2, h3, h4, h5, h6⟩ := h
 obtain ⟨q1, q2, q3, q4, q5⟩ := fail_above σ e p
 exact ⟨by rw [q4]; omega, by rw [q4]; exact h2, by rw [q2, q4]; exact h3, by rw [q1, q4]; exact h4, by rw [q3, q4]; exact h5, fun o ho => by rw [q4]; exact h6 o (by rwa [q1] at ho)⟩
theorem did_fail {B b : Nat} {tail : PT} {ts : List (Job × Value)} {σ : PSt} {w w' : World} {ed : Ending} (may : List (List UInt8)) (act : Act1) (s : List UInt8) (p : Int) (hm : s ∉ may) (he : ed = .returned (.tuple #[])) (h : PA B b tail ts (σ.fail 5 p) w') (hk : Kp B [TB] w w') : Did B b tail ts (doJob (.word may act) s p σ) w ed w' := by
 have e : doJob (.word may act) s p σ = ([], σ.fail 5 p) := by simp only [doJob, if_neg hm]
 rw [e]
 exact Did.plain he rfl h hk (by simp)
theorem did_act {B b : Nat} {tail : PT} {ts : List (Job × Value)} {σ : PSt} {w w' : World} {ed : Ending} (may : List (List UInt8)) (act : Act1) (s : List UInt8) (p : Int) (hm : s ∈ may) (h : Did B b tail ts (doAct act s p σ) w ed w') : Did B b tail ts (doJob (.word may act) s p σ) w ed w' := by
 have e : doJob (.word may act) s p σ = doAct act s p σ := by simp only [doJob, if_pos hm]
 rw [e]
 exact h
theorem func_nil (w : World) : Sem.run Tryz.prog (binOp BinOp.neq 111 Value.nilFunc Value.nilFunc) w = .ok (.bool false) w := by kernel_rfl
theorem func_some (w : World) (fn : Fn) (x y : Array Value) : Sem.run Tryz.prog (binOp BinOp.neq 111 (Value.func fn x y) Value.nilFunc) w = .ok (.bool true) w := by kernel_rfl
set_option maxHeartbeats 1600000 in
set_option maxRecDepth 100000 in
theorem word1_any {B b : Nat} {tail : PT} {ts : List (Job × Value)} {σ : PSt} {w : World} (h : PA B b tail ts σ w) (may : List (List UInt8)) (act : Act1) (s : ByteArray) (p : Int) (bm bp bt : Nat) (vm : Value)
 (hbm : Blk w bm #[vm] 26) (hsm : Sl w 0 9 1 vm may.length (svs may)) (hbp : Blk w bp #[.pointer (some ⟨b, 0, none⟩)] 151) (hbt : Blk w bt #[actV b act] 111)
 (hl : σ.nodes.length ≤ 1099511627776) (ha : σ.above.length ≤ 1099511627776) (ht : ts.length ≤ 1099511627000) (hne : (Job.word may act).needs = true → 1 ≤ σ.above.length) :
 Calls Tryz.prog 77 #[.string s, .int .i64 p, .pointer (some ⟨bm, 0, none⟩), .pointer (some ⟨bp, 0, none⟩), .pointer (some ⟨bt, 0, none⟩)] w (Did B b tail ts (doJob (.word may act) s.data.toList p σ) w) := by
 have cm : w.cell? ⟨bm, 0, none⟩ = some vm := hbm.cell 0
 have cp : w.cell? ⟨bp, 0, none⟩ = some (.pointer (some ⟨b, 0, none⟩)) := hbp.cell 0
 have ct : w.cell? ⟨bt, 0, none⟩ = some (actV b act) := hbt.cell 0
 obtain ⟨a0, c0, rfl, -, -⟩ := hsm.shape
 have H0 := Lib.hid h
 have HS := Lib.hid hsm
 have HNE := Lib.hid hne
 clear h hbm hbp hbt hsm hne
 by_cases hm : s.data.toList ∈ may
 ·have HD : Hid (decide (s.data.toList ∈ may) = true) := decide_eq_true hm
  have HM := Lib.hid hm
  clear hm
  have hn0 := func_nil w
  have hn1 : ∀ F : Nat, Sem.run Tryz.prog (binOp BinOp.neq 111 (Value.func (.func F) #[.pointer (some ⟨b, 0, none⟩)] #[]) Value.nilFunc) w = .ok (.bool true) w := fun F => func_some w _ _ _
  cases act
  all_goals (
   unfold actV at ct
   go_enter Tryz.func77, Tryz.ntmps77
   go_wp2_with fail
   refine (contains_any may _ s _ HS.out).mono ?_
   rintro e w1 ⟨rfl, rfl⟩
   rw [HD.out]
   go_wp2_with fail)
  ·go_end0
   exact did_act _ _ _ _ HM.out (Did.plain (Ts := []) rfl rfl H0.out (Kp.refl _ _ _) (by simp))
  ·refine (open_any H0.out s p hl ha).mono ?_
   rintro e w1 ⟨rfl, h1, k1⟩
   have H1 := Lib.hid h1
   have K1 := Lib.hid k1
   clear h1 k1
   go_wp2_with fail
   go_end0
   exact did_act _ _ _ _ HM.out (Did.plain rfl (by simp only [doAct]) H1.out K1.out (by simp))
  ·refine (kind_any H0.out s p hl ha ht).mono ?_
   rintro e w1 hd
   obtain rfl := hd.1
   have HDD := Lib.hid hd
   clear hd
   go_wp2_with fail
   go_end0
   exact did_act _ _ _ _ HM.out HDD.out
  ·refine (file_any H0.out s p ht).mono ?_
   rintro e w1 hd
   obtain rfl := hd.1
   have HDD := Lib.hid hd
   clear hd
   go_wp2_with fail
   go_end0
   exact did_act _ _ _ _ HM.out HDD.out
  ·refine (dir_any H0.out s p ha (HNE.out rfl) ht).mono ?_
   rintro e w1 hd
   obtain rfl := hd.1
   have HDD := Lib.hid hd
   clear hd
   go_wp2_with fail
   go_end0
   exact did_act _ _ _ _ HM.out HDD.out
  ·refine (cnext_any H0.out s p ht).mono ?_
   rintro e w1 hd
   obtain rfl := hd.1
   have HDD := Lib.hid hd
   clear hd
   go_wp2_with fail
   go_end0
   exact did_act _ _ _ _ HM.out HDD.out
  ·refine (cmore_any H0.out s p ht).mono ?_
   rintro e w1 hd
   obtain rfl := hd.1
   have HDD := Lib.hid hd
   clear hd
   go_wp2_with fail
   go_end0
   exact did_act _ _ _ _ HM.out HDD.out
 ·have HD : Hid (decide (s.data.toList ∈ may) = false) := decide_eq_false hm
  have HM : Hid (s.data.toList ∉ may) := hm
  clear hm ct
  go_enter Tryz.func77, Tryz.ntmps77
  go_wp2_with fail
  refine (contains_any may _ s _ HS.out).mono ?_
  rintro e w1 ⟨rfl, rfl⟩
  rw [HD.out]
  go_wp2_with fail
  refine (fail_any H0.out 5 p).mono ?_
  rintro e w1 ⟨rfl, h1, k1⟩
  have H1 := Lib.hid h1
  have K1 := Lib.hid k1
  clear h1 k1
  go_wp2_with fail
  go_end0
  exact did_fail _ _ _ _ HM.out rfl H1.out K1.out
end Go.Proofs.YtdkogijdfgfpeaaGreatDoor
