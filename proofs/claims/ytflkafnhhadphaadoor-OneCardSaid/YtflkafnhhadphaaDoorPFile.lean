/- (*tree.Parser).file. -/
import Derived.Test.YtflkafnhhadphaaDoorChecked
import Derived.Test.YtflkafnhhadphaaDoorPKeep
namespace Go.Proofs.YtflkafnhhadphaaDoor
open Go Go.RowKit
set_option linter.unusedVariables false

theorem sl_keeps {w w' : World} {B : Nat} {E : TypeId} {size : Nat} {v : Value} {n : Nat} {xs : List Value} (h : Sl w B E size v n xs) (k : Hid (Keeps Non w w')) : Sl w' B E size v n xs := h.kp (Kp.of_keeps (B := 0) (Ts := []) k.out) (.inl (by simp))
theorem sl_drew {w : World} {B : Nat} {E : TypeId} {size : Nat} {v : Value} {n : Nat} {xs : List Value} (h : Sl w B E size v n xs) : Sl w.drew B E size v n xs := h
theorem job_drew {w : World} {b : Nat} {j : Job} {f : Value} (h : JobAt w b j f) : JobAt w.drew b j f := h.keeps ((Keeps.refl _ _).drew)
theorem pa_drew {B b : Nat} {tail : List Value} {ts : List (Job × Value)} {σ : PSt} {w : World} (h : PA B b tail ts σ w) : PA B b tail ts σ w.drew := h.keeps ((Keeps.refl _ _).drew)
theorem pa_alloc {B b : Nat} {tail : List Value} {ts : List (Job × Value)} {σ : PSt} {w : World} (h : PA B b tail ts σ w) (o : Obj) : PA B b tail ts σ (w.alloc o) := h.keeps ((Keeps.refl _ _).alloc o)
set_option maxHeartbeats 4000000 in
set_option maxRecDepth 100000 in
theorem file_any {B b : Nat} {tail : List Value} {ts : List (Job × Value)} {σ : PSt} {w : World} (h : PA B b tail ts σ w) (s : ByteArray) (p : Int) (ht : ts.length ≤ 1099511627000) :
    Calls Tryd.prog 80 #[.pointer (some ⟨b, 0, none⟩), .string s, .int .i64 p] w (Did B b tail ts (doAct .file s.data.toList p σ) w) := by
  have hk1 : Keeps Non w (w.alloc (.cells #[.pointer (some ⟨b, 0, none⟩)] 89)) := (Keeps.refl _ _).alloc _
  have hb1 := Blk.new w #[.pointer (some ⟨b, 0, none⟩)] 89
  have h1 := h.keeps hk1
  clear h
  by_cases hx : s.data.toList = wExec
  · have hb : (s.toList == [101, 120, 101, 99]) = true := by rw [ByteArray.toList_eq, hx]; rfl
    have HS : Hid (doAct .file s.data.toList p σ = ([.word [[]] .none, .word [wData] .none, .keep 2, .word [wShut] .none], σ)) := by show _ = _; simp only [doAct, hx, if_true]
    clear hx
    go_enter Tryd.func80, Tryd.ntmps80
    go_upto_region 3 with (fail)
    generalize w.heap.size = z at hb1 ⊢
    generalize w.alloc _ = w0 at *
    have HP1 : Hid (PA B b tail ts σ w0) := h1
    have KB1 : Hid (Kp B jobTs w w0) := Kp.of_keeps hk1
    clear h1 hk1
    go_region_held3 (fun w => w.cell? ⟨z, 0, none⟩ = some (.pointer (some ⟨b, 0, none⟩))) (exact Blk.cell (show Blk _ z #[.pointer (some ⟨b, 0, none⟩)] 89 by repeat (first | assumption | refine Blk.alloc ?_ _)) 0) (first
      | (go_at_call 87
         refine (keepw_any b 2 z _ (show Blk _ z _ _ by ((repeat (first | exact hb3 | refine Blk.alloc ?_ _)); (first | done | fail "left")))).mono ?_
         rintro e w4 ⟨f3, rfl, hj, hk⟩
         have HKE4 := Lib.hid hk
         have KB4 : Hid (Kp B jobTs w w4) := (show Kp B jobTs w _ by ((repeat (first | exact KB3.out | refine Kp.alloc ?_ _)); (first | done | fail "left"))).trans (Kp.of_keeps hk)
         have hb4 : Blk w4 z #[.pointer (some ⟨b, 0, none⟩)] 89 := (show Blk _ z _ _ by ((repeat (first | exact hb3 | refine Blk.alloc ?_ _)); (first | done | fail "left"))).keeps hk (fun h => h)
         have HP4 : Hid (PA B b tail ts σ w4) := (show PA B b tail ts σ _ by ((repeat (first | exact HP3.out | refine pa_alloc ?_ _)); (first | done | fail "left"))).keeps hk
         have JX4 : Hid (JobAt w4 b (.word [[]] .none) f1) := (show JobAt _ b _ _ by ((repeat (first | exact JX3.out | refine JobAt.alloc ?_ _)); (first | done | fail "left"))).keeps hk
         have JY4 : Hid (JobAt w4 b (.word [wData] .none) f2) := (show JobAt _ b _ _ by ((repeat (first | exact JY3.out | refine JobAt.alloc ?_ _)); (first | done | fail "left"))).keeps hk
         have JK4 := Lib.hid hj
         clear hj hk)
      | (have g0 := JK4
         go_at_call 51
         refine (word_any b [wShut] .none _ _ (show Sl _ 0 9 1 _ 1 (svs [wShut]) by ((repeat (first | exact putArg _ 1 _ [wShut] _ (by simp) rfl rfl (by simp) | refine Sl.alloc ?_ _ | refine sl_keeps ?_ (by assumption))); (first | done | fail "left")))).mono ?_
         rintro e w5 ⟨f4, rfl, hj, hk⟩
         have HKE5 := Lib.hid hk
         have KB5 : Hid (Kp B jobTs w w5) := (show Kp B jobTs w _ by ((repeat (first | exact KB4.out | refine Kp.alloc ?_ _)); (first | done | fail "left"))).trans (Kp.of_keeps hk)
         have hb5 : Blk w5 z #[.pointer (some ⟨b, 0, none⟩)] 89 := (show Blk _ z _ _ by ((repeat (first | exact hb4 | refine Blk.alloc ?_ _)); (first | done | fail "left"))).keeps hk (fun h => h)
         have HP5 : Hid (PA B b tail ts σ w5) := (show PA B b tail ts σ _ by ((repeat (first | exact HP4.out | refine pa_alloc ?_ _)); (first | done | fail "left"))).keeps hk
         have JX5 : Hid (JobAt w5 b (.word [[]] .none) f1) := (show JobAt _ b _ _ by ((repeat (first | exact JX4.out | refine JobAt.alloc ?_ _)); (first | done | fail "left"))).keeps hk
         have JY5 : Hid (JobAt w5 b (.word [wData] .none) f2) := (show JobAt _ b _ _ by ((repeat (first | exact JY4.out | refine JobAt.alloc ?_ _)); (first | done | fail "left"))).keeps hk
         have JK5 : Hid (JobAt w5 b (.keep 2) f3) := (show JobAt _ b _ _ by ((repeat (first | exact JK4.out | refine JobAt.alloc ?_ _)); (first | done | fail "left"))).keeps hk
         have JZ5 := Lib.hid hj
         clear hj hk)
      | (have g0 := JX2
         go_at_call 51
         refine (word_any b [wData] .none _ _ (show Sl _ 0 9 1 _ 1 (svs [wData]) by ((repeat (first | exact putArg _ 1 _ [wData] _ (by simp) rfl rfl (by simp) | refine Sl.alloc ?_ _ | refine sl_keeps ?_ (by assumption))); (first | done | fail "left")))).mono ?_
         rintro e w3 ⟨f2, rfl, hj, hk⟩
         have HKE3 := Lib.hid hk
         have KB3 : Hid (Kp B jobTs w w3) := (show Kp B jobTs w _ by ((repeat (first | exact KB2.out | refine Kp.alloc ?_ _)); (first | done | fail "left"))).trans (Kp.of_keeps hk)
         have hb3 : Blk w3 z #[.pointer (some ⟨b, 0, none⟩)] 89 := (show Blk _ z _ _ by ((repeat (first | exact hb2 | refine Blk.alloc ?_ _)); (first | done | fail "left"))).keeps hk (fun h => h)
         have HP3 : Hid (PA B b tail ts σ w3) := (show PA B b tail ts σ _ by ((repeat (first | exact HP2.out | refine pa_alloc ?_ _)); (first | done | fail "left"))).keeps hk
         have JX3 : Hid (JobAt w3 b (.word [[]] .none) f1) := (show JobAt _ b _ _ by ((repeat (first | exact JX2.out | refine JobAt.alloc ?_ _)); (first | done | fail "left"))).keeps hk
         have JY3 := Lib.hid hj
         clear hj hk)
      | (go_at_call 51
         refine (word_any b [[]] .none _ _ (sl_drew (show Sl _ 0 9 1 _ 1 (svs [[]]) by ((repeat (first | exact putArg _ 1 _ [[]] _ (by simp) rfl rfl (by simp) | refine Sl.alloc ?_ _ | refine sl_keeps ?_ (by assumption))); (first | done | fail "left"))))).mono ?_
         rintro e w2 ⟨f1, rfl, hj, hk'⟩
         have hk := Keeps.of_drew hk'
         clear hk'
         have HKE2 := Lib.hid hk
         have KB2 : Hid (Kp B jobTs w w2) := (show Kp B jobTs w _ by ((repeat (first | exact KB1.out | refine Kp.alloc ?_ _)); (first | done | fail "left"))).trans (Kp.of_keeps hk)
         have hb2 : Blk w2 z #[.pointer (some ⟨b, 0, none⟩)] 89 := (show Blk _ z _ _ by ((repeat (first | exact hb1 | refine Blk.alloc ?_ _)); (first | done | fail "left"))).keeps hk (fun h => h)
         have HP2 : Hid (PA B b tail ts σ w2) := (show PA B b tail ts σ _ by ((repeat (first | exact HP1.out | refine pa_alloc ?_ _)); (first | done | fail "left"))).keeps hk
         have JX2 := Lib.hid hj
         clear hj hk)
      | (go_at_call 50
         refine (plan_new HP5.out [(.word [[]] .none, f1), (.word [wData] .none, f2), (.keep 2, f3), (.word [wShut] .none, f4)] 4 _ _ rfl rfl rfl (by omega) (by intro t ht; simp only [List.mem_cons, List.not_mem_nil, or_false] at ht; rcases ht with rfl | rfl | rfl | rfl; exact JX5.out; exact JY5.out; exact JK5.out; exact JZ5.out) ht).mono ?_
         rintro e w6 ⟨rfl, h6, k6⟩
         have H6 := Lib.hid h6
         have K6 := Lib.hid k6
         have hb6 := hb5.kp k6 (.inr (by decide))
         clear h6 k6))
    all_goals (
      go_wp2_with fail
      go_end0
      rw [HS.out]
      exact Did.planned rfl rfl H6.out KB5.out K6.out)
  · have hb : (s.toList == [101, 120, 101, 99]) = false := by rw [ByteArray.toList_eq, beq_eq_false_iff_ne]; exact hx
    have HS : Hid (doAct .file s.data.toList p σ = ([.keep 1, .word [wShut] .none], σ)) := by show _ = _; simp only [doAct, if_neg hx]
    clear hx
    go_enter Tryd.func80, Tryd.ntmps80
    go_upto_region 4 with (fail)
    generalize w.heap.size = z at hb1 ⊢
    generalize w.alloc _ = w1 at *
    have H1 := Lib.hid h1
    have K1 := Lib.hid hk1
    clear h1 hk1
    have HKP : Hid (∀ wx, Blk wx z #[.pointer (some ⟨b, 0, none⟩)] 89 → Calls Tryd.prog 87 #[.int .i64 1, .pointer (some ⟨z, 0, none⟩)] wx (KeepPost wx b 1)) := fun wx hbx => keepw_any b 1 z wx hbx
    have HWD : Hid (∀ (v : Value) (wx : World), Sl wx 0 9 1 v [wShut].length (svs [wShut]) → Calls Tryd.prog 51 #[.pointer (some ⟨b, 0, none⟩), .nilFunc, v] wx (WordPost wx b [wShut] .none)) := fun v wx hv => word_any b [wShut] .none v wx hv
    go_region_held3 (fun w => w.cell? ⟨z, 0, none⟩ = some (.pointer (some ⟨b, 0, none⟩))) (first | exact Blk.cell (by assumption) 0 | exact Blk.cell (Blk.drew (by assumption)) 0 | exact Blk.cell (Blk.alloc (by assumption) _) 0 | exact Blk.cell (Blk.alloc (Blk.drew (by assumption)) _) 0) (first
      | (go_at_call 87
         refine (HKP.out _ (by first | exact hb1 | exact Blk.alloc (w := w1.drew) hb1 _)).mono ?_
         rintro e w2 ⟨f1, rfl, hj1, hk2⟩
         have J1 := Lib.hid hj1
         have HKE := Lib.hid hk2
         have K2 : Hid (Keeps Non w w2) := (by first | exact (K1.out.drew).trans hk2 (fun k hk => .inl hk) | exact (K1.out.drew.alloc _).trans hk2 (fun k hk => .inl hk))
         have hb2 : Blk w2 z #[.pointer (some ⟨b, 0, none⟩)] 89 := (by first | exact Blk.keeps (w := w1.drew) hb1 hk2 (fun h => h) | exact Blk.keeps (Blk.alloc (w := w1.drew) hb1 _) hk2 (fun h => h))
         have H2 : Hid (PA B b tail ts σ w2) := (by first | exact H1.out.keeps (((Keeps.refl _ _).drew).trans hk2 (fun k hk => .inl hk)) | exact H1.out.keeps (((Keeps.refl _ _).drew.alloc _).trans hk2 (fun k hk => .inl hk)))
         clear hj1 hk2)
      | (go_at_call 51
         refine (HWD.out _ _ (by first | exact putArg _ 1 _ [wShut] _ rfl rfl rfl (by simp) | exact (putArg w1.drew 1 _ [wShut] _ rfl rfl rfl (by simp)).kp (Kp.of_keeps (B := 0) (Ts := []) HKE.out) (.inl (by simp)))).mono ?_
         rintro e w3 ⟨f2, rfl, hj2, hk3⟩
         have hk23 : Keeps Non w2 w3 := (by first | exact hk3 | exact ((Keeps.refl _ _).alloc _).trans hk3 (fun k hk => .inl hk))
         have J13 := Lib.hid (J1.out.keeps hk23)
         have J2 := Lib.hid hj2
         have K3 := Lib.hid (K2.out.trans hk23 (fun k hk => .inl hk))
         have H3 := Lib.hid (H2.out.keeps hk23)
         have hb3 := hb2.keeps hk23 (fun h => h)
         clear hj2 hk3 hk23)
      | (go_at_call 50
         refine (plan_new H3.out [(.keep 1, f1), (.word [wShut] .none, f2)] 2 _ _ rfl rfl rfl (by omega) (by intro t ht; simp only [List.mem_cons, List.not_mem_nil, or_false] at ht; rcases ht with rfl | rfl; exact J13.out; exact J2.out) ht).mono ?_
         rintro e w4 ⟨rfl, h4, k4⟩
         have H4 := Lib.hid h4
         have K4 := Lib.hid k4
         have hb4 := hb3.kp k4 (.inr (by decide))
         clear h4 k4))
    all_goals (
      go_wp2_with fail
      go_end0
      rw [HS.out]
      exact Did.planned rfl rfl H4.out (Kp.of_keeps K3.out) K4.out)
end Go.Proofs.YtflkafnhhadphaaDoor
