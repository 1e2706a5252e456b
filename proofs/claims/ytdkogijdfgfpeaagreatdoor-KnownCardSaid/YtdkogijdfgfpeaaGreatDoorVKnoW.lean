/- narkeep.Known: the walk. -/
import Derived.Test.YtdkogijdfgfpeaaGreatDoorVKnoN
import Derived.Deep.RegionHeld3
set_option linter.unusedVariables false
namespace Go.Proofs.YtdkogijdfgfpeaaGreatDoor
open Go Go.RowKit
set_option maxHeartbeats 64000000 in
set_option maxRecDepth 100000 in
theorem known_walk (W : World) (htab : Tabs W) :
 Calls Tryz.prog 13 #[] W fun e w' => e = .returned (.bool true) ∧ Keeps Non W w' := by
 have HT := Lib.hid htab
 clear htab
 have kc := fun (w : World) (n : Int) => run_string_one (P := Tryz.prog) 45 5 Tryz.underlying45 Tryz.underlying5 9 Tryz.underlying9 5 w n
 go_enter Tryz.func13, Tryz.ntmps13
 go_wp2_with fail
 refine (nsum_any ⟨#[]⟩ _ (by decide)).mono ?_
 rintro e w1 ⟨rfl, hk1⟩
 have HK1 := Lib.hid hk1
 rw [show sumOf (⟨#[]⟩ : ByteArray).data.toList = ⟨#[37, 35, 34, 132, 228, 156, 242, 203]⟩ from congrArg (fun l : List UInt8 => (⟨l.toArray⟩ : ByteArray)) kSum_nil]
 clear hk1
 go_wp2_with fail
 refine (nsum_any ⟨#[97]⟩ _ (by decide)).mono ?_
 rintro e w2 ⟨rfl, hk2⟩
 have HK2 := Lib.hid (HK1.out.tn hk2)
 rw [show sumOf (⟨#[97]⟩ : ByteArray).data.toList = ⟨#[140, 236, 1, 134, 76, 220, 99, 175]⟩ from congrArg (fun l : List UInt8 => (⟨l.toArray⟩ : ByteArray)) kSum_a]
 clear hk2
 go_wp2_with fail
 refine (npack_good _ kTree _ (Sl.of_new w2 0 (Nat.zero_le _) 49 3 4 (nodeCells kTree) rfl (by simp [maxLen])).rd (HT.out.keeps (HK2.out.alloc _)) kTree_small kTree_wrong kTree_fit).mono ?_
 rintro e w3 ⟨rfl, hk3⟩
 have HK3 := Lib.hid ((HK2.out.alloc _).tn hk3)
 obtain ⟨WT, hWT⟩ : ∃ WT : ByteArray, (⟨(packP kTree).toArray⟩ : ByteArray) = WT := ⟨_, rfl⟩
 rw [hWT]
 have HWT := Lib.hid hWT
 have hb2 : decide (WT = WT) = true := by simp
 clear hk3 hWT
 go_wp2_with fail
 refine (strs_any kWant _ _ (Sl.of_new w3 0 (Nat.zero_le _) 9 1 41 (svs kWant) rfl (by simp [maxLen])).rd kWant_short (by decide)).mono ?_
 rintro e w4 ⟨rfl, hk4⟩
 have HK4 := Lib.hid ((HK3.out.alloc _).tn hk4)
 rw [show (⟨(putAll kWant).toArray⟩ : ByteArray) = WT by rw [← HWT.out, kTree_pack]]
 clear hk4
 go_wp2_with fail
 refine (newStore_any _ (HT.out.keeps HK4.out).top).mono ?_
 rintro e w5 ⟨xb, st, F0, rfl, hxl, hxb, hst, hF1, hF2, hk5⟩
 have HK5 := Lib.hid (HK4.out.tn hk5)
 have HXB := Lib.hid hxb
 have HST := Lib.hid hst
 have HF2 := Lib.hid hF2
 have HFW : Hid (∀ k, F0 k → W.heap.size ≤ k) := fun k hk => Nat.le_trans HK4.out.size (hF1 k hk)
 clear hk5 hxb hst hF1 hF2 hb2 HWT hxl HK1 HK2 HK3 HK4
 unfold pv
 go_wp2_with fail
 refine (leaf_any ⟨#[]⟩ _).mono ?_
 rintro e y0 ⟨a0, c0, rfl, hs, hk⟩
 have HB : Hid (w5.heap.size ≤ y0.heap.size) := hk.size
 have HI : Hid (KIts y0 w5.heap.size [] []) := trivial
 have HL : Hid (Sl y0 w5.heap.size 49 3 (.slice a0 1 c0) 1 (nodeCells [lf []])) := hs
 have HY : Hid (Keeps Non w5 y0) := hk
 clear hs hk
 go_wp2_with fail
 refine (leaf_any ⟨#[]⟩ _).mono ?_
 rintro e y2 ⟨a2, c2, rfl, hs, hk⟩
 have hq : Keeps Non y0 y2 := ((Keeps.refl _ _).alloc _).tn hk
 have HL2 : Hid (Sl y2 w5.heap.size 49 3 (.slice a2 1 c2) 1 (nodeCells [lf []])) := hs.mono (by have := HB.out; simp only [World.size_alloc]; omega)
 have HI2 : Hid (KIts y2 w5.heap.size [.agg #[.string ⟨#[]⟩, .slice a0 1 c0, .slice none 0 0, .int .i64 11], .agg #[.string ⟨#[65]⟩, .slice none 0 0, .slice (some ⟨y0.heap.size, 0, none⟩) 2 2, .int .i64 11]] (kRows.take 2)) := (KIts.snoc (KIt.mk (r := ⟨[65], [], [[98], [97]], 11⟩) (Sl.nil _ _ _ _) ((Sl.of_new y0 w5.heap.size HB.out 9 1 2 (svs [[98], [97]]) rfl (by simp [maxLen])).non hk)) (KIts.snoc (KIt.mk (r := ⟨[], [lf []], [], 11⟩) (HL.out.non hq) (Sl.nil _ _ _ _)) (HI.out.non hq)))
 have HB2 : Hid (w5.heap.size ≤ y2.heap.size) := Nat.le_trans HB.out hq.size
 have HY2 : Hid (Keeps Non w5 y2) := HY.out.tn hq
 clear hq HI HL HB HY
 have HI := HI2
 have HL := HL2
 have HB := HB2
 have HY := HY2
 clear HI2 HL2 HB2 HY2
 clear hs hk
 go_wp2_with fail
 refine (leaf_any ⟨#[]⟩ _).mono ?_
 rintro e y4 ⟨a4, c4, rfl, hs, hk⟩
 have hq : Keeps Non y2 y4 := ((Keeps.refl _ _).alloc _).tn hk
 have HL2 : Hid (Sl y4 w5.heap.size 49 3 (.slice a4 1 c4) 1 (nodeCells [lf []])) := hs.mono (by have := HB.out; simp only [World.size_alloc]; omega)
 have HI2 : Hid (KIts y4 w5.heap.size [.agg #[.string ⟨#[]⟩, .slice a0 1 c0, .slice none 0 0, .int .i64 11], .agg #[.string ⟨#[65]⟩, .slice none 0 0, .slice (some ⟨y0.heap.size, 0, none⟩) 2 2, .int .i64 11], .agg #[.string ⟨#[49, 50, 51, 52, 53, 54, 55, 56, 57, 48, 49, 50, 51]⟩, .slice a2 1 c2, .slice none 0 0, .int .i64 11], .agg #[.string ⟨#[97]⟩, .slice none 0 0, .slice (some ⟨y2.heap.size, 0, none⟩) 2 2, .int .i64 1]] (kRows.take 4)) := (KIts.snoc (KIt.mk (r := ⟨[97], [], [[98], [97]], 1⟩) (Sl.nil _ _ _ _) ((Sl.of_new y2 w5.heap.size HB.out 9 1 2 (svs [[98], [97]]) rfl (by simp [maxLen])).non hk)) (KIts.snoc (KIt.mk (r := ⟨[49, 50, 51, 52, 53, 54, 55, 56, 57, 48, 49, 50, 51], [lf []], [], 11⟩) (HL.out.non hq) (Sl.nil _ _ _ _)) (HI.out.non hq)))
 have HB2 : Hid (w5.heap.size ≤ y4.heap.size) := Nat.le_trans HB.out hq.size
 have HY2 : Hid (Keeps Non w5 y4) := HY.out.tn hq
 clear hq HI HL HB HY
 have HI := HI2
 have HL := HL2
 have HB := HB2
 have HY := HY2
 clear HI2 HL2 HB2 HY2
 clear hs hk
 go_wp2_with fail
 refine (leaf_any ⟨#[]⟩ _).mono ?_
 rintro e y5 ⟨a5, c5, rfl, hs, hk⟩
 have hq : Keeps Non y4 y5 := ((Keeps.refl _ _).alloc _).tn hk
 have HL2 : Hid (Sl y5 w5.heap.size 49 3 (.slice a5 1 c5) 1 (nodeCells [lf []])) := hs.mono (by have := HB.out; simp only [World.size_alloc]; omega)
 have HI2 : Hid (KIts y5 w5.heap.size [.agg #[.string ⟨#[]⟩, .slice a0 1 c0, .slice none 0 0, .int .i64 11], .agg #[.string ⟨#[65]⟩, .slice none 0 0, .slice (some ⟨y0.heap.size, 0, none⟩) 2 2, .int .i64 11], .agg #[.string ⟨#[49, 50, 51, 52, 53, 54, 55, 56, 57, 48, 49, 50, 51]⟩, .slice a2 1 c2, .slice none 0 0, .int .i64 11], .agg #[.string ⟨#[97]⟩, .slice none 0 0, .slice (some ⟨y2.heap.size, 0, none⟩) 2 2, .int .i64 1], .agg #[.string ⟨#[97]⟩, .slice a4 1 c4, .slice (some ⟨y4.heap.size, 0, none⟩) 2 2, .int .i64 7]] (kRows.take 5)) := (KIts.snoc (KIt.mk (r := ⟨[97], [lf []], [[98], [97]], 7⟩) (HL.out.non hq) ((Sl.of_new y4 w5.heap.size HB.out 9 1 2 (svs [[98], [97]]) rfl (by simp [maxLen])).non hk)) (HI.out.non hq))
 have HB2 : Hid (w5.heap.size ≤ y5.heap.size) := Nat.le_trans HB.out hq.size
 have HY2 : Hid (Keeps Non w5 y5) := HY.out.tn hq
 clear hq HI HL HB HY
 have HI := HI2
 have HL := HL2
 have HB := HB2
 have HY := HY2
 clear HI2 HL2 HB2 HY2
 clear hs hk
 go_wp2_with fail
 refine (leaf_any ⟨#[]⟩ _).mono ?_
 rintro e y6 ⟨a6, c6, rfl, hs, hk⟩
 have hq : Keeps Non y5 y6 := ((Keeps.refl _ _).alloc _).tn hk
 have HL2 : Hid (Sl y6 w5.heap.size 49 3 (.slice a6 1 c6) 1 (nodeCells [lf []])) := hs.mono (by have := HB.out; simp only [World.size_alloc]; omega)
 have HI2 : Hid (KIts y6 w5.heap.size [.agg #[.string ⟨#[]⟩, .slice a0 1 c0, .slice none 0 0, .int .i64 11], .agg #[.string ⟨#[65]⟩, .slice none 0 0, .slice (some ⟨y0.heap.size, 0, none⟩) 2 2, .int .i64 11], .agg #[.string ⟨#[49, 50, 51, 52, 53, 54, 55, 56, 57, 48, 49, 50, 51]⟩, .slice a2 1 c2, .slice none 0 0, .int .i64 11], .agg #[.string ⟨#[97]⟩, .slice none 0 0, .slice (some ⟨y2.heap.size, 0, none⟩) 2 2, .int .i64 1], .agg #[.string ⟨#[97]⟩, .slice a4 1 c4, .slice (some ⟨y4.heap.size, 0, none⟩) 2 2, .int .i64 7], .agg #[.string ⟨#[97]⟩, .slice a5 1 c5, .slice (some ⟨y5.heap.size, 0, none⟩) 2 2, .int .i64 7]] (kRows.take 6)) := (KIts.snoc (KIt.mk (r := ⟨[97], [lf []], [[97], [97]], 7⟩) (HL.out.non hq) ((Sl.of_new y5 w5.heap.size HB.out 9 1 2 (svs [[97], [97]]) rfl (by simp [maxLen])).non hk)) (HI.out.non hq))
 have HB2 : Hid (w5.heap.size ≤ y6.heap.size) := Nat.le_trans HB.out hq.size
 have HY2 : Hid (Keeps Non w5 y6) := HY.out.tn hq
 clear hq HI HL HB HY
 have HI := HI2
 have HL := HL2
 have HB := HB2
 have HY := HY2
 clear HI2 HL2 HB2 HY2
 clear hs hk
 go_wp2_with fail
 refine (leaf_any ⟨#[109]⟩ _).mono ?_
 rintro e y7 ⟨a7, c7, rfl, hs, hk⟩
 have hq : Keeps Non y6 y7 := ((Keeps.refl _ _).alloc _).tn hk
 have HL2 : Hid (Sl y7 w5.heap.size 49 3 (.slice a7 1 c7) 1 (nodeCells [lf [109]])) := hs.mono (by have := HB.out; simp only [World.size_alloc]; omega)
 have HI2 : Hid (KIts y7 w5.heap.size [.agg #[.string ⟨#[]⟩, .slice a0 1 c0, .slice none 0 0, .int .i64 11], .agg #[.string ⟨#[65]⟩, .slice none 0 0, .slice (some ⟨y0.heap.size, 0, none⟩) 2 2, .int .i64 11], .agg #[.string ⟨#[49, 50, 51, 52, 53, 54, 55, 56, 57, 48, 49, 50, 51]⟩, .slice a2 1 c2, .slice none 0 0, .int .i64 11], .agg #[.string ⟨#[97]⟩, .slice none 0 0, .slice (some ⟨y2.heap.size, 0, none⟩) 2 2, .int .i64 1], .agg #[.string ⟨#[97]⟩, .slice a4 1 c4, .slice (some ⟨y4.heap.size, 0, none⟩) 2 2, .int .i64 7], .agg #[.string ⟨#[97]⟩, .slice a5 1 c5, .slice (some ⟨y5.heap.size, 0, none⟩) 2 2, .int .i64 7], .agg #[.string ⟨#[97]⟩, .slice a6 1 c6, .slice (some ⟨y6.heap.size, 0, none⟩) 1 1, .int .i64 13]] (kRows.take 7)) := (KIts.snoc (KIt.mk (r := ⟨[97], [lf []], [[98]], 13⟩) (HL.out.non hq) ((Sl.of_new y6 w5.heap.size HB.out 9 1 1 (svs [[98]]) rfl (by simp [maxLen])).non hk)) (HI.out.non hq))
 have HB2 : Hid (w5.heap.size ≤ y7.heap.size) := Nat.le_trans HB.out hq.size
 have HY2 : Hid (Keeps Non w5 y7) := HY.out.tn hq
 clear hq HI HL HB HY
 have HI := HI2
 have HL := HL2
 have HB := HB2
 have HY := HY2
 clear HI2 HL2 HB2 HY2
 clear hs hk
 go_wp2_with fail
 refine (leaf_any ⟨#[109]⟩ _).mono ?_
 rintro e y8 ⟨a8, c8, rfl, hs, hk⟩
 have hq : Keeps Non y7 y8 := ((Keeps.refl _ _).alloc _).tn hk
 have HL2 : Hid (Sl y8 w5.heap.size 49 3 (.slice a8 1 c8) 1 (nodeCells [lf [109]])) := hs.mono (by have := HB.out; simp only [World.size_alloc]; omega)
 have HI2 : Hid (KIts y8 w5.heap.size [.agg #[.string ⟨#[]⟩, .slice a0 1 c0, .slice none 0 0, .int .i64 11], .agg #[.string ⟨#[65]⟩, .slice none 0 0, .slice (some ⟨y0.heap.size, 0, none⟩) 2 2, .int .i64 11], .agg #[.string ⟨#[49, 50, 51, 52, 53, 54, 55, 56, 57, 48, 49, 50, 51]⟩, .slice a2 1 c2, .slice none 0 0, .int .i64 11], .agg #[.string ⟨#[97]⟩, .slice none 0 0, .slice (some ⟨y2.heap.size, 0, none⟩) 2 2, .int .i64 1], .agg #[.string ⟨#[97]⟩, .slice a4 1 c4, .slice (some ⟨y4.heap.size, 0, none⟩) 2 2, .int .i64 7], .agg #[.string ⟨#[97]⟩, .slice a5 1 c5, .slice (some ⟨y5.heap.size, 0, none⟩) 2 2, .int .i64 7], .agg #[.string ⟨#[97]⟩, .slice a6 1 c6, .slice (some ⟨y6.heap.size, 0, none⟩) 1 1, .int .i64 13], .agg #[.string ⟨#[109]⟩, .slice a7 1 c7, .slice (some ⟨y7.heap.size, 0, none⟩) 1 1, .int .i64 0]] (kRows.take 8)) := (KIts.snoc (KIt.mk (r := ⟨[109], [lf [109]], [[109]], 0⟩) (HL.out.non hq) ((Sl.of_new y7 w5.heap.size HB.out 9 1 1 (svs [[109]]) rfl (by simp [maxLen])).non hk)) (HI.out.non hq))
 have HB2 : Hid (w5.heap.size ≤ y8.heap.size) := Nat.le_trans HB.out hq.size
 have HY2 : Hid (Keeps Non w5 y8) := HY.out.tn hq
 clear hq HI HL HB HY
 have HI := HI2
 have HL := HL2
 have HB := HB2
 have HY := HY2
 clear HI2 HL2 HB2 HY2
 clear hs hk
 go_wp2_with fail
 refine (leaf_any ⟨#[110]⟩ _).mono ?_
 rintro e y9 ⟨a9, c9, rfl, hs, hk⟩
 have hq : Keeps Non y8 y9 := ((Keeps.refl _ _).alloc _).tn hk
 have HL2 : Hid (Sl y9 w5.heap.size 49 3 (.slice a9 1 c9) 1 (nodeCells [lf [110]])) := hs.mono (by have := HB.out; simp only [World.size_alloc]; omega)
 have HI2 : Hid (KIts y9 w5.heap.size [.agg #[.string ⟨#[]⟩, .slice a0 1 c0, .slice none 0 0, .int .i64 11], .agg #[.string ⟨#[65]⟩, .slice none 0 0, .slice (some ⟨y0.heap.size, 0, none⟩) 2 2, .int .i64 11], .agg #[.string ⟨#[49, 50, 51, 52, 53, 54, 55, 56, 57, 48, 49, 50, 51]⟩, .slice a2 1 c2, .slice none 0 0, .int .i64 11], .agg #[.string ⟨#[97]⟩, .slice none 0 0, .slice (some ⟨y2.heap.size, 0, none⟩) 2 2, .int .i64 1], .agg #[.string ⟨#[97]⟩, .slice a4 1 c4, .slice (some ⟨y4.heap.size, 0, none⟩) 2 2, .int .i64 7], .agg #[.string ⟨#[97]⟩, .slice a5 1 c5, .slice (some ⟨y5.heap.size, 0, none⟩) 2 2, .int .i64 7], .agg #[.string ⟨#[97]⟩, .slice a6 1 c6, .slice (some ⟨y6.heap.size, 0, none⟩) 1 1, .int .i64 13], .agg #[.string ⟨#[109]⟩, .slice a7 1 c7, .slice (some ⟨y7.heap.size, 0, none⟩) 1 1, .int .i64 0], .agg #[.string ⟨#[109]⟩, .slice a8 1 c8, .slice (some ⟨y8.heap.size, 0, none⟩) 1 1, .int .i64 0]] (kRows.take 9)) := (KIts.snoc (KIt.mk (r := ⟨[109], [lf [109]], [[109]], 0⟩) (HL.out.non hq) ((Sl.of_new y8 w5.heap.size HB.out 9 1 1 (svs [[109]]) rfl (by simp [maxLen])).non hk)) (HI.out.non hq))
 have HB2 : Hid (w5.heap.size ≤ y9.heap.size) := Nat.le_trans HB.out hq.size
 have HY2 : Hid (Keeps Non w5 y9) := HY.out.tn hq
 clear hq HI HL HB HY
 have HI := HI2
 have HL := HL2
 have HB := HB2
 have HY := HY2
 clear HI2 HL2 HB2 HY2
 clear hs hk
 go_wp2_with fail
 refine (leaf_any ⟨#[109]⟩ _).mono ?_
 rintro e y10 ⟨a10, c10, rfl, hs, hk⟩
 have hq : Keeps Non y9 y10 := ((Keeps.refl _ _).alloc _).tn hk
 have HL2 : Hid (Sl y10 w5.heap.size 49 3 (.slice a10 1 c10) 1 (nodeCells [lf [109]])) := hs.mono (by have := HB.out; simp only [World.size_alloc]; omega)
 have HI2 : Hid (KIts y10 w5.heap.size [.agg #[.string ⟨#[]⟩, .slice a0 1 c0, .slice none 0 0, .int .i64 11], .agg #[.string ⟨#[65]⟩, .slice none 0 0, .slice (some ⟨y0.heap.size, 0, none⟩) 2 2, .int .i64 11], .agg #[.string ⟨#[49, 50, 51, 52, 53, 54, 55, 56, 57, 48, 49, 50, 51]⟩, .slice a2 1 c2, .slice none 0 0, .int .i64 11], .agg #[.string ⟨#[97]⟩, .slice none 0 0, .slice (some ⟨y2.heap.size, 0, none⟩) 2 2, .int .i64 1], .agg #[.string ⟨#[97]⟩, .slice a4 1 c4, .slice (some ⟨y4.heap.size, 0, none⟩) 2 2, .int .i64 7], .agg #[.string ⟨#[97]⟩, .slice a5 1 c5, .slice (some ⟨y5.heap.size, 0, none⟩) 2 2, .int .i64 7], .agg #[.string ⟨#[97]⟩, .slice a6 1 c6, .slice (some ⟨y6.heap.size, 0, none⟩) 1 1, .int .i64 13], .agg #[.string ⟨#[109]⟩, .slice a7 1 c7, .slice (some ⟨y7.heap.size, 0, none⟩) 1 1, .int .i64 0], .agg #[.string ⟨#[109]⟩, .slice a8 1 c8, .slice (some ⟨y8.heap.size, 0, none⟩) 1 1, .int .i64 0], .agg #[.string ⟨#[109]⟩, .slice a9 1 c9, .slice (some ⟨y9.heap.size, 0, none⟩) 1 1, .int .i64 12]] (kRows.take 10)) := (KIts.snoc (KIt.mk (r := ⟨[109], [lf [110]], [[109]], 12⟩) (HL.out.non hq) ((Sl.of_new y9 w5.heap.size HB.out 9 1 1 (svs [[109]]) rfl (by simp [maxLen])).non hk)) (HI.out.non hq))
 have HB2 : Hid (w5.heap.size ≤ y10.heap.size) := Nat.le_trans HB.out hq.size
 have HY2 : Hid (Keeps Non w5 y10) := HY.out.tn hq
 clear hq HI HL HB HY
 have HI := HI2
 have HL := HL2
 have HB := HB2
 have HY := HY2
 clear HI2 HL2 HB2 HY2
 clear hs hk
 go_wp2_with fail
 refine (leaf_any ⟨#[110]⟩ _).mono ?_
 rintro e y11 ⟨a11, c11, rfl, hs, hk⟩
 have hq : Keeps Non y10 y11 := hk
 have HL2 : Hid (Sl y11 w5.heap.size 49 3 (.slice a11 1 c11) 1 (nodeCells [lf [110]])) := hs.mono (by have := HB.out; omega)
 have HI2 : Hid (KIts y11 w5.heap.size [.agg #[.string ⟨#[]⟩, .slice a0 1 c0, .slice none 0 0, .int .i64 11], .agg #[.string ⟨#[65]⟩, .slice none 0 0, .slice (some ⟨y0.heap.size, 0, none⟩) 2 2, .int .i64 11], .agg #[.string ⟨#[49, 50, 51, 52, 53, 54, 55, 56, 57, 48, 49, 50, 51]⟩, .slice a2 1 c2, .slice none 0 0, .int .i64 11], .agg #[.string ⟨#[97]⟩, .slice none 0 0, .slice (some ⟨y2.heap.size, 0, none⟩) 2 2, .int .i64 1], .agg #[.string ⟨#[97]⟩, .slice a4 1 c4, .slice (some ⟨y4.heap.size, 0, none⟩) 2 2, .int .i64 7], .agg #[.string ⟨#[97]⟩, .slice a5 1 c5, .slice (some ⟨y5.heap.size, 0, none⟩) 2 2, .int .i64 7], .agg #[.string ⟨#[97]⟩, .slice a6 1 c6, .slice (some ⟨y6.heap.size, 0, none⟩) 1 1, .int .i64 13], .agg #[.string ⟨#[109]⟩, .slice a7 1 c7, .slice (some ⟨y7.heap.size, 0, none⟩) 1 1, .int .i64 0], .agg #[.string ⟨#[109]⟩, .slice a8 1 c8, .slice (some ⟨y8.heap.size, 0, none⟩) 1 1, .int .i64 0], .agg #[.string ⟨#[109]⟩, .slice a9 1 c9, .slice (some ⟨y9.heap.size, 0, none⟩) 1 1, .int .i64 12], .agg #[.string ⟨#[109]⟩, .slice a10 1 c10, .slice none 0 0, .int .i64 12]] (kRows.take 11)) := (KIts.snoc (KIt.mk (r := ⟨[109], [lf [109]], [], 12⟩) (HL.out.non hq) (Sl.nil _ _ _ _)) (HI.out.non hq))
 have HB2 : Hid (w5.heap.size ≤ y11.heap.size) := Nat.le_trans HB.out hq.size
 have HY2 : Hid (Keeps Non w5 y11) := HY.out.tn hq
 clear hq HI HL HB HY
 have HI := HI2
 have HL := HL2
 have HB := HB2
 have HY := HY2
 clear HI2 HL2 HB2 HY2
 clear hs hk
 go_wp2_with fail
 refine (leaf_any ⟨#[122]⟩ _).mono ?_
 rintro e y12 ⟨a12, c12, rfl, hs, hk⟩
 have hq : Keeps Non y11 y12 := ((Keeps.refl _ _).alloc _).tn hk
 have HL2 : Hid (Sl y12 w5.heap.size 49 3 (.slice a12 1 c12) 1 (nodeCells [lf [122]])) := hs.mono (by have := HB.out; simp only [World.size_alloc]; omega)
 have HI2 : Hid (KIts y12 w5.heap.size [.agg #[.string ⟨#[]⟩, .slice a0 1 c0, .slice none 0 0, .int .i64 11], .agg #[.string ⟨#[65]⟩, .slice none 0 0, .slice (some ⟨y0.heap.size, 0, none⟩) 2 2, .int .i64 11], .agg #[.string ⟨#[49, 50, 51, 52, 53, 54, 55, 56, 57, 48, 49, 50, 51]⟩, .slice a2 1 c2, .slice none 0 0, .int .i64 11], .agg #[.string ⟨#[97]⟩, .slice none 0 0, .slice (some ⟨y2.heap.size, 0, none⟩) 2 2, .int .i64 1], .agg #[.string ⟨#[97]⟩, .slice a4 1 c4, .slice (some ⟨y4.heap.size, 0, none⟩) 2 2, .int .i64 7], .agg #[.string ⟨#[97]⟩, .slice a5 1 c5, .slice (some ⟨y5.heap.size, 0, none⟩) 2 2, .int .i64 7], .agg #[.string ⟨#[97]⟩, .slice a6 1 c6, .slice (some ⟨y6.heap.size, 0, none⟩) 1 1, .int .i64 13], .agg #[.string ⟨#[109]⟩, .slice a7 1 c7, .slice (some ⟨y7.heap.size, 0, none⟩) 1 1, .int .i64 0], .agg #[.string ⟨#[109]⟩, .slice a8 1 c8, .slice (some ⟨y8.heap.size, 0, none⟩) 1 1, .int .i64 0], .agg #[.string ⟨#[109]⟩, .slice a9 1 c9, .slice (some ⟨y9.heap.size, 0, none⟩) 1 1, .int .i64 12], .agg #[.string ⟨#[109]⟩, .slice a10 1 c10, .slice none 0 0, .int .i64 12], .agg #[.string ⟨#[109]⟩, .slice a11 1 c11, .slice (some ⟨y11.heap.size, 0, none⟩) 1 1, .int .i64 13]] (kRows.take 12)) := (KIts.snoc (KIt.mk (r := ⟨[109], [lf [110]], [[120]], 13⟩) (HL.out.non hq) ((Sl.of_new y11 w5.heap.size HB.out 9 1 1 (svs [[120]]) rfl (by simp [maxLen])).non hk)) (HI.out.non hq))
 have HB2 : Hid (w5.heap.size ≤ y12.heap.size) := Nat.le_trans HB.out hq.size
 have HY2 : Hid (Keeps Non w5 y12) := HY.out.tn hq
 clear hq HI HL HB HY
 have HI := HI2
 have HL := HL2
 have HB := HB2
 have HY := HY2
 clear HI2 HL2 HB2 HY2
 clear hs hk
 go_wp2_with fail
 refine (leaf_any ⟨#[98]⟩ _).mono ?_
 rintro e y13 ⟨a13, c13, rfl, hs, hk⟩
 have hq : Keeps Non y12 y13 := ((Keeps.refl _ _).alloc _).tn hk
 have HL2 : Hid (Sl y13 w5.heap.size 49 3 (.slice a13 1 c13) 1 (nodeCells [lf [98]])) := hs.mono (by have := HB.out; simp only [World.size_alloc]; omega)
 have HI2 : Hid (KIts y13 w5.heap.size [.agg #[.string ⟨#[]⟩, .slice a0 1 c0, .slice none 0 0, .int .i64 11], .agg #[.string ⟨#[65]⟩, .slice none 0 0, .slice (some ⟨y0.heap.size, 0, none⟩) 2 2, .int .i64 11], .agg #[.string ⟨#[49, 50, 51, 52, 53, 54, 55, 56, 57, 48, 49, 50, 51]⟩, .slice a2 1 c2, .slice none 0 0, .int .i64 11], .agg #[.string ⟨#[97]⟩, .slice none 0 0, .slice (some ⟨y2.heap.size, 0, none⟩) 2 2, .int .i64 1], .agg #[.string ⟨#[97]⟩, .slice a4 1 c4, .slice (some ⟨y4.heap.size, 0, none⟩) 2 2, .int .i64 7], .agg #[.string ⟨#[97]⟩, .slice a5 1 c5, .slice (some ⟨y5.heap.size, 0, none⟩) 2 2, .int .i64 7], .agg #[.string ⟨#[97]⟩, .slice a6 1 c6, .slice (some ⟨y6.heap.size, 0, none⟩) 1 1, .int .i64 13], .agg #[.string ⟨#[109]⟩, .slice a7 1 c7, .slice (some ⟨y7.heap.size, 0, none⟩) 1 1, .int .i64 0], .agg #[.string ⟨#[109]⟩, .slice a8 1 c8, .slice (some ⟨y8.heap.size, 0, none⟩) 1 1, .int .i64 0], .agg #[.string ⟨#[109]⟩, .slice a9 1 c9, .slice (some ⟨y9.heap.size, 0, none⟩) 1 1, .int .i64 12], .agg #[.string ⟨#[109]⟩, .slice a10 1 c10, .slice none 0 0, .int .i64 12], .agg #[.string ⟨#[109]⟩, .slice a11 1 c11, .slice (some ⟨y11.heap.size, 0, none⟩) 1 1, .int .i64 13], .agg #[.string ⟨#[122]⟩, .slice a12 1 c12, .slice (some ⟨y12.heap.size, 0, none⟩) 1 1, .int .i64 0]] (kRows.take 13)) := (KIts.snoc (KIt.mk (r := ⟨[122], [lf [122]], [[109]], 0⟩) (HL.out.non hq) ((Sl.of_new y12 w5.heap.size HB.out 9 1 1 (svs [[109]]) rfl (by simp [maxLen])).non hk)) (HI.out.non hq))
 have HB2 : Hid (w5.heap.size ≤ y13.heap.size) := Nat.le_trans HB.out hq.size
 have HY2 : Hid (Keeps Non w5 y13) := HY.out.tn hq
 clear hq HI HL HB HY
 have HI := HI2
 have HL := HL2
 have HB := HB2
 have HY := HY2
 clear HI2 HL2 HB2 HY2
 clear hs hk
 go_wp2_with fail
 refine (leaf_any ⟨#[97]⟩ _).mono ?_
 rintro e y14 ⟨a14, c14, rfl, hs, hk⟩
 have hq : Keeps Non y13 y14 := ((Keeps.refl _ _).alloc _).tn hk
 have HL2 : Hid (Sl y14 w5.heap.size 49 3 (.slice a14 1 c14) 1 (nodeCells [lf [97]])) := hs.mono (by have := HB.out; simp only [World.size_alloc]; omega)
 have HI2 : Hid (KIts y14 w5.heap.size [.agg #[.string ⟨#[]⟩, .slice a0 1 c0, .slice none 0 0, .int .i64 11], .agg #[.string ⟨#[65]⟩, .slice none 0 0, .slice (some ⟨y0.heap.size, 0, none⟩) 2 2, .int .i64 11], .agg #[.string ⟨#[49, 50, 51, 52, 53, 54, 55, 56, 57, 48, 49, 50, 51]⟩, .slice a2 1 c2, .slice none 0 0, .int .i64 11], .agg #[.string ⟨#[97]⟩, .slice none 0 0, .slice (some ⟨y2.heap.size, 0, none⟩) 2 2, .int .i64 1], .agg #[.string ⟨#[97]⟩, .slice a4 1 c4, .slice (some ⟨y4.heap.size, 0, none⟩) 2 2, .int .i64 7], .agg #[.string ⟨#[97]⟩, .slice a5 1 c5, .slice (some ⟨y5.heap.size, 0, none⟩) 2 2, .int .i64 7], .agg #[.string ⟨#[97]⟩, .slice a6 1 c6, .slice (some ⟨y6.heap.size, 0, none⟩) 1 1, .int .i64 13], .agg #[.string ⟨#[109]⟩, .slice a7 1 c7, .slice (some ⟨y7.heap.size, 0, none⟩) 1 1, .int .i64 0], .agg #[.string ⟨#[109]⟩, .slice a8 1 c8, .slice (some ⟨y8.heap.size, 0, none⟩) 1 1, .int .i64 0], .agg #[.string ⟨#[109]⟩, .slice a9 1 c9, .slice (some ⟨y9.heap.size, 0, none⟩) 1 1, .int .i64 12], .agg #[.string ⟨#[109]⟩, .slice a10 1 c10, .slice none 0 0, .int .i64 12], .agg #[.string ⟨#[109]⟩, .slice a11 1 c11, .slice (some ⟨y11.heap.size, 0, none⟩) 1 1, .int .i64 13], .agg #[.string ⟨#[122]⟩, .slice a12 1 c12, .slice (some ⟨y12.heap.size, 0, none⟩) 1 1, .int .i64 0], .agg #[.string ⟨#[98]⟩, .slice a13 1 c13, .slice (some ⟨y13.heap.size, 0, none⟩) 1 1, .int .i64 0]] (kRows.take 14)) := (KIts.snoc (KIt.mk (r := ⟨[98], [lf [98]], [[109]], 0⟩) (HL.out.non hq) ((Sl.of_new y13 w5.heap.size HB.out 9 1 1 (svs [[109]]) rfl (by simp [maxLen])).non hk)) (HI.out.non hq))
 have HB2 : Hid (w5.heap.size ≤ y14.heap.size) := Nat.le_trans HB.out hq.size
 have HY2 : Hid (Keeps Non w5 y14) := HY.out.tn hq
 clear hq HI HL HB HY
 have HI := HI2
 have HL := HL2
 have HB := HB2
 have HY := HY2
 clear HI2 HL2 HB2 HY2
 clear hs hk
 go_wp2_with fail
 obtain ⟨w6, hw6⟩ : ∃ w6, (y14.alloc (.cells #[.string ⟨#[98]⟩, .string ⟨#[122]⟩] 9)).alloc (.cells (List.toArray (.string ⟨#[]⟩ :: .slice a0 1 c0 :: .slice none 0 0 :: .int .i64 11 :: .string ⟨#[65]⟩ :: .slice none 0 0 :: .slice (some ⟨y0.heap.size, 0, none⟩) 2 2 :: .int .i64 11 :: .string ⟨#[49, 50, 51, 52, 53, 54, 55, 56, 57, 48, 49, 50, 51]⟩ :: .slice a2 1 c2 :: .slice none 0 0 :: .int .i64 11 :: .string ⟨#[97]⟩ :: .slice none 0 0 :: .slice (some ⟨y2.heap.size, 0, none⟩) 2 2 :: .int .i64 1 :: .string ⟨#[97]⟩ :: .slice a4 1 c4 :: .slice (some ⟨y4.heap.size, 0, none⟩) 2 2 :: .int .i64 7 :: .string ⟨#[97]⟩ :: .slice a5 1 c5 :: .slice (some ⟨y5.heap.size, 0, none⟩) 2 2 :: .int .i64 7 :: .string ⟨#[97]⟩ :: .slice a6 1 c6 :: .slice (some ⟨y6.heap.size, 0, none⟩) 1 1 :: .int .i64 13 :: .string ⟨#[109]⟩ :: .slice a7 1 c7 :: .slice (some ⟨y7.heap.size, 0, none⟩) 1 1 :: .int .i64 0 :: .string ⟨#[109]⟩ :: .slice a8 1 c8 :: .slice (some ⟨y8.heap.size, 0, none⟩) 1 1 :: .int .i64 0 :: .string ⟨#[109]⟩ :: .slice a9 1 c9 :: .slice (some ⟨y9.heap.size, 0, none⟩) 1 1 :: .int .i64 12 :: .string ⟨#[109]⟩ :: .slice a10 1 c10 :: .slice none 0 0 :: .int .i64 12 :: .string ⟨#[109]⟩ :: .slice a11 1 c11 :: .slice (some ⟨y11.heap.size, 0, none⟩) 1 1 :: .int .i64 13 :: .string ⟨#[122]⟩ :: .slice a12 1 c12 :: .slice (some ⟨y12.heap.size, 0, none⟩) 1 1 :: .int .i64 0 :: .string ⟨#[98]⟩ :: .slice a13 1 c13 :: .slice (some ⟨y13.heap.size, 0, none⟩) 1 1 :: .int .i64 0 :: .string ⟨#[97]⟩ :: .slice a14 1 c14 :: .slice (some ⟨y14.heap.size, 0, none⟩) 2 2 :: .int .i64 0 :: [])) 60) = w6 := ⟨_, rfl⟩
 rw [hw6]
 obtain ⟨tb, htb⟩ : ∃ tb, y14.heap.size + 1 = tb := ⟨_, rfl⟩
 have HTB : Hid (KTab w6 w5.heap.size tb) := by
  have hq : Keeps Non y14 w6 := by rw [← hw6]; exact ((Keeps.refl _ _).alloc _).alloc _
  have hk : Keeps Non (y14.alloc (.cells #[.string ⟨#[98]⟩, .string ⟨#[122]⟩] 9)) w6 := by rw [← hw6]; exact (Keeps.refl _ _).alloc _
  have hi : KIts w6 w5.heap.size [.agg #[.string ⟨#[]⟩, .slice a0 1 c0, .slice none 0 0, .int .i64 11], .agg #[.string ⟨#[65]⟩, .slice none 0 0, .slice (some ⟨y0.heap.size, 0, none⟩) 2 2, .int .i64 11], .agg #[.string ⟨#[49, 50, 51, 52, 53, 54, 55, 56, 57, 48, 49, 50, 51]⟩, .slice a2 1 c2, .slice none 0 0, .int .i64 11], .agg #[.string ⟨#[97]⟩, .slice none 0 0, .slice (some ⟨y2.heap.size, 0, none⟩) 2 2, .int .i64 1], .agg #[.string ⟨#[97]⟩, .slice a4 1 c4, .slice (some ⟨y4.heap.size, 0, none⟩) 2 2, .int .i64 7], .agg #[.string ⟨#[97]⟩, .slice a5 1 c5, .slice (some ⟨y5.heap.size, 0, none⟩) 2 2, .int .i64 7], .agg #[.string ⟨#[97]⟩, .slice a6 1 c6, .slice (some ⟨y6.heap.size, 0, none⟩) 1 1, .int .i64 13], .agg #[.string ⟨#[109]⟩, .slice a7 1 c7, .slice (some ⟨y7.heap.size, 0, none⟩) 1 1, .int .i64 0], .agg #[.string ⟨#[109]⟩, .slice a8 1 c8, .slice (some ⟨y8.heap.size, 0, none⟩) 1 1, .int .i64 0], .agg #[.string ⟨#[109]⟩, .slice a9 1 c9, .slice (some ⟨y9.heap.size, 0, none⟩) 1 1, .int .i64 12], .agg #[.string ⟨#[109]⟩, .slice a10 1 c10, .slice none 0 0, .int .i64 12], .agg #[.string ⟨#[109]⟩, .slice a11 1 c11, .slice (some ⟨y11.heap.size, 0, none⟩) 1 1, .int .i64 13], .agg #[.string ⟨#[122]⟩, .slice a12 1 c12, .slice (some ⟨y12.heap.size, 0, none⟩) 1 1, .int .i64 0], .agg #[.string ⟨#[98]⟩, .slice a13 1 c13, .slice (some ⟨y13.heap.size, 0, none⟩) 1 1, .int .i64 0], .agg #[.string ⟨#[97]⟩, .slice a14 1 c14, .slice (some ⟨y14.heap.size, 0, none⟩) 2 2, .int .i64 0]] kRows := (KIts.snoc (KIt.mk (r := ⟨[97], [lf [97]], [[98], [122]], 0⟩) (HL.out.non hq) ((Sl.of_new y14 w5.heap.size HB.out 9 1 2 (svs [[98], [122]]) rfl (by simp [maxLen])).non hk)) (HI.out.non hq))
  refine KTab.of hi (by have := HB.out; omega) (T := 60) ?_
  have h := Blk.new (y14.alloc (.cells #[.string ⟨#[98]⟩, .string ⟨#[122]⟩] 9)) (List.toArray (.string ⟨#[]⟩ :: .slice a0 1 c0 :: .slice none 0 0 :: .int .i64 11 :: .string ⟨#[65]⟩ :: .slice none 0 0 :: .slice (some ⟨y0.heap.size, 0, none⟩) 2 2 :: .int .i64 11 :: .string ⟨#[49, 50, 51, 52, 53, 54, 55, 56, 57, 48, 49, 50, 51]⟩ :: .slice a2 1 c2 :: .slice none 0 0 :: .int .i64 11 :: .string ⟨#[97]⟩ :: .slice none 0 0 :: .slice (some ⟨y2.heap.size, 0, none⟩) 2 2 :: .int .i64 1 :: .string ⟨#[97]⟩ :: .slice a4 1 c4 :: .slice (some ⟨y4.heap.size, 0, none⟩) 2 2 :: .int .i64 7 :: .string ⟨#[97]⟩ :: .slice a5 1 c5 :: .slice (some ⟨y5.heap.size, 0, none⟩) 2 2 :: .int .i64 7 :: .string ⟨#[97]⟩ :: .slice a6 1 c6 :: .slice (some ⟨y6.heap.size, 0, none⟩) 1 1 :: .int .i64 13 :: .string ⟨#[109]⟩ :: .slice a7 1 c7 :: .slice (some ⟨y7.heap.size, 0, none⟩) 1 1 :: .int .i64 0 :: .string ⟨#[109]⟩ :: .slice a8 1 c8 :: .slice (some ⟨y8.heap.size, 0, none⟩) 1 1 :: .int .i64 0 :: .string ⟨#[109]⟩ :: .slice a9 1 c9 :: .slice (some ⟨y9.heap.size, 0, none⟩) 1 1 :: .int .i64 12 :: .string ⟨#[109]⟩ :: .slice a10 1 c10 :: .slice none 0 0 :: .int .i64 12 :: .string ⟨#[109]⟩ :: .slice a11 1 c11 :: .slice (some ⟨y11.heap.size, 0, none⟩) 1 1 :: .int .i64 13 :: .string ⟨#[122]⟩ :: .slice a12 1 c12 :: .slice (some ⟨y12.heap.size, 0, none⟩) 1 1 :: .int .i64 0 :: .string ⟨#[98]⟩ :: .slice a13 1 c13 :: .slice (some ⟨y13.heap.size, 0, none⟩) 1 1 :: .int .i64 0 :: .string ⟨#[97]⟩ :: .slice a14 1 c14 :: .slice (some ⟨y14.heap.size, 0, none⟩) 2 2 :: .int .i64 0 :: [])) 60
  rw [hw6, World.size_alloc, htb] at h
  exact h
 have HY6 : Hid (Keeps Non w5 w6) := by rw [← hw6]; exact (HY.out.alloc _).alloc _
 rw [htb]
 clear HI HL HB HY hw6
 have HF0 : Hid (∀ b, F0 b → b < w5.heap.size) := HST.out.lt
 have HTP : Hid (∀ b, F0 b → tabTop ≤ b) := HST.out.top
 have HT6 : Hid (Tabs w6) := HT.out.keeps (HK5.out.tn HY6.out)
 have HX6 : Hid (Blk w6 xb #[pv st] 36) := HXB.out.keeps HY6.out fun h => h
 have HXL : Hid (xb < w5.heap.size) := HXB.out.lt
 have HS6 : Hid (StoreAt w6 F0 st (kSt 0)) := HST.out.non HY6.out
 have HKW : Hid (Keeps Non W w6) := HK5.out.tn HY6.out
 have hsz5 := HY6.out.size
 clear HK5 HXB HST
 go_wp2_with fail
 go_loopg [119] 15 (fun gk iv wr => ∃ (i : Nat) (F : Nat → Prop), gk = 15 - i ∧ i ≤ 15 ∧ iv = .int .i64 i ∧ Hid (StoreAt wr F st (kSt i)) ∧ Hid (∀ k, F k → F0 k ∨ w6.heap.size ≤ k) ∧ Hid (Keeps F0 w6 wr))
 case atStart => exact ⟨0, F0, rfl, by omega, rfl, HS6, (fun k h => .inl h), Keeps.refl _ _⟩
 case round =>
  obtain ⟨i, F, rfl, hi, rfl, HSI, HFI, HKI⟩ := hrel
  by_cases hlt : i < 15
  ·refine Classical.byContradiction fun hn => ?_
   letI hI : Nonempty (KGoal hn) := Nonempty.intro (by
    delta KGoal
    clear hn
    obtain ⟨r, hr⟩ : ∃ r, kRows[i]? = some r := ⟨_, List.getElem?_eq_getElem hlt⟩
    obtain ⟨s1, s2, s3, s4, s5⟩ := kSmall (List.mem_of_getElem? hr)
    obtain ⟨c, T, h1, h2, h3⟩ := HTB.out.keeps HKI.out HF0.out
    obtain ⟨vt, vr, g0, g1, g2, g3, ht, hf⟩ := h3 i r hr
    have c0 : wr.cell? ⟨tb, i * 4, none⟩ = some (.string ⟨r.name.toArray⟩) := (h1.cell _).trans g0
    have c1 : wr.cell? ⟨tb, i * 4 + 1, none⟩ = some vt := (h1.cell _).trans g1
    have c2 : wr.cell? ⟨tb, i * 4 + 2, none⟩ = some vr := (h1.cell _).trans g2
    have c3 : wr.cell? ⟨tb, i * 4 + 3, none⟩ = some (.int .i64 r.e) := (h1.cell _).trans g3
    obtain ⟨ta, tc, rfl, -, -⟩ := ht.shape
    obtain ⟨ra, rc, rfl, -, -⟩ := hf.shape
    have q2 : (0 : Int) ≤ (i : Int) := by omega
    have q3 : (i : Int) < 15 := by omega
    have HR := Lib.hid hr
    have HTT := Lib.hid ht
    have HTR := Lib.hid hf
    clear h1 h2 h3 g0 g1 g2 g3 hr ht hf
    go_upto_region 15 with (fail)
    obtain ⟨w7, hw7⟩ : ∃ w7, wr.alloc (.cells #[.string ⟨r.name.toArray⟩, .slice ta r.l.length tc, .slice ra r.refs.length rc, .int .i64 r.e] 60) = w7 := ⟨_, rfl⟩
    obtain ⟨lb, hlb⟩ : ∃ lb, wr.heap.size = lb := ⟨_, rfl⟩
    have hk7 : Keeps Non wr w7 := by rw [← hw7]; exact (Keeps.refl _ _).alloc _
    have HLB : Hid (Blk w7 lb #[.string ⟨r.name.toArray⟩, .slice ta r.l.length tc, .slice ra r.refs.length rc, .int .i64 r.e] 60) := by rw [← hw7, ← hlb]; exact Blk.new _ _ _
    have HLO : Hid (∀ b, F b → b < lb) := by rw [← hlb]; exact HSI.out.lt
    have HLS : Hid (w6.heap.size ≤ lb) := by rw [← hlb]; exact HKI.out.size
    rw [hw7, hlb]
    have d0 : w7.cell? ⟨lb, 0, none⟩ = some (.string ⟨r.name.toArray⟩) := HLB.out.cell 0
    have d1 : w7.cell? ⟨lb, 1, none⟩ = some (.slice ta r.l.length tc) := HLB.out.cell 1
    have d2 : w7.cell? ⟨lb, 2, none⟩ = some (.slice ra r.refs.length rc) := HLB.out.cell 2
    have hx := (HX6.out.keeps HKI.out HF2.out).keeps hk7 fun h => h
    have cx : w7.cell? ⟨xb, 0, none⟩ = some (.pointer (some ⟨st, 0, none⟩)) := hx.cell 0
    have HT7 : Hid (Tabs w7) := (HT6.out.below (HKI.out.below HT6.out.top fun k hk h => by have := HTP.out k h; omega) (Nat.le_refl _)).keeps hk7
    have HS7 := Lib.hid (HSI.out.non hk7)
    have HIN : Hid (Calls Tryz.prog 24 #[.pointer (some ⟨st, 0, none⟩), .string ⟨r.name.toArray⟩, .slice ta r.l.length tc, .slice ra r.refs.length rc] w7.drew (InsPost w7.drew F st (r.e, kSt (i + 1)))) := by
     rw [← kRow_ins HR.out]
     exact insert_any _ (HS7.out.non (Keeps.refl _ _).drew) (HT7.out.keeps (Keeps.refl _ _).drew) ⟨r.name.toArray⟩ (by show r.name.toArray.size ≤ _; simp; omega) r.l _ ((HTT.out.rd.non hk7).non (Keeps.refl _ _).drew) s2 (by omega) r.refs _ ((HTR.out.rd.non hk7).non (Keeps.refl _ _).drew) (by omega) (fun p hp => by have := s5 p hp; omega)
    have HK7 := Lib.hid hk7
    have HCC : Hid (∀ wx, Keeps Non w7 wx → (wx.cell? ⟨lb, 0, none⟩ = some (.string ⟨r.name.toArray⟩) ∧ wx.cell? ⟨lb, 1, none⟩ = some (.slice ta r.l.length tc)) ∧ wx.cell? ⟨lb, 2, none⟩ = some (.slice ra r.refs.length rc) ∧ wx.cell? ⟨xb, 0, none⟩ = some (.pointer (some ⟨st, 0, none⟩))) := fun wx hk =>
     have h1 := HLB.out.keeps hk fun h => h
     ⟨⟨h1.cell 0, h1.cell 1⟩, h1.cell 2, (hx.keeps hk fun h => h).cell 0⟩
    have b1 : (r.e == r.e) = true := by simp
    have b2 : (r.e != r.e) = false := by simp
    clear hx c0 c1 c2 c3 hk7 hw7
    have hc : Keeps Non w7 w7 := Keeps.refl _ _
    go_region_with (first
     | (go_at_call 24
        with_reducible refine HIN.out.mono ?_
        rintro e w8 ⟨rfl, ⟨F', hs8, hf8⟩, hk8⟩
        have HSN := Lib.hid hs8
        have HFN := Lib.hid hf8
        have HKN := Lib.hid hk8.un
        clear hs8 hf8 hk8))
    all_goals (
     have d3 : w8.cell? ⟨lb, 3, none⟩ = some (.int .i64 r.e) := (HLB.out.keeps HKN.out fun h => by have := HLO.out lb h; omega).cell 3
     go_wp2_with fail
     go_roundg (15 - (i + 1))
     case measure => omega
     case rel =>
      exact ⟨i + 1, F', rfl, by omega, by go_num, HSN, (fun k hk => by
       rcases HFN.out k hk with h | h
       ·exact HFI.out k h
       ·exact .inr (Nat.le_trans HLS.out (Nat.le_trans (Nat.le_of_lt HLB.out.lt) h.1))), (HKI.out.trans HK7.out fun _ h => h.elim).trans HKN.out HFI.out⟩))
   exact hn ((inferInstanceAs (Nonempty (KGoal hn)) : Nonempty (KGoal hn)).elim id)
  ·have hi2 : i = 15 := by omega
   subst hi2
   have HX9 : Hid (Blk wr xb #[pv st] 36) := HX6.out.keeps HKI.out HF2.out
   have HT9 : Hid (Tabs wr) := HT6.out.below (HKI.out.below HT6.out.top fun k hk h => by have := HTP.out k h; omega) (Nat.le_refl _)
   have HKW9 : Hid (Keeps Non W wr) := HKW.out.trans HKI.out fun k hk => .inr (HFW.out k hk)
   have HFX : Hid (¬ F xb) := fun h => by
    rcases HFI.out xb h with h1 | h1
    ·exact HF2.out h1
    ·have := HXL.out
     omega
   have HFG : Hid (∀ k, F k → W.heap.size ≤ k) := fun k h => by
    rcases HFI.out k h with h1 | h1
    ·exact HFW.out k h1
    ·exact Nat.le_trans HKW.out.size h1
   generalize wr = w9 at *
   clear HTB HY6 HF0 HTP HT6 HX6 HXL HS6 HKW hsz5 HFI HKI HFW HF2 hlt hi HT
   have HKN : Hid (Keeps Non w9 w9) := Keeps.refl _ _
   have cx : w9.cell? ⟨xb, 0, none⟩ = some (.pointer (some ⟨st, 0, none⟩)) := HX9.out.cell 0
   go_wp2_with fail
   refine (closure_any _ (HSI.out.non ((Keeps.refl _ _).alloc _)) [[97]] _ (krd_one w9 [97]) (by simp) (by simp)).mono ?_
   rintro e w10 (⟨⟨r, hr, hrn⟩, -, -⟩ | ⟨-, K, v, hRO, rfl, hso, hk10⟩)
   ·exact absurd hrn (kFound (by rw [List.mem_singleton.1 hr]; decide))
   rw [(kreach_clos HSI.out.ok hRO kReach).trans kClos] at hso
   have HKN : Hid (Keeps Non w9 w10) := ((Keeps.refl _ _).alloc _).tn hk10
   obtain ⟨oa, oc, rfl, ho1, ho2⟩ := hso.shape
   obtain ⟨b1, o1, c1, hsh, -, -, -, -, hcc1, -⟩ := hso.pos (by decide)
   obtain ⟨rfl, rfl⟩ : oa = some ⟨b1, o1, none⟩ ∧ oc = c1 := by injection hsh with g1 g2 g3; exact ⟨g1, g3⟩
   have c0 : w10.cell? ⟨b1, o1, none⟩ = some (.string ⟨#[109]⟩) := hcc1 0 (by decide)
   have c1' : w10.cell? ⟨b1, o1 + 1, none⟩ = some (.string ⟨#[98]⟩) := hcc1 1 (by decide)
   have c2 : w10.cell? ⟨b1, o1 + 2, none⟩ = some (.string ⟨#[122]⟩) := hcc1 2 (by decide)
   have c3 : w10.cell? ⟨b1, o1 + 3, none⟩ = some (.string ⟨#[97]⟩) := hcc1 3 (by decide)
   rw [show ([[109], [98], [122], [97]] : List (List UInt8)).length = 4 from rfl]
   clear hso hk10 hRO hsh hcc1 cx
   have cx : w10.cell? ⟨xb, 0, none⟩ = some (.pointer (some ⟨st, 0, none⟩)) := (HX9.out.keeps HKN.out fun h => h).cell 0
   go_wp2_with fail
   refine (export_any _ ((HSI.out.non HKN.out).non ((Keeps.refl _ _).alloc _)) [[98], [109]] _ (Sl.of_new w10 0 (Nat.zero_le _) 9 1 2 (svs [[98], [109]]) rfl (by simp [maxLen])).rd (by simp) (by simp)).mono ?_
   rintro e w11 ⟨E, T, hx, rfl, hk⟩
   obtain ⟨rfl, rfl⟩ : E = 0 ∧ T = kExp := by
    rcases hx with ⟨⟨r, hr, hrn⟩, -, -⟩ | ⟨-, K2, hK2, rfl, rfl⟩
    ·exact absurd hrn (kFound (by
      simp only [List.mem_cons, List.not_mem_nil, or_false] at hr ⊢
      rcases hr with rfl | rfl <;> simp))
    ·exact ⟨rfl, by rw [kreach_clos HSI.out.ok hK2 kReach2, kExp_is]⟩
   have HKN2 : Hid (Keeps Non w9 w11) := HKN.out.tn (((Keeps.refl _ _).alloc _).tn hk)
   clear HKN hk hx c0 c1' c2 c3
   have HKN := HKN2
   clear HKN2
   obtain ⟨XB, hXB⟩ : ∃ XB : ByteArray, (⟨kExp.toArray⟩ : ByteArray) = XB := ⟨_, rfl⟩
   rw [hXB]
   have HXB := Lib.hid hXB
   clear hXB
   go_wp2_with fail
   refine (leaf_any ⟨#[109]⟩ _).mono ?_
   rintro e w12 ⟨la, lc, rfl, hs, hk⟩
   have HKN2 : Hid (Keeps Non w9 w12) := HKN.out.tn hk
   have HLS := Lib.hid hs.rd
   clear HKN hk hs
   have HKN := HKN2
   clear HKN2
   go_wp2_with fail
   refine (npack_good _ [lf [109]] _ HLS.out (HT9.out.keeps HKN.out) (small_of (by decide +kernel)) (by decide +kernel) (by decide +kernel)).mono ?_
   rintro e w13 ⟨rfl, hk⟩
   have HKN2 : Hid (Keeps Non w9 w13) := HKN.out.tn hk
   clear HKN hk HLS
   have HKN := HKN2
   clear HKN2
   obtain ⟨ONE, hONE⟩ : ∃ ONE : ByteArray, (⟨(packP [lf [109]]).toArray⟩ : ByteArray) = ONE := ⟨_, rfl⟩
   rw [hONE]
   have HONE : Hid ((⟨(kOne).toArray⟩ : ByteArray) = ONE) := hONE
   have zONE : ONE.size ≤ 2000 := by rw [← hONE]; decide +kernel
   clear hONE
   go_wp2_with fail
   refine (leaf_any ⟨#[98]⟩ _).mono ?_
   rintro e w14 ⟨la, lc, rfl, hs, hk⟩
   have HKN2 : Hid (Keeps Non w9 w14) := HKN.out.tn hk
   have HLS := Lib.hid hs.rd
   clear HKN hk hs
   have HKN := HKN2
   clear HKN2
   go_wp2_with fail
   refine (npack_good _ [lf [98]] _ HLS.out (HT9.out.keeps HKN.out) (small_of (by decide +kernel)) (by decide +kernel) (by decide +kernel)).mono ?_
   rintro e w15 ⟨rfl, hk⟩
   have HKN2 : Hid (Keeps Non w9 w15) := HKN.out.tn hk
   clear HKN hk HLS
   have HKN := HKN2
   clear HKN2
   obtain ⟨TWO, hTWO⟩ : ∃ TWO : ByteArray, (⟨(packP [lf [98]]).toArray⟩ : ByteArray) = TWO := ⟨_, rfl⟩
   rw [hTWO]
   have HTWO : Hid ((⟨(kTwo).toArray⟩ : ByteArray) = TWO) := hTWO
   have zTWO : TWO.size ≤ 2000 := by rw [← hTWO]; decide +kernel
   clear hTWO
   go_wp2_with fail
   refine (strs_any [wExport, wPath, [109]] _ _ (Sl.of_new w15 0 (Nat.zero_le _) 9 1 3 (svs [wExport, wPath, [109]]) rfl (by simp [maxLen])).rd (by decide +kernel) (by simp)).mono ?_
   rintro e w16 ⟨rfl, hk⟩
   have HKN2 : Hid (Keeps Non w9 w16) := HKN.out.tn (((Keeps.refl _ _).alloc _).tn hk)
   clear HKN hk
   have HKN := HKN2
   clear HKN2
   obtain ⟨S1, hS1⟩ : ∃ S1 : ByteArray, (⟨(putAll [wExport, wPath, [109]]).toArray⟩ : ByteArray) = S1 := ⟨_, rfl⟩
   rw [hS1]
   have HS1 := Lib.hid hS1
   have zS1 : S1.size ≤ 2000 := by rw [← hS1]; decide +kernel
   clear hS1
   go_wp2_with fail
   refine (nsum_any ONE _ (Nat.le_trans zONE (by decide))).mono ?_
   rintro e w17 ⟨rfl, hk⟩
   have HKN2 : Hid (Keeps Non w9 w17) := HKN.out.tn hk
   clear HKN hk
   have HKN := HKN2
   clear HKN2
   obtain ⟨SM, hsm⟩ : ∃ SM : ByteArray, sumOf ONE.data.toList = SM := ⟨_, rfl⟩
   have HSO := Lib.hid hsm
   have HSM : Hid (kSum = SM.data.toList) := by show _ = _; rw [← hsm, kSum_of HONE.out rfl]
   have zSM : SM.size ≤ 2000 := by rw [← dlen, ← HSM.out]; decide +kernel
   clear hsm
   rw [HSO.out]
   go_wp2_with fail
   refine (strs_any [wRefs, wRef, [109], wSum, SM.data.toList, wPath, [98]] _ _ (Sl.of_new w17 0 (Nat.zero_le _) 9 1 7 (svs [wRefs, wRef, [109], wSum, SM.data.toList, wPath, [98]]) rfl (by simp [maxLen])).rd (by rw [← HSM.out]; decide +kernel) (by simp)).mono ?_
   rintro e w18 ⟨rfl, hk⟩
   have HKN2 : Hid (Keeps Non w9 w18) := HKN.out.tn (((Keeps.refl _ _).alloc _).tn hk)
   clear HKN hk
   have HKN := HKN2
   clear HKN2
   obtain ⟨S2, hS2⟩ : ∃ S2 : ByteArray, (⟨(putAll [wRefs, wRef, [109], wSum, SM.data.toList, wPath, [98]]).toArray⟩ : ByteArray) = S2 := ⟨_, rfl⟩
   rw [hS2]
   have HS2 := Lib.hid hS2
   have zS2 : S2.size ≤ 2000 := by rw [← hS2]; rw [← HSM.out]; decide +kernel
   clear hS2
   go_wp2_with fail
   refine (nsum_any TWO _ (Nat.le_trans zTWO (by decide))).mono ?_
   rintro e w19 ⟨rfl, hk⟩
   have HKN2 : Hid (Keeps Non w9 w19) := HKN.out.tn hk
   clear HKN hk
   have HKN := HKN2
   clear HKN2
   obtain ⟨SM2, hsm⟩ : ∃ SM : ByteArray, sumOf TWO.data.toList = SM := ⟨_, rfl⟩
   have HSO2 := Lib.hid hsm
   have HSM2 : Hid (kSum2 = SM2.data.toList) := by show _ = _; rw [← hsm, kSum2_of HTWO.out rfl]
   have zSM2 : SM2.size ≤ 2000 := by rw [← dlen, ← HSM2.out]; decide +kernel
   clear hsm
   rw [HSO2.out]
   go_wp2_with fail
   refine (strs_any [wRefs, wRef, [109], wSum, SM2.data.toList, wEnd] _ _ (Sl.of_new w19 0 (Nat.zero_le _) 9 1 6 (svs [wRefs, wRef, [109], wSum, SM2.data.toList, wEnd]) rfl (by simp [maxLen])).rd (by rw [← HSM2.out]; decide +kernel) (by simp)).mono ?_
   rintro e w20 ⟨rfl, hk⟩
   have HKN2 : Hid (Keeps Non w9 w20) := HKN.out.tn (((Keeps.refl _ _).alloc _).tn hk)
   clear HKN hk
   have HKN := HKN2
   clear HKN2
   obtain ⟨S3, hS3⟩ : ∃ S3 : ByteArray, (⟨(putAll [wRefs, wRef, [109], wSum, SM2.data.toList, wEnd]).toArray⟩ : ByteArray) = S3 := ⟨_, rfl⟩
   rw [hS3]
   have HS3 := Lib.hid hS3
   have zS3 : S3.size ≤ 2000 := by rw [← hS3]; rw [← HSM2.out]; decide +kernel
   clear hS3
   rw [show XB = S1 ++ ONE ++ S2 ++ TWO ++ S3 by rw [← HXB.out, ← HS1.out, ← HONE.out, ← HS2.out, ← HTWO.out, ← HS3.out, ← ba_app, ← ba_app, ← ba_app, ← ba_app, ← HSM.out, ← HSM2.out]; rfl]
   clear HXB HS1 HS2 HS3
   clear cx
   have cx : w20.cell? ⟨xb, 0, none⟩ = some (.pointer (some ⟨st, 0, none⟩)) := (HX9.out.keeps HKN.out fun h => h).cell 0
   go_wp2_with fail
   refine (export_any _ (HSI.out.non HKN.out) [] _ (Sl.nil w20 0 9 1).rd (by simp) (by simp)).mono ?_
   rintro e w21 ⟨E, T, hx, rfl, hk⟩
   obtain ⟨rfl, rfl⟩ : E = 0 ∧ T = kNone := by
    rcases hx with ⟨⟨r, hr, hrn⟩, -, -⟩ | ⟨-, K2, hK2, rfl, rfl⟩
    ·cases hr
    ·exact ⟨rfl, by rw [kreach_clos HSI.out.ok hK2 kReach0, kExp0_is]⟩
   have HKN2 : Hid (Keeps Non w9 w21) := HKN.out.tn hk
   clear HKN hk hx
   have HKN := HKN2
   clear HKN2
   obtain ⟨NB, hNB⟩ : ∃ NB : ByteArray, (⟨kNone.toArray⟩ : ByteArray) = NB := ⟨_, rfl⟩
   rw [hNB]
   have HNB := Lib.hid hNB
   have zNB : NB.size ≤ 2000 := by rw [← hNB]; decide +kernel
   clear hNB
   go_wp2_with fail
   refine (strs_any [wExport, wEnd] _ _ (Sl.of_new w21 0 (Nat.zero_le _) 9 1 2 (svs [wExport, wEnd]) rfl (by simp [maxLen])).rd (by decide +kernel) (by simp)).mono ?_
   rintro e w22 ⟨rfl, hk⟩
   have HKN2 : Hid (Keeps Non w9 w22) := HKN.out.tn (((Keeps.refl _ _).alloc _).tn hk)
   clear HKN hk
   have HKN := HKN2
   clear HKN2
   obtain ⟨S4, hS4⟩ : ∃ S4 : ByteArray, (⟨(putAll [wExport, wEnd]).toArray⟩ : ByteArray) = S4 := ⟨_, rfl⟩
   rw [hS4]
   have HS4 := Lib.hid hS4
   have zS4 : S4.size ≤ 2000 := by rw [← hS4]; decide +kernel
   clear hS4
   rw [show S4 = NB by rw [← HS4.out, ← HNB.out]; rfl]
   clear HS4 zS4
   go_wp2_with fail
   refine (strs_any [wExport, wPath] _ _ (Sl.of_new w22 0 (Nat.zero_le _) 9 1 2 (svs [wExport, wPath]) rfl (by simp [maxLen])).rd (by decide +kernel) (by simp)).mono ?_
   rintro e w23 ⟨rfl, hk⟩
   have HKN2 : Hid (Keeps Non w9 w23) := HKN.out.tn (((Keeps.refl _ _).alloc _).tn hk)
   clear HKN hk
   have HKN := HKN2
   clear HKN2
   obtain ⟨KP, hKP⟩ : ∃ KP : ByteArray, (⟨(putAll [wExport, wPath]).toArray⟩ : ByteArray) = KP := ⟨_, rfl⟩
   rw [hKP]
   have HKP := Lib.hid hKP
   have zKP : KP.size ≤ 2000 := by rw [← hKP]; decide +kernel
   clear hKP
   go_wp2_with fail
   refine (strs_any [[109]] _ _ (Sl.of_new w23 0 (Nat.zero_le _) 9 1 1 (svs [[109]]) rfl (by simp [maxLen])).rd (by decide +kernel) (by simp)).mono ?_
   rintro e w24 ⟨rfl, hk⟩
   have HKN2 : Hid (Keeps Non w9 w24) := HKN.out.tn (((Keeps.refl _ _).alloc _).tn hk)
   clear HKN hk
   have HKN := HKN2
   clear HKN2
   obtain ⟨T1, hT1⟩ : ∃ T1 : ByteArray, (⟨(putAll [[109]]).toArray⟩ : ByteArray) = T1 := ⟨_, rfl⟩
   rw [hT1]
   have HT1 := Lib.hid hT1
   have zT1 : T1.size ≤ 2000 := by rw [← hT1]; decide +kernel
   clear hT1
   go_wp2_with fail
   refine (strs_any [wRefs] _ _ (Sl.of_new w24 0 (Nat.zero_le _) 9 1 1 (svs [wRefs]) rfl (by simp [maxLen])).rd (by decide +kernel) (by simp)).mono ?_
   rintro e w25 ⟨rfl, hk⟩
   have HKN2 : Hid (Keeps Non w9 w25) := HKN.out.tn (((Keeps.refl _ _).alloc _).tn hk)
   clear HKN hk
   have HKN := HKN2
   clear HKN2
   obtain ⟨T2, hT2⟩ : ∃ T2 : ByteArray, (⟨(putAll [wRefs]).toArray⟩ : ByteArray) = T2 := ⟨_, rfl⟩
   rw [hT2]
   have HT2 := Lib.hid hT2
   have zT2 : T2.size ≤ 2000 := by rw [← hT2]; decide +kernel
   clear hT2
   go_upto_region 32 with (fail)
   obtain ⟨WH, hWH⟩ : ∃ WH : ByteArray, KP ++ T1 ++ ONE ++ T2 = WH := ⟨_, rfl⟩
   rw [hWH]
   have HWH : Hid ((⟨kWhole.toArray⟩ : ByteArray) = WH) := by show _ = _; rw [← hWH, ← HKP.out, ← HT1.out, ← HONE.out, ← HT2.out, ← ba_app, ← ba_app, ← ba_app]; rfl
   have nWH : Hid ((WH.size : Int) = 176) := by show _ = _; rw [← HWH.out]; decide +kernel
   have zWH : WH.size ≤ 2000 := by rw [← HWH.out]; decide +kernel
   have q16 : IntKind.i64.wrap ((WH.size : Int) + 16) = 192 := by rw [nWH.out]; rfl
   have q32 : IntKind.i64.wrap ((WH.size : Int) + 32) = 208 := by rw [nWH.out]; rfl
   have q48 : IntKind.i64.wrap ((WH.size : Int) + 48) = 224 := by rw [nWH.out]; rfl
   have nNB : Hid ((NB.size : Int) = 32) := by show _ = _; rw [← HNB.out]; decide +kernel
   clear hWH HT1 HT2 zT1 zT2
   go_wp2_with fail
   rw [nNB.out]
   refine (strs_any [[101, 120, 112, 111, 114, 116, 45, 50]] _ _ (Sl.of_new w25 0 (Nat.zero_le _) 9 1 1 (svs [[101, 120, 112, 111, 114, 116, 45, 50]]) rfl (by simp [maxLen])).rd (by decide +kernel) (by simp)).mono ?_
   rintro e w26 ⟨rfl, hk⟩
   have HKN2 : Hid (Keeps Non w9 w26) := HKN.out.tn (((Keeps.refl _ _).alloc _).tn hk)
   clear HKN hk
   have HKN := HKN2
   clear HKN2
   obtain ⟨A2, hA2⟩ : ∃ A2 : ByteArray, (⟨(putAll [[101, 120, 112, 111, 114, 116, 45, 50]]).toArray⟩ : ByteArray) = A2 := ⟨_, rfl⟩
   rw [hA2]
   have HA2 := Lib.hid hA2
   have zA2 : A2.size ≤ 2000 := by rw [← hA2]; decide +kernel
   clear hA2
   go_wp2_with fail
   refine (strs_any [wExport] _ _ (Sl.of_new w26 0 (Nat.zero_le _) 9 1 1 (svs [wExport]) rfl (by simp [maxLen])).rd (by decide +kernel) (by simp)).mono ?_
   rintro e w27 ⟨rfl, hk⟩
   have HKN2 : Hid (Keeps Non w9 w27) := HKN.out.tn (((Keeps.refl _ _).alloc _).tn hk)
   clear HKN hk
   have HKN := HKN2
   clear HKN2
   obtain ⟨A3, hA3⟩ : ∃ A3 : ByteArray, (⟨(putAll [wExport]).toArray⟩ : ByteArray) = A3 := ⟨_, rfl⟩
   rw [hA3]
   have HA3 := Lib.hid hA3
   have zA3 : A3.size ≤ 2000 := by rw [← hA3]; decide +kernel
   clear hA3
   go_wp2_with fail
   refine (strs_any [[77]] _ _ (Sl.of_new w27 0 (Nat.zero_le _) 9 1 1 (svs [[77]]) rfl (by simp [maxLen])).rd (by decide +kernel) (by simp)).mono ?_
   rintro e w28 ⟨rfl, hk⟩
   have HKN2 : Hid (Keeps Non w9 w28) := HKN.out.tn (((Keeps.refl _ _).alloc _).tn hk)
   clear HKN hk
   have HKN := HKN2
   clear HKN2
   obtain ⟨A4, hA4⟩ : ∃ A4 : ByteArray, (⟨(putAll [[77]]).toArray⟩ : ByteArray) = A4 := ⟨_, rfl⟩
   rw [hA4]
   have HA4 := Lib.hid hA4
   have zA4 : A4.size ≤ 2000 := by rw [← hA4]; decide +kernel
   clear hA4
   go_wp2_with fail
   refine (strs_any [kLong] _ _ (Sl.of_new w28 0 (Nat.zero_le _) 9 1 1 (svs [kLong]) rfl (by simp [maxLen])).rd (by decide +kernel) (by simp)).mono ?_
   rintro e w29 ⟨rfl, hk⟩
   have HKN2 : Hid (Keeps Non w9 w29) := HKN.out.tn (((Keeps.refl _ _).alloc _).tn hk)
   clear HKN hk
   have HKN := HKN2
   clear HKN2
   obtain ⟨A5, hA5⟩ : ∃ A5 : ByteArray, (⟨(putAll [kLong]).toArray⟩ : ByteArray) = A5 := ⟨_, rfl⟩
   rw [hA5]
   have HA5 := Lib.hid hA5
   have zA5 : A5.size ≤ 2000 := by rw [← hA5]; decide +kernel
   clear hA5
   go_wp2_with fail
   refine (strs_any [[109], [110, 97, 114, 45, 50]] _ _ (Sl.of_new w29 0 (Nat.zero_le _) 9 1 2 (svs [[109], [110, 97, 114, 45, 50]]) rfl (by simp [maxLen])).rd (by decide +kernel) (by simp)).mono ?_
   rintro e w30 ⟨rfl, hk⟩
   have HKN2 : Hid (Keeps Non w9 w30) := HKN.out.tn (((Keeps.refl _ _).alloc _).tn hk)
   clear HKN hk
   have HKN := HKN2
   clear HKN2
   obtain ⟨A6, hA6⟩ : ∃ A6 : ByteArray, (⟨(putAll [[109], [110, 97, 114, 45, 50]]).toArray⟩ : ByteArray) = A6 := ⟨_, rfl⟩
   rw [hA6]
   have HA6 := Lib.hid hA6
   have zA6 : A6.size ≤ 2000 := by rw [← hA6]; decide +kernel
   clear hA6
   go_wp2_with fail
   refine (strs_any [wEnd] _ _ (Sl.of_new w30 0 (Nat.zero_le _) 9 1 1 (svs [wEnd]) rfl (by simp [maxLen])).rd (by decide +kernel) (by simp)).mono ?_
   rintro e w31 ⟨rfl, hk⟩
   have HKN2 : Hid (Keeps Non w9 w31) := HKN.out.tn (((Keeps.refl _ _).alloc _).tn hk)
   clear HKN hk
   have HKN := HKN2
   clear HKN2
   obtain ⟨A7, hA7⟩ : ∃ A7 : ByteArray, (⟨(putAll [wEnd]).toArray⟩ : ByteArray) = A7 := ⟨_, rfl⟩
   rw [hA7]
   have HA7 := Lib.hid hA7
   have zA7 : A7.size ≤ 2000 := by rw [← hA7]; decide +kernel
   clear hA7
   go_wp2_with fail
   rw [nWH.out]
   refine (strs_any [wRef, [113]] _ _ (Sl.of_new w31 0 (Nat.zero_le _) 9 1 2 (svs [wRef, [113]]) rfl (by simp [maxLen])).rd (by decide +kernel) (by simp)).mono ?_
   rintro e w32 ⟨rfl, hk⟩
   have HKN2 : Hid (Keeps Non w9 w32) := HKN.out.tn (((Keeps.refl _ _).alloc _).tn hk)
   clear HKN hk
   have HKN := HKN2
   clear HKN2
   obtain ⟨A8, hA8⟩ : ∃ A8 : ByteArray, (⟨(putAll [wRef, [113]]).toArray⟩ : ByteArray) = A8 := ⟨_, rfl⟩
   rw [hA8]
   have HA8 := Lib.hid hA8
   have zA8 : A8.size ≤ 2000 := by rw [← hA8]; decide +kernel
   clear hA8
   go_wp2_with fail
   refine (strs_any [wRef, [109], wRef, [109]] _ _ (Sl.of_new w32 0 (Nat.zero_le _) 9 1 4 (svs [wRef, [109], wRef, [109]]) rfl (by simp [maxLen])).rd (by decide +kernel) (by simp)).mono ?_
   rintro e w33 ⟨rfl, hk⟩
   have HKN2 : Hid (Keeps Non w9 w33) := HKN.out.tn (((Keeps.refl _ _).alloc _).tn hk)
   clear HKN hk
   have HKN := HKN2
   clear HKN2
   obtain ⟨A9, hA9⟩ : ∃ A9 : ByteArray, (⟨(putAll [wRef, [109], wRef, [109]]).toArray⟩ : ByteArray) = A9 := ⟨_, rfl⟩
   rw [hA9]
   have HA9 := Lib.hid hA9
   have zA9 : A9.size ≤ 2000 := by rw [← hA9]; decide +kernel
   clear hA9
   go_wp2_with fail
   refine (strs_any [wSum, [49, 50, 51, 52, 53, 54, 55, 56]] _ _ (Sl.of_new w33 0 (Nat.zero_le _) 9 1 2 (svs [wSum, [49, 50, 51, 52, 53, 54, 55, 56]]) rfl (by simp [maxLen])).rd (by decide +kernel) (by simp)).mono ?_
   rintro e w34 ⟨rfl, hk⟩
   have HKN2 : Hid (Keeps Non w9 w34) := HKN.out.tn (((Keeps.refl _ _).alloc _).tn hk)
   clear HKN hk
   have HKN := HKN2
   clear HKN2
   obtain ⟨A10, hA10⟩ : ∃ A10 : ByteArray, (⟨(putAll [wSum, [49, 50, 51, 52, 53, 54, 55, 56]]).toArray⟩ : ByteArray) = A10 := ⟨_, rfl⟩
   rw [hA10]
   have HA10 := Lib.hid hA10
   have zA10 : A10.size ≤ 2000 := by rw [← hA10]; decide +kernel
   clear hA10
   go_wp2_with fail
   refine (nsum_any ONE _ (Nat.le_trans zONE (by decide))).mono ?_
   rintro e w35 ⟨rfl, hk⟩
   have HKN2 : Hid (Keeps Non w9 w35) := HKN.out.tn hk
   clear HKN hk
   have HKN := HKN2
   clear HKN2
   rw [HSO.out]
   go_wp2_with fail
   refine (strs_any [wSum, SM.data.toList] _ _ (Sl.of_new w35 0 (Nat.zero_le _) 9 1 2 (svs [wSum, SM.data.toList]) rfl (by simp [maxLen])).rd (by rw [← HSM.out]; decide +kernel) (by simp)).mono ?_
   rintro e w36 ⟨rfl, hk⟩
   have HKN2 : Hid (Keeps Non w9 w36) := HKN.out.tn (((Keeps.refl _ _).alloc _).tn hk)
   clear HKN hk
   have HKN := HKN2
   clear HKN2
   obtain ⟨A11, hA11⟩ : ∃ A11 : ByteArray, (⟨(putAll [wSum, SM.data.toList]).toArray⟩ : ByteArray) = A11 := ⟨_, rfl⟩
   rw [hA11]
   have HA11 := Lib.hid hA11
   have zA11 : A11.size ≤ 2000 := by rw [← hA11]; rw [← HSM.out]; decide +kernel
   clear hA11
   go_wp2_with fail
   refine (nsum_any ONE _ (Nat.le_trans zONE (by decide))).mono ?_
   rintro e w37 ⟨rfl, hk⟩
   have HKN2 : Hid (Keeps Non w9 w37) := HKN.out.tn hk
   clear HKN hk
   have HKN := HKN2
   clear HKN2
   rw [HSO.out]
   go_wp2_with fail
   refine (strs_any [wSum, SM.data.toList, wPath, [109]] _ _ (Sl.of_new w37 0 (Nat.zero_le _) 9 1 4 (svs [wSum, SM.data.toList, wPath, [109]]) rfl (by simp [maxLen])).rd (by rw [← HSM.out]; decide +kernel) (by simp)).mono ?_
   rintro e w38 ⟨rfl, hk⟩
   have HKN2 : Hid (Keeps Non w9 w38) := HKN.out.tn (((Keeps.refl _ _).alloc _).tn hk)
   clear HKN hk
   have HKN := HKN2
   clear HKN2
   obtain ⟨A12, hA12⟩ : ∃ A12 : ByteArray, (⟨(putAll [wSum, SM.data.toList, wPath, [109]]).toArray⟩ : ByteArray) = A12 := ⟨_, rfl⟩
   rw [hA12]
   have HA12 := Lib.hid hA12
   have zA12 : A12.size ≤ 2000 := by rw [← hA12]; rw [← HSM.out]; decide +kernel
   clear hA12
   go_wp2_with fail
   refine (nsum_any ONE _ (Nat.le_trans zONE (by decide))).mono ?_
   rintro e w39 ⟨rfl, hk⟩
   have HKN2 : Hid (Keeps Non w9 w39) := HKN.out.tn hk
   clear HKN hk
   have HKN := HKN2
   clear HKN2
   rw [HSO.out]
   go_wp2_with fail
   refine (strs_any [wSum, SM.data.toList, wEnd] _ _ (Sl.of_new w39 0 (Nat.zero_le _) 9 1 3 (svs [wSum, SM.data.toList, wEnd]) rfl (by simp [maxLen])).rd (by rw [← HSM.out]; decide +kernel) (by simp)).mono ?_
   rintro e w40 ⟨rfl, hk⟩
   have HKN2 : Hid (Keeps Non w9 w40) := HKN.out.tn (((Keeps.refl _ _).alloc _).tn hk)
   clear HKN hk
   have HKN := HKN2
   clear HKN2
   obtain ⟨A13, hA13⟩ : ∃ A13 : ByteArray, (⟨(putAll [wSum, SM.data.toList, wEnd]).toArray⟩ : ByteArray) = A13 := ⟨_, rfl⟩
   rw [hA13]
   have HA13 := Lib.hid hA13
   have zA13 : A13.size ≤ 2000 := by rw [← hA13]; rw [← HSM.out]; decide +kernel
   clear hA13
   go_wp2_with fail
   obtain ⟨wt, hwt⟩ : ∃ wt, w40.alloc (.cells (List.toArray (.string NB :: .int .i64 0 :: .int .i64 0 :: .string (NB ++ ⟨#[120]⟩) :: .int .i64 10 :: .int .i64 32 :: .string A2 :: .int .i64 5 :: .int .i64 0 :: .string A3 :: .int .i64 2 :: .int .i64 16 :: .string (KP ++ A4) :: .int .i64 11 :: .int .i64 32 :: .string (KP ++ A5) :: .int .i64 3 :: .int .i64 32 :: .string (KP ++ A6) :: .int .i64 5 :: .int .i64 48 :: .string (WH ++ A7) :: .int .i64 5 :: .int .i64 176 :: .string (WH ++ A8) :: .int .i64 13 :: .int .i64 192 :: .string (WH ++ A9) :: .int .i64 7 :: .int .i64 224 :: .string (WH ++ A10) :: .int .i64 16 :: .int .i64 192 :: .string (WH ++ A11) :: .int .i64 2 :: .int .i64 208 :: .string (WH ++ A12) :: .int .i64 7 :: .int .i64 224 :: .string (WH ++ A13) :: .int .i64 0 :: .int .i64 0 :: [])) 62) = wt := ⟨_, rfl⟩
   rw [hwt]
   obtain ⟨tb2, htb2⟩ : ∃ tb2, w40.heap.size = tb2 := ⟨_, rfl⟩
   rw [htb2]
   have HTB2 : Hid (KTab2 wt tb2) := by
    rw [← hwt, ← htb2]
    refine KTab2.of (Blk.new _ _ _) ?_
    rw [← HNB.out, ← HKP.out, ← HWH.out, ← HA2.out, ← HA3.out, ← HA4.out, ← HA5.out, ← HA6.out, ← HA7.out, ← HA8.out, ← HA9.out, ← HA10.out, ← HA11.out, ← HA12.out, ← HA13.out]
    simp only [← ba_app]
    rw [← HSM.out]
    rfl
   have HKT : Hid (Keeps Non w9 wt) := by rw [← hwt]; exact HKN.out.alloc _
   clear HKN cx hwt htb2 q16 q32 q48 HWH nWH nNB HNB HKP HA2 zA2 HA3 zA3 HA4 zA4 HA5 zA5 HA6 zA6 HA7 zA7 HA8 zA8 HA9 zA9 HA10 zA10 HA11 zA11 HA12 zA12 HA13 zA13
   have HXT : Hid (Blk wt xb #[pv st] 36) := HX9.out.keeps HKT.out fun h => h
   have HTT9 : Hid (Tabs wt) := HT9.out.keeps HKT.out
   go_wp2_with fail
   go_loopg [339] 14 (fun gk iv wr => ∃ i : Nat, gk = 14 - i ∧ i ≤ 14 ∧ iv = .int .i64 i ∧ Hid (Keeps Non wt wr))
   case atStart => exact ⟨0, rfl, by omega, rfl, Keeps.refl _ _⟩
   case round =>
    obtain ⟨i, rfl, hi, rfl, HKI⟩ := hrel
    by_cases hlt : i < 14
    ·refine Classical.byContradiction fun hn => ?_
     letI hI : Nonempty (KGoal hn) := Nonempty.intro (by
      delta KGoal
      clear hn
      obtain ⟨r, hr⟩ : ∃ r, kImps[i]? = some r := ⟨_, List.getElem?_eq_getElem hlt⟩
      have hsl := kimp_len hr
      obtain ⟨OUT, L2, hbad, hsum⟩ := kimp_sum hr
      obtain ⟨c, T, h1, h3⟩ := HTB2.out.non HKI.out
      obtain ⟨g0, g1, g2⟩ := h3 i r hr
      have c0 : wr.cell? ⟨tb2, i * 3, none⟩ = some (.string ⟨r.s.toArray⟩) := (h1.cell _).trans g0
      have c1 : wr.cell? ⟨tb2, i * 3 + 1, none⟩ = some (.int .i64 r.e) := (h1.cell _).trans g1
      have c2 : wr.cell? ⟨tb2, i * 3 + 2, none⟩ = some (.int .i64 r.at') := (h1.cell _).trans g2
      have q2 : (0 : Int) ≤ (i : Int) := by omega
      have q3 : (i : Int) < 14 := by omega
      have HBAD := Lib.hid hbad
      have HSUM := Lib.hid hsum
      clear h1 h3 g0 g1 g2 hr hbad hsum
      go_upto_region 35 with (fail)
      obtain ⟨x1, hx1⟩ : ∃ x1, wr.alloc (.cells #[.string ⟨r.s.toArray⟩, .int .i64 r.e, .int .i64 r.at'] 62) = x1 := ⟨_, rfl⟩
      obtain ⟨lb, hlb⟩ : ∃ lb, wr.heap.size = lb := ⟨_, rfl⟩
      have hk1 : Keeps Non wr x1 := by rw [← hx1]; exact (Keeps.refl _ _).alloc _
      have HLB : Hid (Blk x1 lb #[.string ⟨r.s.toArray⟩, .int .i64 r.e, .int .i64 r.at'] 62) := by rw [← hx1, ← hlb]; exact Blk.new _ _ _
      rw [hx1, hlb]
      have HK1 : Hid (Keeps Non wt x1) := HKI.out.tn hk1
      have HT1 : Hid (Tabs x1) := HTT9.out.keeps HK1.out
      clear hx1 hlb hk1 c0 c1 c2
      go_wp2_with fail
      refine (newStore_any x1 HT1.out.top).mono ?_
      rintro e x2 ⟨yb, su, FY, rfl, hyl, hyb, hst, hF1, hF2, hk2⟩
      have HLB2 : Hid (Blk x2 lb #[.string ⟨r.s.toArray⟩, .int .i64 r.e, .int .i64 r.at'] 62) := HLB.out.keeps hk2 fun h => h
      have HYB := Lib.hid hyb
      have HST2 := Lib.hid hst
      have HFY := Lib.hid hF1
      have HFN := Lib.hid hF2
      have HK2 : Hid (Keeps Non wt x2) := HK1.out.tn hk2
      have HTW : Hid (Tabs x2) := HT1.out.keeps hk2
      have HLY : Hid (¬ FY lb) := fun h => by
       have := hF1 lb h
       have := HLB.out.lt
       omega
      have HCC : Hid (∀ wx, Keeps FY x2 wx → wx.cell? ⟨yb, 0, none⟩ = some (.pointer (some ⟨su, 0, none⟩)) ∧ wx.cell? ⟨lb, 0, none⟩ = some (.string ⟨r.s.toArray⟩)) := fun wx hk => by
       have h1 := (HYB.out.keeps hk HFN.out).cell 0
       simp only [List.getElem?_toArray, List.getElem?_cons_zero] at h1
       exact ⟨h1, (HLB2.out.keeps hk HLY.out).cell 0⟩
      have HCD : Hid (∀ wx, Keeps FY x2 wx → wx.cell? ⟨lb, 1, none⟩ = some (.int .i64 r.e) ∧ wx.cell? ⟨lb, 2, none⟩ = some (.int .i64 r.at')) := fun wx hk =>
       ⟨(HLB2.out.keeps hk HLY.out).cell 1, (HLB2.out.keeps hk HLY.out).cell 2⟩
      have HNF : Hid (∀ wx, Keeps Non x2 wx → Keeps FY x2 wx) := fun wx h => h.mono fun _ _ h => h.elim
      have hc : Keeps Non x2 x2 := Keeps.refl _ _
      have HIM : Hid (Calls Tryz.prog 21 #[.pointer (some ⟨su, 0, none⟩), .slice (some ⟨x2.heap.size, 0, none⟩) 1 1] (x2.alloc (.cells #[.string ⟨r.s.toArray⟩] 9)).drew fun ed w' =>
       ∃ a c, ed = .returned (.tuple #[.slice a OUT.length c, .int .i64 r.e, .int .i64 r.at']) ∧ KImV x2 FY su OUT L2 (.slice a OUT.length c) w') := by
       have hs0 : StoreAt (x2.alloc (.cells #[.string ⟨r.s.toArray⟩] 9)).drew FY su [] := (HST2.out.non ((Keeps.refl _ _).alloc _)).non (Keeps.refl _ _).drew
       refine (import_any _ hs0 (HTW.out.keeps (((Keeps.refl _ _).alloc _).drew)) [r.s] (.slice (some ⟨x2.heap.size, 0, none⟩) 1 1) ((krd_one x2 r.s).non (Keeps.refl _ _).drew) (by simp; omega) (by simp)).mono fun ed w' hp => ?_
       have hfl1 : [r.s].flatten = r.s := by simp
       rw [hfl1] at hp
       obtain ⟨a, c, h1, h2⟩ := HSUM.out _ _ _ _ _ hs0 hp
       exact ⟨a, c, h1, h2.before ((Keeps.refl _ _).alloc _).drew⟩
      obtain ⟨cy, d0⟩ := HCC.out _ (HNF.out _ hc)
      clear hyl hyb hst hF1 hF2 hk2
      unfold pv
      go_upto_region 36 with (fail)
      go_region_held3 (fun w' => w'.cell? ⟨yb, 0, none⟩ = some (.pointer (some ⟨su, 0, none⟩)) ∧ w'.cell? ⟨lb, 0, none⟩ = some (.string ⟨r.s.toArray⟩)) (with_reducible first | exact ⟨cy, d0⟩ | exact HCC.out _ (HNF.out _ hc) | exact HCC.out _ (HNF.out _ hc.drew) | exact HCC.out _ (HNF.out _ (hc.alloc _).drew)) (first
       | (go_at_call 21
          with_reducible refine HIM.out.mono ?_
          rintro e x3 ⟨ia, ic, rfl, hiv⟩
          have HIV := Lib.hid hiv
          clear hiv
          obtain ⟨cy, d0⟩ := HCC.out _ HIV.out.kp))
      all_goals (
       obtain ⟨cy, d0⟩ := HCC.out _ HIV.out.kp
       obtain ⟨d1, d2⟩ := HCD.out _ HIV.out.kp
       have HK3 : Hid (Keeps Non wt x3) := HK2.out.trans HIV.out.kp fun k hk => .inr (Nat.le_trans HK1.out.size (HFY.out k hk))
       have e2 : (r.at' != r.at') = false := by simp
       by_cases he : r.e = 0
       ·have e1 : (r.e != r.e) = false := by simp
        have e3 : (r.e != 0) = false := by simp [he]
        clear he
        go_wp2_with fail
        go_roundg (14 - (i + 1))
        case measure => omega
        case rel => exact ⟨i + 1, rfl, by omega, by go_num, HK3⟩
       ·have e1 : (r.e != r.e) = false := by simp
        have e3 : (r.e != 0) = true := by simp [he]
        obtain ⟨rfl, rfl⟩ := HBAD.out he
        obtain ⟨F3, hst3, -, -⟩ := HIV.out.st
        have HPA := Lib.hid (paths_any x3 hst3)
        unfold pv at HPA
        clear he hst3
        simp only [List.length_nil] at HPA ⊢
        go_wp2_with fail
        refine HPA.out.mono ?_
        rintro e x4 ⟨v4, rfl, hs4, hk4⟩
        obtain ⟨pa, pc, rfl, -, -⟩ := hs4.shape
        have HK4 : Hid (Keeps Non wt x4) := HK3.out.tn hk4
        clear hs4 hk4 HPA cy
        go_wp2_with fail
        go_roundg (14 - (i + 1))
        case measure => omega
        case rel => exact ⟨i + 1, rfl, by omega, by go_num, HK4⟩))
     exact hn ((inferInstanceAs (Nonempty (KGoal hn)) : Nonempty (KGoal hn)).elim id)
    ·have hi2 : i = 14 := by omega
     subst hi2
     have HK39 : Hid (Keeps Non w9 wr) := HKT.out.tn HKI.out
     have HA0 : Hid (KAt wr wr F xb st (kSix 0)) := by
      rw [kSix_zero]
      exact KAt.start (HSI.out.non HK39.out) (HT9.out.keeps HK39.out) (HX9.out.keeps HK39.out fun h => h) HFX.out
     have HKWS : Hid (Keeps Non W wr) := HKW9.out.tn HK39.out
     clear HK39 HKI HTB2 HXT HTT9 HKT HX9 HT9 HSI HKW9 HFX hlt hi
     generalize wr = ws at *
     go_wp2_with fail
     go_loopg [385] 6 (fun gk iv wr => ∃ j : Nat, gk = 6 - j ∧ j ≤ 6 ∧ iv = .int .i64 j ∧ Hid (KAt ws wr F xb st (kSix j)))
     case atStart => exact ⟨0, rfl, by omega, rfl, HA0⟩
     case round =>
      obtain ⟨j, rfl, hj, rfl, HA⟩ := hrel
      have cx := HA.out.cell
      by_cases hlt : j < 6
      ·refine Classical.byContradiction fun hn => ?_
       letI hI : Nonempty (KGoal hn) := Nonempty.intro (by
        delta KGoal
        clear hn
        have q2 : (0 : Int) ≤ (j : Int) := by omega
        have q3 : (j : Int) < 6 := by omega
        have e1 : IntKind.u8.wrap (48 + (j : Int)) = 48 + (j : Int) := by rw [IntKind.wrap]; simp [IntKind.bits, IntKind.signed]; omega
        have e2 : IntKind.i64.wrap (48 + (j : Int)) = 48 + (j : Int) := IntWalk.i64_in _ (by omega)
        obtain ⟨KB, hKB⟩ : ∃ KB : ByteArray, (⟨#[UInt8.ofNat (48 + j)]⟩ : ByteArray) = KB := ⟨_, rfl⟩
        obtain ⟨NM, hNM⟩ : ∃ NM : ByteArray, (⟨#[107]⟩ : ByteArray) ++ KB = NM := ⟨_, rfl⟩
        have HKB := Lib.hid hKB
        have HNM := Lib.hid hNM
        have zKB : KB.size = 1 := by rw [← hKB]; rfl
        have hadd : ∀ W : World, (Op.stringOp .add (⟨#[107]⟩ : ByteArray) KB).run Tryz.prog W = .ok (.string NM) W := fun W => by
         rw [run_string_add_sum W _ _ (by show 1 + KB.size ≤ _; omega), hNM]
        have hq := kByteD hKB wr
        have HAA : Hid (KAt ws (wr.alloc (.cells #[.int .u8 (48 + (j : Int))] 5)).drew F xb st (kSix j)) := HA.out.non ((Keeps.refl _ _).alloc _).drew
        have cxa : (wr.alloc (.cells #[.int .u8 (48 + (j : Int))] 5)).drew.cell? ⟨xb, 0, none⟩ = some (.pointer (some ⟨st, 0, none⟩)) := HAA.out.cell
        have cxd : wr.drew.cell? ⟨xb, 0, none⟩ = some (.pointer (some ⟨st, 0, none⟩)) := cx
        clear kc hKB hNM
        go_upto_region 43 with (fail)
        go_region_with (first
         | (go_at_call 29
            with_reducible refine (leaf_any ⟨#[]⟩ wr.drew).mono ?_
            rintro e wl ⟨la, lc, rfl, hs, hk⟩
            have HRD : Hid (Rd wl 3 (.slice la 1 lc) 1 (nodeCells [lf []])) := hs.rd
            have HA2 : Hid (KAt ws wl F xb st (kSix j)) := HA.out.non ((Keeps.refl _ _).drew.tn hk)
            have HA3 : Hid (KAt ws (wl.alloc (.cells #[.int .u8 (48 + (j : Int))] 5)) F xb st (kSix j)) := HA2.out.non ((Keeps.refl _ _).alloc _)
            have cx1 := HA2.out.cell
            have cx2 := HA3.out.cell
            have hq1 := kByteN HKB.out wl
            have HINS : Hid (Calls Tryz.prog 24 #[.pointer (some ⟨st, 0, none⟩), .string NM, .slice la 1 lc, .slice none 0 0] (wl.alloc (.cells #[.int .u8 (48 + (j : Int))] 5)) fun ed w' => ed = .returned (.int .i64 0) ∧ KAt ws w' F xb st (kSix (j + 1))) := by
             rw [← HNM.out]
             exact HA3.out.six hlt HKB.out la lc (HRD.out.non ((Keeps.refl _ _).alloc _))
            clear hs hk HA HAA HRD HA2 HA3 cx cxa cxd hq)
         | (go_at_call 29
            with_reducible refine (leaf_any ⟨#[]⟩ (wr.alloc (.cells #[.int .u8 (48 + (j : Int))] 5)).drew).mono ?_
            rintro e wl ⟨la, lc, rfl, hs, hk⟩
            have HRD : Hid (Rd wl 3 (.slice la 1 lc) 1 (nodeCells [lf []])) := hs.rd
            have HA2 : Hid (KAt ws wl F xb st (kSix j)) := HAA.out.non hk
            have cx1 := HA2.out.cell
            have hq1 := kByteK HKB.out wr wl hk
            have HINS : Hid (Calls Tryz.prog 24 #[.pointer (some ⟨st, 0, none⟩), .string NM, .slice la 1 lc, .slice none 0 0] wl fun ed w' => ed = .returned (.int .i64 0) ∧ KAt ws w' F xb st (kSix (j + 1))) := by
             rw [← HNM.out]
             exact HA2.out.six hlt HKB.out la lc HRD.out
            clear hs hk HA HAA HRD HA2 cx cxa cxd hq)
         | (go_at_call 24
            with_reducible refine HINS.out.mono ?_
            rintro e wi ⟨rfl, ha⟩
            have HA9 := Lib.hid ha
            clear ha HINS))
        all_goals (
         go_wp2_with fail
         go_roundg (6 - (j + 1))
         case measure => omega
         case rel => exact ⟨j + 1, rfl, by omega, by go_num, HA9⟩))
       exact hn ((inferInstanceAs (Nonempty (KGoal hn)) : Nonempty (KGoal hn)).elim id)
      ·have hi3 : j = 6 := by omega
       subst hi3
       refine Classical.byContradiction fun hn => ?_
       letI hI : Nonempty (KGoal hn) := Nonempty.intro (by
        delta KGoal
        clear hn
        clear HA0 hlt hj
        go_upto_region 46 with (fail)
        go_region_held3 (fun w' => w'.cell? ⟨xb, 0, none⟩ = some (.pointer (some ⟨st, 0, none⟩))) (with_reducible first | exact cx | exact HA.out.cell | exact (HA.out.non (Keeps.refl _ _).drew).cell | exact (HA.out.non ((Keeps.refl _ _).alloc _)).cell | exact (HA.out.non ((Keeps.refl _ _).alloc _).drew).cell) (first
         | (go_at_call 29
            with_reducible refine (leaf_any ⟨#[]⟩ wr.drew).mono ?_
            rintro e wl ⟨la, lc, rfl, hs, hk⟩
            have HRD : Hid (Rd wl 3 (.slice la 1 lc) 1 (nodeCells [lf []])) := hs.rd
            have HA2 : Hid (KAt ws wl F xb st (kSix 6)) := HA.out.non ((Keeps.refl _ _).drew.tn hk)
            clear HA
            have HA := HA2
            have cx := HA.out.cell
            clear HA2
            have HINS : Hid (Calls Tryz.prog 24 #[.pointer (some ⟨st, 0, none⟩), .string ⟨#[102, 117, 108, 108]⟩, .slice la 1 lc, .slice none 0 0] wl fun ed w' => ed = .returned (.int .i64 14) ∧ KAt ws w' F xb st (kSix 6)) := HA.out.full la lc HRD.out
            clear hs hk)
         | (go_at_call 29
            with_reducible refine (leaf_any ⟨#[109]⟩ wi).mono ?_
            rintro e wm ⟨la, lc, rfl, hs, hk⟩
            have HRD : Hid (Rd wm 3 (.slice la 1 lc) 1 (nodeCells [lf [109]])) := hs.rd
            have HA2 : Hid (KAt ws wm F xb st (kSix 6)) := HA.out.non (hk)
            clear HA
            have HA := HA2
            have cx := HA.out.cell
            clear HA2
            have HINS : Hid (Calls Tryz.prog 24 #[.pointer (some ⟨st, 0, none⟩), .string ⟨#[109]⟩, .slice la 1 lc, .slice (some ⟨wm.heap.size, 0, none⟩) 1 1] (wm.alloc (.cells #[.string ⟨#[109]⟩] 9)) fun ed w' => ed = .returned (.int .i64 0) ∧ KAt ws w' F xb st (kSix 6)) := (HA.out.non ((Keeps.refl _ _).alloc _)).again la lc _ (HRD.out.non ((Keeps.refl _ _).alloc _)) (krd_one wm [109])
            clear hs hk)
         | (go_at_call 29
            with_reducible refine (leaf_any ⟨#[109]⟩ (wi.alloc (.cells #[.string ⟨#[109]⟩] 9))).mono ?_
            rintro e wm ⟨la, lc, rfl, hs, hk⟩
            have HRD : Hid (Rd wm 3 (.slice la 1 lc) 1 (nodeCells [lf [109]])) := hs.rd
            have HA2 : Hid (KAt ws wm F xb st (kSix 6)) := HA.out.non (((Keeps.refl _ _).alloc _).tn hk)
            clear HA
            have HA := HA2
            have cx := HA.out.cell
            clear HA2
            have HINS : Hid (Calls Tryz.prog 24 #[.pointer (some ⟨st, 0, none⟩), .string ⟨#[109]⟩, .slice la 1 lc, .slice (some ⟨wi.heap.size, 0, none⟩) 1 1] wm fun ed w' => ed = .returned (.int .i64 0) ∧ KAt ws w' F xb st (kSix 6)) := HA.out.again la lc _ HRD.out ((krd_one wi [109]).non hk)
            clear hs hk)
         | (go_at_call 24
            with_reducible refine HINS.out.mono ?_
            rintro e wi ⟨rfl, ha⟩
            clear HA HINS HRD
            have HA := Lib.hid ha
            have cx := HA.out.cell
            clear ha))
        all_goals (
         go_upto_region 48 with (fail)
         obtain ⟨AT, hAT⟩ : ∃ AT, kLastAt = AT := ⟨_, rfl⟩
         have HAT := Lib.hid hAT
         obtain ⟨P1, hP1⟩ : ∃ P1 : ByteArray, (⟨(putAll [wExport, wPath, [113]]).toArray⟩ : ByteArray) = P1 := ⟨_, rfl⟩
         obtain ⟨P2, hP2⟩ : ∃ P2 : ByteArray, (⟨(putAll [wRefs, wSum, SM.data.toList, wEnd]).toArray⟩ : ByteArray) = P2 := ⟨_, rfl⟩
         obtain ⟨Q1, hQ1⟩ : ∃ Q1 : ByteArray, P1 ++ ONE = Q1 := ⟨_, rfl⟩
         obtain ⟨Q2, hQ2⟩ : ∃ Q2 : ByteArray, Q1 ++ P2 = Q2 := ⟨_, rfl⟩
         have zP1 : P1.size ≤ 2000 := by rw [← hP1]; decide +kernel
         have zP2 : P2.size ≤ 2000 := by rw [← hP2, ← HSM.out]; decide +kernel
         have zQ1 : Q1.size ≤ 4000 := by rw [← hQ1, ByteArray.size_append]; omega
         have hadd1 : ∀ W : World, (Op.stringOp .add P1 ONE).run Tryz.prog W = .ok (.string Q1) W := fun W => by rw [run_string_add_sum W _ _ (by omega), hQ1]
         have hadd2 : ∀ W : World, (Op.stringOp .add Q1 P2).run Tryz.prog W = .ok (.string Q2) W := fun W => by rw [run_string_add_sum W _ _ (by omega), hQ2]
         have hl : Q2 = (⟨kLast.toArray⟩ : ByteArray) := by
          rw [← hQ2, ← hQ1, ← hP1, ← HONE.out, ← hP2, ← HSM.out, ← ba_app, ← ba_app]
          rfl
         have HSA : Hid (Calls Tryz.prog 28 #[.slice (some ⟨wi.heap.size, 0, none⟩) 3 3] (wi.alloc (.cells #[.string ⟨#[101, 120, 112, 111, 114, 116, 45, 49]⟩, .string ⟨#[112, 97, 116, 104]⟩, .string ⟨#[113]⟩] 9)).drew fun e w' => e = .returned (.string P1) ∧ Hid (KAt ws w' F xb st (kSix 6))) := by
          refine (strs_any [wExport, wPath, [113]] _ _ ((Sl.of_new wi 0 (Nat.zero_le _) 9 1 3 (svs [wExport, wPath, [113]]) rfl (by simp [maxLen])).rd.non (Keeps.refl _ _).drew) (by decide +kernel) (by simp)).mono ?_
          rintro e w' ⟨rfl, hk⟩
          exact ⟨by rw [hP1], HA.out.non (((Keeps.refl _ _).alloc _).drew.tn hk)⟩
         have HSB : Hid (∀ w, KAt ws w F xb st (kSix 6) → Calls Tryz.prog 28 #[.slice (some ⟨w.heap.size, 0, none⟩) 4 4] (w.alloc (.cells #[.string ⟨#[114, 101, 102, 115]⟩, .string ⟨#[115, 117, 109]⟩, .string SM, .string ⟨#[101, 110, 100]⟩] 9)) fun e w' => e = .returned (.string P2) ∧ Hid (KAt ws w' F xb st (kSix 6))) := fun w hw => by
          refine (strs_any [wRefs, wSum, SM.data.toList, wEnd] _ _ (Sl.of_new w 0 (Nat.zero_le _) 9 1 4 (svs [wRefs, wSum, SM.data.toList, wEnd]) rfl (by simp [maxLen])).rd (by rw [← HSM.out]; decide +kernel) (by simp)).mono ?_
          rintro e w' ⟨rfl, hk⟩
          exact ⟨by rw [hP2], hw.non (((Keeps.refl _ _).alloc _).tn hk)⟩
         have HSU : Hid (∀ w, KAt ws w F xb st (kSix 6) → Calls Tryz.prog 26 #[.string ONE] w fun e w' => e = .returned (.string SM) ∧ Hid (KAt ws w' F xb st (kSix 6))) := fun w hw => by
          refine (nsum_any ONE _ (Nat.le_trans zONE (by decide))).mono ?_
          rintro e w' ⟨rfl, hk⟩
          exact ⟨by rw [HSO.out], hw.non hk⟩
         have HIM : Hid (∀ w, KAt ws w F xb st (kSix 6) → Calls Tryz.prog 21 #[.pointer (some ⟨st, 0, none⟩), .slice (some ⟨w.heap.size, 0, none⟩) 1 1] (w.alloc (.cells #[.string Q2] 9)) fun e w' => e = .returned (.tuple #[.slice none 0 0, .int .i64 14, .int .i64 AT]) ∧ Hid (KAt ws w' F xb st (kSix 6))) := fun w hw => by
          rw [hl, ← hAT]
          exact (hw.non ((Keeps.refl _ _).alloc _)).last _ (krd_one w kLast)
         have HP1 := Lib.hid hP1
         clear hP1 hP2 hQ1 hQ2 hl hAT
         go_region_held3 (fun w' => w'.cell? ⟨xb, 0, none⟩ = some (.pointer (some ⟨st, 0, none⟩))) (with_reducible first | exact cx | exact HA.out.cell | exact (HA.out.non (Keeps.refl _ _).drew).cell | exact (HA.out.non ((Keeps.refl _ _).alloc _)).cell | exact (HA.out.non ((Keeps.refl _ _).alloc _).drew).cell) (first
         | (go_at_call 28
            with_reducible refine (HSA.out).mono ?_
            rintro e wp ⟨rfl, HA1⟩
            clear HA
            have HA := HA1
            clear HA1
            have cx := HA.out.cell)
         | (go_at_call 28
            with_reducible refine (HSB.out _ HA.out).mono ?_
            rintro e wq ⟨rfl, HA1⟩
            clear HA
            have HA := HA1
            clear HA1
            have cx := HA.out.cell)
         | (go_at_call 26
            with_reducible refine (HSU.out _ HA.out).mono ?_
            rintro e wn ⟨rfl, HA1⟩
            clear HA
            have HA := HA1
            clear HA1
            have cx := HA.out.cell)
         | (go_at_call 21
            with_reducible refine (HIM.out _ HA.out).mono ?_
            rintro e wz ⟨rfl, HA1⟩
            clear HA
            have HA := HA1
            clear HA1
            have cx := HA.out.cell))
         clear hadd1 hadd2 HSA HSB HSU HIM
         go_wp2_with fail
         refine (strs_any [wExport, wPath, [113]] _ _ (Sl.of_new wz 0 (Nat.zero_le _) 9 1 3 (svs [wExport, wPath, [113]]) rfl (by simp [maxLen])).rd (by decide +kernel) (by simp)).mono ?_
         rintro e v1 ⟨rfl, hk⟩
         have HA2 : Hid (KAt ws v1 F xb st (kSix 6)) := HA.out.non (((Keeps.refl _ _).alloc _).tn hk)
         rw [HP1.out]
         clear hk HA cx
         go_wp2_with fail
         refine (strs_any [wRefs, wSum] _ _ (Sl.of_new v1 0 (Nat.zero_le _) 9 1 2 (svs [wRefs, wSum]) rfl (by simp [maxLen])).rd (by decide +kernel) (by simp)).mono ?_
         rintro e v2 ⟨rfl, hk⟩
         have HA : Hid (KAt ws v2 F xb st (kSix 6)) := HA2.out.non (((Keeps.refl _ _).alloc _).tn hk)
         obtain ⟨P4, hP4⟩ : ∃ P4 : ByteArray, (⟨(putAll [wRefs, wSum]).toArray⟩ : ByteArray) = P4 := ⟨_, rfl⟩
         rw [hP4]
         have hz := kLastAt_of HP1.out HONE.out hP4
         rw [HAT.out] at hz
         have zP4 : P4.size ≤ 2000 := by rw [← hP4]; decide +kernel
         have h1 : (AT == ((P1 ++ ONE ++ P4).size : Int)) = true := by rw [hz]; exact beq_self_eq_true _
         have h2 : (AT == ((P1.size + ONE.size + P4.size : Nat) : Int)) = true := by rw [hz, ByteArray.size_append, ByteArray.size_append]; exact beq_self_eq_true _
         have h3 : (AT == (P1.size : Int) + (ONE.size : Int) + (P4.size : Int)) = true := by
          rw [hz, ByteArray.size_append, ByteArray.size_append, beq_iff_eq]
          omega
         clear hk HA2 hP4 hz
         go_wp2_with fail
         go_ret
         exact ⟨rfl, HKWS.out.trans HA.out.kp fun k hk => .inr (HFG.out k hk)⟩))
       exact hn ((inferInstanceAs (Nonempty (KGoal hn)) : Nonempty (KGoal hn)).elim id)
end Go.Proofs.YtdkogijdfgfpeaaGreatDoor
