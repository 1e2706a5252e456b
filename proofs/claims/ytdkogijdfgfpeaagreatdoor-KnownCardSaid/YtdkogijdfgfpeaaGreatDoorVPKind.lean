/- (*tree.Parser).kind, dir. -/
import Derived.Test.YtdkogijdfgfpeaaGreatDoorVKnoM
import Derived.StillTailTactics
import Derived.Test.YtdkogijdfgfpeaaGreatDoorVRefA
set_option linter.unusedVariables false
namespace Go.Proofs.YtdkogijdfgfpeaaGreatDoor
open Go Go.RowKit
theorem infoOpenP : (Tryz.prog.info? 160).map (fun i => (i.zero, i.size, i.bytes)) = some (some (.agg #[.string ⟨#[]⟩, .string ⟨#[]⟩]), 2, 32) := by kernel_rfl
abbrev jobTs : List TypeId := [113, 49, 160, TB]
def JobFar (w : World) (v f : Value) : Prop := ∀ (bm bp bt : Nat) (vm : Value), f = .func (.func 77) #[] #[.pointer (some ⟨bm, 0, none⟩), .pointer (some ⟨bp, 0, none⟩), .pointer (some ⟨bt, 0, none⟩)] → Blk w bm #[vm] 26 → Ahead 1 v vm
def FarNew (w w' : World) (us : List (Job × Value)) : Prop := ∀ (v : Value) (B n : Nat) (ys : List Value), Sl w B 9 1 v n ys → ∀ t ∈ us, t.1 = moreJob ∨ t.1 = nextJob → JobFar w' v t.2
theorem FarNew.none {w w' : World} {us : List (Job × Value)} (h : ∀ j ∈ us.map Prod.fst, j ≠ moreJob ∧ j ≠ nextJob) : FarNew w w' us := fun v B n ys hs t ht he => absurd he (fun e => e.elim (h _ (List.mem_map.2 ⟨t, ht, rfl⟩)).1 (h _ (List.mem_map.2 ⟨t, ht, rfl⟩)).2)
def Did (B b : Nat) (tail : PT) (ts : List (Job × Value)) (r : List Job × PSt) (w : World) (ed : Ending) (w' : World) : Prop :=
 ed = .returned (.tuple #[]) ∧ (∃ us : List (Job × Value), (us.map Prod.fst).reverse = r.1 ∧ PA B b tail (ts ++ us) r.2 w' ∧ FarNew w w' us) ∧ Kp B jobTs w w'
theorem Did.plain {B b : Nat} {tail : PT} {ts : List (Job × Value)} {r : List Job × PSt} {w w' : World} {ed : Ending} {Ts : List TypeId} (he : ed = .returned (.tuple #[])) (hr : r.1 = []) (h : PA B b tail ts r.2 w') (hk : Kp B Ts w w') (hT : ∀ T ∈ Ts, T ∈ jobTs) : Did B b tail ts r w ed w' :=
 ⟨he, ⟨[], by rw [hr]; rfl, by rwa [List.append_nil], FarNew.none (by simp)⟩, hk.mono (.inr ⟨Nat.le_refl _, hT⟩)⟩
theorem Did.plannedF {B b : Nat} {tail : PT} {ts us : List (Job × Value)} {r : List Job × PSt} {w w0 w' : World} {ed : Ending} (he : ed = .returned (.tuple #[])) (hr : us.map Prod.fst = r.1) (h : PA B b tail (ts ++ us.reverse) r.2 w') (hk0 : Kp B jobTs w w0) (hk : Kp B [113, TB] w0 w') (hf : FarNew w w' us.reverse) : Did B b tail ts r w ed w' :=
 ⟨he, ⟨us.reverse, by rw [List.map_reverse, List.reverse_reverse, hr], h, hf⟩, hk0.trans (hk.mono (.inr ⟨Nat.le_refl _, by simp⟩))⟩
theorem Did.planned {B b : Nat} {tail : PT} {ts us : List (Job × Value)} {r : List Job × PSt} {w w0 w' : World} {ed : Ending} (he : ed = .returned (.tuple #[])) (hr : us.map Prod.fst = r.1) (h : PA B b tail (ts ++ us.reverse) r.2 w') (hk0 : Kp B jobTs w w0) (hk : Kp B [113, TB] w0 w') (hm : r.1.all (fun j => decide (j ≠ moreJob ∧ j ≠ nextJob)) = true := by rfl) : Did B b tail ts r w ed w' :=
 Did.plannedF he hr h hk0 hk (FarNew.none (by rw [List.map_reverse, hr]; intro j hj; exact of_decide_eq_true (List.all_eq_true.1 hm j (List.mem_reverse.1 hj))))
set_option maxHeartbeats 1600000 in
set_option maxRecDepth 100000 in
theorem kind_any {B b : Nat} {tail : PT} {ts : List (Job × Value)} {σ : PSt} {w : World} (h : PA B b tail ts σ w) (s : ByteArray) (p : Int) (hl : σ.nodes.length ≤ 1099511627776) (ha : σ.above.length ≤ 1099511627776) (ht : ts.length ≤ 1099511627000) :
 Calls Tryz.prog 157 #[.pointer (some ⟨b, 0, none⟩), .string s, .int .i64 p] w (Did B b tail ts (doAct .kind s.data.toList p σ) w) := by
 have H0 := Lib.hid h
 clear h
 by_cases h1 : s.data.toList = wFile
 ·have hb : (s.toList == [102, 105, 108, 101]) = true := by rw [ByteArray.toList_eq, h1]; rfl
  have HS : Hid (doAct .kind s.data.toList p σ = ([.word [wExec, wData] .file], σ)) := by show _ = _; simp only [doAct, h1, if_true]
  clear h1
  go_enter Tryz.func157, Tryz.ntmps157
  go_wp2_with fail
  refine (word_any b [wExec, wData] .file _ _ (putArg w 2 _ [wExec, wData] _ rfl rfl rfl (by simp))).mono ?_
  rintro e w1 ⟨f1, rfl, hj1, hk1⟩
  have hk01 : Keeps Non w w1 := ((Keeps.refl _ _).alloc _).trans hk1 (fun k hk => .inl hk)
  have J1 := Lib.hid hj1
  have K1 := Lib.hid hk01
  have H1 := Lib.hid (H0.out.keeps hk01)
  clear hj1 hk1 hk01
  go_wp2_with fail
  refine (plan_new H1.out [(.word [wExec, wData] .file, f1)] 1 _ _ rfl rfl rfl (by omega) (by intro t ht; obtain rfl := List.mem_singleton.1 ht; exact J1.out) ht).mono ?_
  rintro e w2 ⟨rfl, h2, k2⟩
  have H2 := Lib.hid h2
  have K2 := Lib.hid k2
  clear h2 k2
  go_wp2_with fail
  go_end0
  rw [HS.out]
  exact Did.planned rfl rfl H2.out (Kp.of_keeps K1.out) K2.out
 have hb : (s.toList == [102, 105, 108, 101]) = false := by rw [ByteArray.toList_eq, beq_eq_false_iff_ne]; exact h1
 by_cases h2 : s.data.toList = wLink
 ·have hb2 : (s.toList == [108, 105, 110, 107]) = true := by rw [ByteArray.toList_eq, h2]; rfl
  have HS : Hid (doAct .kind s.data.toList p σ = ([.word [wTo] .none, .leads, .word [wShut] .none], σ)) := by show _ = _; simp only [doAct, h2, if_true]; rfl
  clear h1 h2
  go_enter Tryz.func157, Tryz.ntmps157
  go_wp2_with fail
  refine (word_any b [wTo] .none _ _ (putArg w 1 _ [wTo] _ rfl rfl rfl (by simp))).mono ?_
  rintro e w1 ⟨f1, rfl, hj1, hk1⟩
  have hk01 : Keeps Non w w1 := ((Keeps.refl _ _).alloc _).trans hk1 (fun k hk => .inl hk)
  have J1 := Lib.hid hj1
  have K1 := Lib.hid hk01
  clear hj1 hk1 hk01
  go_wp2_with fail
  refine (text_any b 100 (.func (.func 168) #[.pointer (some ⟨b, 0, none⟩)] #[]) rfl ⟨_, _, _, rfl⟩ w1).mono ?_
  rintro e w2 ⟨rfl, hk2⟩
  have J12 := Lib.hid (J1.out.keeps hk2)
  have K2 := Lib.hid (K1.out.trans hk2 (fun k hk => .inl hk))
  clear hk2 J1 K1
  go_wp2_with fail
  refine (word_any b [wShut] .none _ _ (putArg w2 1 _ [wShut] _ rfl rfl rfl (by simp))).mono ?_
  rintro e w3 ⟨f3, rfl, hj3, hk3⟩
  have hk23 : Keeps Non w2 w3 := ((Keeps.refl _ _).alloc _).trans hk3 (fun k hk => .inl hk)
  have J13 := Lib.hid (J12.out.keeps hk23)
  have J3 := Lib.hid hj3
  have K3 := Lib.hid (K2.out.trans hk23 (fun k hk => .inl hk))
  have H3 := Lib.hid (H0.out.keeps K3.out)
  clear hj3 hk3 hk23 J12 K2
  go_wp2_with fail
  refine (plan_new H3.out [(.word [wTo] .none, f1), (.leads, .func (.func 168) #[.pointer (some ⟨b, 0, none⟩)] #[]), (.word [wShut] .none, f3)] 3 _ _ rfl rfl rfl (by omega) (by intro t ht; simp only [List.mem_cons, List.not_mem_nil, or_false] at ht; rcases ht with rfl | rfl | rfl; exact J13.out; rfl; exact J3.out) ht).mono ?_
  rintro e w4 ⟨rfl, h4, k4⟩
  have H4 := Lib.hid h4
  have K4 := Lib.hid k4
  clear h4 k4
  go_wp2_with fail
  go_end0
  rw [HS.out]
  exact Did.planned rfl rfl H4.out (Kp.of_keeps K3.out) K4.out
 have hb2 : (s.toList == [108, 105, 110, 107]) = false := by rw [ByteArray.toList_eq, beq_eq_false_iff_ne]; exact h2
 by_cases h3 : s.data.toList = wDir
 ·have hb3 : (s.toList == [100, 105, 114]) = true := by rw [ByteArray.toList_eq, h3]; rfl
  have HS : Hid (doAct .kind s.data.toList p σ = ([dirJob], { σ.add 4 [] with above := σ.above ++ [(σ.path, [])] })) := by show _ = _; simp only [doAct, h3, if_true]; rfl
  clear h1 h2 h3
  go_enter Tryz.func157, Tryz.ntmps157
  go_wp2_with fail
  refine (add_any H0.out 4 ⟨#[]⟩ hl).mono ?_
  rintro e w1 ⟨rfl, h1, k1⟩
  have K1 : Hid (Kp B jobTs w w1) := k1.mono (.inr ⟨Nat.le_refl _, by simp⟩)
  have ha1 : (σ.add 4 []).above.length ≤ 1099511627776 := ha
  have HS2 : Hid ({ σ.add 4 [] with above := σ.above ++ [(σ.path, [])] } = { σ.add 4 [] with above := (σ.add 4 []).above ++ [((σ.add 4 []).path, [])] }) := rfl
  have h1' : PA B b tail ts (σ.add 4 []) w1 := h1
  rw [HS2.out] at HS
  generalize σ.add 4 [] = σ1 at *
  clear h1 k1 H0 HS2
  obtain ⟨vr, vt, vl, va, h1⟩ := h1'
  obtain ⟨i0, hi, hz0, hz1, hz2⟩ := info_parts infoOpenP
  have c6 : w1.cell? ⟨b, 6, none⟩ = some va := (h1.blk.cell 6).trans (pcells_get ..).2.2.2.2.2.2.1
  have c7 : w1.cell? ⟨b, 7, none⟩ = some (sv σ1.path) := (h1.blk.cell 7).trans (pcells_get ..).2.2.2.2.2.2.2
  unfold sv at c7
  have hsl := h1.above
  have hblt := h1.lt
  have hbw := h1.le
  have H := Lib.hid h1
  clear h1
  go_upto_region 7 with (fail)
  go_region_law (refine step_append_own2 rfl _ _ 105 105 rfl 160 i0 _ 2 32 Tryz.underlying105 hi hz0 hz1 hz2 rfl B va _ _ rfl _ rfl 1 [.string ⟨σ1.path.toArray⟩, .string ⟨#[]⟩] (by simp; omega) (by first | exact hsl.alloc _ | exact hsl) (by first | exact Src.ofSl Tryz.underlying105 (Sl.of_new w1 0 (Nat.zero_le _) 160 2 1 [.string ⟨σ1.path.toArray⟩, .string ⟨#[]⟩] rfl (by simp [maxLen])) (by intro u hu; simp only [List.mem_cons, List.not_mem_nil, or_false] at hu; rcases hu with rfl | rfl <;> rfl)) (by unfold maxLen; omega) (by omega) ?_; intro ao cc w2 hs1 hk1 hkk1 hb1; have HK1 := Lib.hid (Kp.of_drew hk1); have HS1 := Lib.hid hs1; have B1 := Lib.hid ((H.out.blk.alloc (.cells #[.string ⟨σ1.path.toArray⟩, .string ⟨#[]⟩] 160)).kp HK1.out (.inr (by decide))); have c61 : w2.cell? ⟨b, 6, none⟩ = some va := (B1.out.cell 6).trans (pcells_get ..).2.2.2.2.2.2.1; have f61 := B1.out.free 6; clear hs1 hk1 hkk1 hb1)
  all_goals (
   have hst := push_step H.out _ ao cc (σ1.above.length + 1) rfl (by have h1 := HS1.out; simpa [sv] using h1) HK1.out
   go_upto_region 8 with (fail)
   have HST := Lib.hid hst
   have H2 : Hid (PA B b tail ts { σ1 with above := σ1.above ++ [(σ1.path, [])] } _) := ⟨_, _, _, _, hst.1⟩
   have K2 : Hid (Kp B jobTs w _) := K1.out.trans (hst.2.mono (.inr ⟨Nat.le_refl _, by simp⟩))
   clear hst HST
   generalize World.setCell w2 _ _ = w3 at *
   go_wp2_with fail
   refine (word_any b [wEntry, wShut] .dir _ _ (putArg w3 2 _ [wEntry, wShut] _ rfl rfl rfl (by simp))).mono ?_
   rintro e w4 ⟨f1, rfl, hj1, hk1⟩
   have hk01 : Keeps Non w3 w4 := ((Keeps.refl _ _).alloc _).trans hk1 (fun k hk => .inl hk)
   have J1 := Lib.hid hj1
   have K3 := Lib.hid (K2.out.trans (Kp.of_keeps hk01))
   have H3 := Lib.hid (H2.out.keeps hk01)
   clear hj1 hk1 hk01
   go_wp2_with fail
   refine (plan_new H3.out [(dirJob, f1)] 1 _ _ rfl rfl rfl (by omega) (by intro t ht; obtain rfl := List.mem_singleton.1 ht; exact J1.out) ht).mono ?_
   rintro e w5 ⟨rfl, h5, k5⟩
   have H5 := Lib.hid h5
   have K5 := Lib.hid k5
   clear h5 k5
   go_wp2_with fail
   go_end0
   rw [HS.out]
   exact Did.planned rfl rfl H5.out K3.out K5.out)
 ·have hb3 : (s.toList == [100, 105, 114]) = false := by rw [ByteArray.toList_eq, beq_eq_false_iff_ne]; exact h3
  have HS : Hid (doAct .kind s.data.toList p σ = ([], σ)) := by show _ = _; simp only [doAct, if_neg h1, if_neg h2, if_neg h3]
  clear h1 h2 h3
  go_enter Tryz.func157, Tryz.ntmps157
  go_wp2_with fail
  go_end0
  rw [HS.out]
  exact Did.plain (Ts := []) rfl rfl H0.out (Kp.refl _ _ _) (by simp)
def dirWs (b : Nat) (f1 f2 f4 : Value) : List (Job × Value) := [(.word [wOpen] .none, f1), (.word [wName] .none, f2), (.name, .func (.func 174) #[.pointer (some ⟨b, 0, none⟩)] #[]), (.word [wNode] .none, f4)]
theorem want_one {us : List (Job × Value)} (h : ∀ t ∈ us, t.2.oneCell' = true) : ∀ u ∈ wantCells us, u.oneCell' = true := fun u hu => by
 simp only [wantCells, List.mem_flatMap, wantC, List.mem_cons, List.not_mem_nil, or_false] at hu
 obtain ⟨t, ht, rfl | rfl⟩ := hu
 ·rfl
 ·exact h t ht
theorem pop_step {B b : Nat} {tail : PT} {ts : List (Job × Value)} {σ : PSt} {w : World} {vr vt vl : Value} {ao : Option Addr} {m cap : Nat} (H : PAt B b tail ts σ w vr vt vl (.slice ao (m + 1) cap)) (hm : σ.above.length = m + 1) :
 PAt B b tail ts { σ with above := σ.above.dropLast } (w.setCell ⟨b, 6, none⟩ (.slice ao m cap)) vr vt vl (.slice ao m cap) ∧ Kp B [TB] w (w.setCell ⟨b, 6, none⟩ (.slice ao m cap)) := by
 have k := H.kpSet 6 (.slice ao m cap)
 have b1 := H.blk.set 6 (.slice ao m cap)
 rw [(pcells_set ..).2.2.2.2.2.2.1] at b1
 obtain ⟨p1, p2, p3, p4, p5, p6⟩ := H.parts k
 refine ⟨⟨b1, H.le, p1, p2, p3, ?_, p5, p6⟩, k⟩
 rw [hm] at p4
 have h := p4.take (m := m) (by omega)
 show Sl _ B _ 2 _ σ.above.dropLast.length (opCells σ.above.dropLast)
 have e : σ.above.dropLast = σ.above.take m := by rw [List.dropLast_eq_take, hm]; rfl
 have e2 : opCells (σ.above.take m) = (opCells σ.above).take (m * 2) := by
  have h1 : opCells σ.above = opCells (σ.above.take m) ++ opCells (σ.above.drop m) := by rw [← opCells_append, List.take_append_drop]
  have hl : (opCells (σ.above.take m)).length = m * 2 := by rw [opCells_length, List.length_take, hm, Nat.min_eq_left (by omega)]
  rw [h1]
  exact (List.take_left' hl).symm
 rw [e, e2, List.length_take, Nat.min_eq_left (by omega)]
 exact h
set_option maxHeartbeats 1600000 in
set_option maxRecDepth 100000 in
theorem dir_any {B b : Nat} {tail : PT} {ts : List (Job × Value)} {σ : PSt} {w : World} (h : PA B b tail ts σ w) (s : ByteArray) (p : Int) (ha : σ.above.length ≤ 1099511627776) (hne : 0 < σ.above.length) (ht : ts.length ≤ 1099511627000) :
 Calls Tryz.prog 170 #[.pointer (some ⟨b, 0, none⟩), .string s, .int .i64 p] w (Did B b tail ts (doAct .dir s.data.toList p σ) w) := by
 by_cases h1 : s.data.toList = wShut
 ·have hb : (s.toList == [41]) = true := by rw [ByteArray.toList_eq, h1]; rfl
  have HS : Hid (doAct .dir s.data.toList p σ = ([], { σ with above := σ.above.dropLast })) := by show _ = _; simp only [doAct, h1, if_true]
  clear h1
  obtain ⟨vr, vt, vl, va, h⟩ := h
  have c6 : w.cell? ⟨b, 6, none⟩ = some va := (h.blk.cell 6).trans (pcells_get ..).2.2.2.2.2.2.1
  have f6 := h.blk.free 6
  obtain ⟨m, hm⟩ : ∃ m, σ.above.length = m + 1 := ⟨σ.above.length - 1, by omega⟩
  obtain ⟨ao, cap, rfl, hc1, hc2⟩ := h.above.shape
  unfold maxLen at hc2
  rw [hm] at h c6 hc1 ha
  have H := Lib.hid h
  have HM := Lib.hid hm
  clear h hm hne
  have hst := pop_step H.out HM.out
  have HST := Lib.hid hst
  clear hst
  have q1 : IntKind.i64.wrap (m : Int) = (m : Int) := IntWalk.i64_in _ (by omega)
  have q2 : (0 : Int) ≤ (m : Int) := by omega
  have q3 : (m : Int) < (m : Int) + 1 := by omega
  have q4 : m < m + 1 := by omega
  have q5 : (0 : Int) < (m : Int) + 1 := by omega
  have q7 : (m : Int) ≤ (cap : Int) := by omega
  have q8 : m ≤ cap := by omega
  have q6 : IntKind.i64.wrap ((m : Int) + 1 - 1) = (m : Int) := by rw [IntWalk.i64_in _ (by omega)]; omega
  go_enter Tryz.func170, Tryz.ntmps170
  go_wp2_with fail
  go_still_tail 14, (by kernel_rfl)
  go_wp2_with fail
  go_end0
  rw [HS.out]
  exact Did.plain (Ts := [TB]) rfl rfl ⟨_, _, _, _, HST.out.1.keeps ((Keeps.refl _ _).drew)⟩ HST.out.2.drew (by simp)
 ·have hb : (s.toList == [41]) = false := by rw [ByteArray.toList_eq, beq_eq_false_iff_ne]; exact h1
  have HS : Hid (doAct .dir s.data.toList p σ = ([.word [wOpen] .none, .word [wName] .none, .name, .word [wNode] .none] ++ nodeJobs ++ [.word [wShut] .none, dirJob], σ)) := by show _ = _; simp only [doAct, if_neg h1]
  clear h1
  obtain ⟨vr, vt, vl, va, h⟩ := h
  have hown : Hid (∀ k, w.heap.size ≤ k → vt.ownBlock ≠ some k) := fun k hk e => by have := h.todo.own_lt e; omega
  have H0 := Lib.hid h
  clear h
  obtain ⟨i0, hi, hz0, hz1, hz2⟩ := info_parts infoWant
  go_enter Tryz.func170, Tryz.ntmps170
  go_wp2_with fail
  refine (word_any b [wOpen] .none _ _ (putArg w 1 _ [wOpen] _ rfl rfl rfl (by simp))).mono ?_
  rintro e w1 ⟨f1, rfl, hj1, hk1⟩
  have hk01 : Keeps Non w w1 := ((Keeps.refl _ _).alloc _).trans hk1 (fun k hk => .inl hk)
  have J1 := Lib.hid hj1
  have K1 := Lib.hid hk01
  clear hj1 hk1 hk01
  go_wp2_with fail
  refine (word_any b [wName] .none _ _ (putArg w1 1 _ [wName] _ rfl rfl rfl (by simp))).mono ?_
  rintro e w2 ⟨f2, rfl, hj2, hk2⟩
  have hk12 : Keeps Non w1 w2 := ((Keeps.refl _ _).alloc _).trans hk2 (fun k hk => .inl hk)
  have J12 := Lib.hid (J1.out.keeps hk12)
  have J2 := Lib.hid hj2
  have K2 := Lib.hid (K1.out.trans hk12 (fun k hk => .inl hk))
  clear hj2 hk2 hk12 J1 K1
  go_wp2_with fail
  refine (text_any b 48 (.func (.func 174) #[.pointer (some ⟨b, 0, none⟩)] #[]) rfl ⟨_, _, _, rfl⟩ w2).mono ?_
  rintro e w3 ⟨rfl, hk3⟩
  have J13 := Lib.hid (J12.out.keeps hk3)
  have J23 := Lib.hid (J2.out.keeps hk3)
  have K3 := Lib.hid (K2.out.trans hk3 (fun k hk => .inl hk))
  clear hk3 J12 J2 K2
  go_wp2_with fail
  refine (word_any b [wNode] .none _ _ (putArg w3 1 _ [wNode] _ rfl rfl rfl (by simp))).mono ?_
  rintro e w4 ⟨f4, rfl, hj4, hk4⟩
  have hk34 : Keeps Non w3 w4 := ((Keeps.refl _ _).alloc _).trans hk4 (fun k hk => .inl hk)
  have J14 := Lib.hid (J13.out.keeps hk34)
  have J24 := Lib.hid (J23.out.keeps hk34)
  have J4 := Lib.hid hj4
  have K4 := Lib.hid (K3.out.trans hk34 (fun k hk => .inl hk))
  clear hj4 hk4 hk34 J13 J23 K3
  go_wp2_with fail
  have hw1 := wantArg (w := w4) (dirWs b f1 f2 f4) 4 _ _ rfl rfl rfl (by omega)
  refine (node_any b _).mono ?_
  rintro e w5 ⟨g1, g2, g3, bl, rfl, hsl5, hbl5, hj5, hk5⟩
  have hz := K4.out.size
  have HW1 : Hid (Sl w5 0 113 2 (.slice (some ⟨w4.heap.size, 0, none⟩) 4 4) 4 (wantCells (dirWs b f1 f2 f4))) := hw1.kp (Kp.of_keeps (B := 0) (Ts := []) hk5) (.inl (by simp))
  have hk45 : Keeps Non w4 w5 := ((Keeps.refl _ _).alloc _).trans hk5 (fun k hk => .inl hk)
  have K5 := Lib.hid (K4.out.trans hk45 (fun k hk => .inl hk))
  have J15 := Lib.hid (J14.out.keeps hk45)
  have J25 := Lib.hid (J24.out.keeps hk45)
  have J45 := Lib.hid (J4.out.keeps hk45)
  have HSL5 := Lib.hid hsl5
  have HJ5 := Lib.hid hj5
  have HSZ5 : Hid (w.heap.size ≤ w5.heap.size) := K5.out.size
  generalize w4.heap.size = z at *
  have HZ : Hid (w.heap.size ≤ z) := hz
  clear hw1 hbl5 hk5 hk45 J14 J24 J4 K4 hsl5 hj5 hz
  go_wp2_with (at_builtin; refine wpList_append_own2 rfl _ _ 103 103 rfl 113 i0 _ 2 16 Tryz.underlying103 hi hz0 hz1 hz2 rfl 0 _ 4 (wantCells (dirWs b f1 f2 f4)) rfl _ rfl 3 (wantCells (nodeWs g1 g2 g3)) (Nat.zero_le _) HW1.out ?c2 ?c3 ?c4 ?_)
  case c2 => exact Src.ofSl Tryz.underlying103 HSL5.out (want_one (fun t ht => (HJ5.out t ht).one))
  case c3 => unfold maxLen; omega
  case c4 => omega
  intro ao cc w6 hs6 hk6 hkk6 hb6
  have sub : ∀ T ∈ ([113] : List TypeId), T ∈ paTs := by intro T hT; simp only [List.mem_singleton] at hT; subst hT; simp
  have HS6 := Lib.hid hs6
  have J16 := Lib.hid (J15.out.kp hk6 sub)
  have J26 := Lib.hid (J25.out.kp hk6 sub)
  have J46 := Lib.hid (J45.out.kp hk6 sub)
  have HJ6 : Hid (∀ t ∈ nodeWs g1 g2 g3, JobAt w6 b t.1 t.2) := fun t ht => (HJ5.out t ht).kp hk6 sub
  have K6 : Hid (Keeps Non w w6) := K5.out.trans hkk6 (fun k hk => .inr (by cases hk; exact HZ.out))
  have HB6 : Hid (∀ k, (Value.slice ao (4 + 3) cc).ownBlock = some k → w.heap.size ≤ k) := fun k hk => by
   rcases hb6 with e | e
   ·rw [e] at hk; cases hk; exact HZ.out
   ·rw [e] at hk; cases hk; exact HSZ5.out
  clear hs6 hk6 hkk6 hb6 J15 J25 J45 HJ5 HSL5 HW1 K5
  go_wp2_with fail
  refine (word_any b [wShut] .none _ _ (putArg w6 1 _ [wShut] _ rfl rfl rfl (by simp))).mono ?_
  rintro e w7 ⟨f8, rfl, hj7, hk7⟩
  have hk67 : Keeps Non w6 w7 := ((Keeps.refl _ _).alloc _).trans hk7 (fun k hk => .inl hk)
  have J17 := Lib.hid (J16.out.keeps hk67)
  have J27 := Lib.hid (J26.out.keeps hk67)
  have J47 := Lib.hid (J46.out.keeps hk67)
  have HJ7 : Hid (∀ t ∈ nodeWs g1 g2 g3, JobAt w7 b t.1 t.2) := fun t ht => (HJ6.out t ht).keeps hk67
  have J87 := Lib.hid hj7
  have HS7 := Lib.hid (HS6.out.kp (Kp.of_keeps (B := 0) (Ts := []) hk67) (.inl (by simp)))
  have K7 := Lib.hid (K6.out.trans hk67 (fun k hk => .inl hk))
  clear hj7 hk7 hk67 J16 J26 J46 HJ6 HS6 K6
  go_wp2_with fail
  refine (word_any b [wEntry, wShut] .dir _ _ (putArg w7 2 _ [wEntry, wShut] _ rfl rfl rfl (by simp))).mono ?_
  rintro e w8 ⟨f9, rfl, hj8, hk8⟩
  have hk78 : Keeps Non w7 w8 := ((Keeps.refl _ _).alloc _).trans hk8 (fun k hk => .inl hk)
  have hk78' := hk78.alloc (.cells (wantCells [((.word [wShut] .none : Job), f8), (dirJob, f9)]).toArray 113)
  have J18 := Lib.hid (J17.out.keeps hk78')
  have J28 := Lib.hid (J27.out.keeps hk78')
  have J48 := Lib.hid (J47.out.keeps hk78')
  have HJ8 : Hid (∀ t ∈ nodeWs g1 g2 g3, JobAt (w8.alloc (.cells (wantCells [((.word [wShut] .none : Job), f8), (dirJob, f9)]).toArray 113)) b t.1 t.2) := fun t ht => (HJ7.out t ht).keeps hk78'
  have J88 := Lib.hid (J87.out.keeps hk78')
  have J98 := Lib.hid (hj8.alloc (.cells (wantCells [((.word [wShut] .none : Job), f8), (dirJob, f9)]).toArray 113))
  have HS8 := Lib.hid (HS7.out.kp (Kp.of_keeps (B := 0) (Ts := []) hk78') (.inl (by simp)))
  have K8 := Lib.hid (K7.out.trans hk78' (fun k hk => .inl hk))
  have HA8 := Lib.hid (wantArg (w := w8) [((.word [wShut] .none : Job), f8), (dirJob, f9)] 2 _ _ rfl rfl rfl (by omega))
  clear hj8 hk8 hk78 hk78' J17 J27 J47 J87 HJ7 HS7 K7
  go_wp2_with (at_builtin; refine wpList_append_own2 rfl _ _ 103 103 rfl 113 i0 _ 2 16 Tryz.underlying103 hi hz0 hz1 hz2 rfl 0 _ _ _ rfl _ rfl 2 (wantCells [((.word [wShut] .none : Job), f8), (dirJob, f9)]) (Nat.zero_le _) HS8.out ?c2 ?c3 ?c4 ?_)
  case c2 => exact Src.ofSl Tryz.underlying103 HA8.out (want_one (fun t ht => by simp only [List.mem_cons, List.not_mem_nil, or_false] at ht; rcases ht with rfl | rfl; exact J88.out.one; exact J98.out.one))
  case c3 => unfold maxLen; omega
  case c4 => omega
  intro ao2 cc2 w9 hs9 hk9 hkk9 hb9
  have sub : ∀ T ∈ ([113] : List TypeId), T ∈ paTs := by intro T hT; simp only [List.mem_singleton] at hT; subst hT; simp
  have K9 : Hid (Keeps Non w w9) := K8.out.trans hkk9 (fun k hk => .inr (HB6.out k hk))
  have HB9 : Hid (∀ k, (Value.slice ao2 (4 + 3 + 2) cc2).ownBlock = some k → w.heap.size ≤ k) := fun k hk => by
   rcases hb9 with e | e
   ·rw [e] at hk; exact HB6.out k hk
   ·rw [e] at hk; cases hk; have h8 := K8.out.size; rw [World.size_alloc] at h8; exact h8
  obtain ⟨us, hus⟩ : ∃ us : List (Job × Value), us = dirWs b f1 f2 f4 ++ nodeWs g1 g2 g3 ++ [((.word [wShut] .none : Job), f8), (dirJob, f9)] := ⟨_, rfl⟩
  have HJ9 : Hid (∀ t ∈ us, JobAt w9 b t.1 t.2) := by
   intro t ht
   refine JobAt.kp ?_ hk9 sub
   rw [hus] at ht
   rcases List.mem_append.1 ht with ht | ht
   ·rcases List.mem_append.1 ht with ht | ht
    ·simp only [dirWs, List.mem_cons, List.not_mem_nil, or_false] at ht
     rcases ht with rfl | rfl | rfl | rfl
     ·exact J18.out
     ·exact J28.out
     ·rfl
     ·exact J48.out
    ·exact HJ8.out t ht
   ·simp only [List.mem_cons, List.not_mem_nil, or_false] at ht
    rcases ht with rfl | rfl
    ·exact J88.out
    ·exact J98.out
  have hul : us.length = 4 + 3 + 2 := by rw [hus]; rfl
  have hs9' : Sl w9 0 113 2 (.slice ao2 (4 + 3 + 2) cc2) us.length (wantCells us) := by
   rw [hul, hus, wantCells_append, wantCells_append]
   exact hs9
  obtain ⟨bl2, ol2, cp2, hsh, -, -, -, -, -, -⟩ := hs9'.pos (by omega)
  rw [hul] at hsh
  cases hsh
  have hmap : us.map Prod.fst = [.word [wOpen] .none, .word [wName] .none, .name, .word [wNode] .none] ++ nodeJobs ++ [.word [wShut] .none, dirJob] := by rw [hus]; rfl
  have HMAP := Lib.hid hmap
  have HUL := Lib.hid hul
  have hpl := plan_any (H0.out.keeps K9.out) us bl2 ol2 cc2 (by rw [hul] at hs9' ⊢; exact hs9') (fun e => hown.out _ (HB9.out bl2 rfl) e) HJ9.out (by omega)
  have HPL := Lib.hid hpl
  clear hs9 hs9' hk9 hkk9 hb9 hus hul hmap hpl HB6 HB9 J18 J28 J48 J88 J98 HJ8 HS8 HA8 K8 HJ9 HZ HSZ5 hi hz0 hz1 hz2
  rw [HUL.out] at HPL
  go_wp2_with fail
  refine HPL.out.mono ?_
  rintro e w10 ⟨rfl, h10, k10⟩
  have H10 := Lib.hid h10
  have K10 := Lib.hid k10
  clear h10 k10
  go_wp2_with fail
  go_end0
  rw [HS.out]
  exact Did.planned rfl HMAP.out H10.out (Kp.of_keeps K9.out) K10.out
theorem last_step {B b : Nat} {tail : PT} {ts : List (Job × Value)} {σ : PSt} {w : World} {vr vt vl : Value} {ba off m cap : Nat} {ab : Opens} {op ol : List UInt8} (H : PAt B b tail ts σ w vr vt vl (.slice (some ⟨ba, off, none⟩) (m + 1) cap)) (hm : m = ab.length) (ha : σ.above = ab ++ [(op, ol)]) (s : List UInt8) :
 PAt B b tail ts { σ with above := ab ++ [(op, s)] } (w.setCell ⟨ba, off + m * 2 + 1, none⟩ (sv s)) vr vt vl (.slice (some ⟨ba, off, none⟩) (m + 1) cap) ∧ Kp B [160] w (w.setCell ⟨ba, off + m * 2 + 1, none⟩ (sv s)) := by
 subst hm
 have hl : σ.above.length = ab.length + 1 := by rw [ha]; simp
 have hs := H.above
 rw [hl] at hs
 obtain ⟨c, hb, hB⟩ := hs.blk
 have k : Kp B [160] w (w.setCell ⟨ba, off + ab.length * 2 + 1, none⟩ (sv s)) := (Kp.refl _ _ _).set hb (.inr ⟨hB, by simp⟩) _ _
 have sub : ∀ T ∈ ([160] : List TypeId), T ∈ paTs := by intro T hT; simp only [List.mem_singleton] at hT; subst hT; simp
 refine ⟨⟨H.blk.kp k (.inr (by decide)), H.le, H.rest.kp k (.inl (by decide)), H.todo.kp k (.inl (by decide)), H.nodes.kp k (.inl (by decide)), ?_, fun t ht => (H.jobs t ht).kp k sub, fun t ht => ⟨(H.kept t ht).1.kp k (.inl (by decide)), (H.kept t ht).2⟩⟩, k⟩
 have h2 := hs.set (ab.length * 2 + 1) (by omega) (sv s)
 rw [← Nat.add_assoc] at h2
 have e9 : (opCells σ.above).set (ab.length * 2 + 1) (sv s) = opCells (ab ++ [(op, s)]) := by
  rw [ha, opCells_append, opCells_append, List.set_append_right _ _ (by rw [opCells_length]; omega), opCells_length]
  simp [opCells]
 rw [e9] at h2
 show Sl _ B _ 2 _ (ab ++ [(op, s)]).length _
 rw [List.length_append]
 exact h2
theorem path_step {B b : Nat} {tail : PT} {ts : List (Job × Value)} {σ : PSt} {w : World} {vr vt vl va : Value} (H : PAt B b tail ts σ w vr vt vl va) (p : List UInt8) :
 PAt B b tail ts { σ with path := p } (w.setCell ⟨b, 7, none⟩ (sv p)) vr vt vl va ∧ Kp B [TB] w (w.setCell ⟨b, 7, none⟩ (sv p)) := by
 have k := H.kpSet 7 (sv p)
 have b1 := H.blk.set 7 (sv p)
 rw [(pcells_set ..).2.2.2.2.2.2.2] at b1
 obtain ⟨p1, p2, p3, p4, p5, p6⟩ := H.parts k
 exact ⟨⟨b1, H.le, p1, p2, p3, p4, p5, p6⟩, k⟩
set_option maxHeartbeats 1600000 in
set_option maxRecDepth 100000 in
theorem pname_any {B b : Nat} {tail : PT} {ts : List (Job × Value)} {σ : PSt} {w : World} (h : PA B b tail ts σ w) (hT : Tabs w) (s : ByteArray) (hs : s.size ≤ 1000) (p : Int) (ab : Opens) (op ol : List UInt8) (ha : σ.above = ab ++ [(op, ol)]) (hl : ab.length ≤ 1099511627776) (hop : op.length ≤ 1099511627776) :
 Calls Tryz.prog 174 #[.pointer (some ⟨b, 0, none⟩), .string s, .int .i64 p] w fun ed w' => ed = .returned (.tuple #[]) ∧ PA B b tail ts (doJob .name s.data.toList p σ).2 w' ∧ Kp B [160, TB] w w' := by
 obtain ⟨vr, vt, vl, va, h⟩ := h
 have c6 : w.cell? ⟨b, 6, none⟩ = some va := (h.blk.cell 6).trans (pcells_get ..).2.2.2.2.2.2.1
 have habv := h.above
 rw [ha] at habv
 obtain ⟨ba, off, cap, rfl, hBb, hnc, hcm, hlt, hcell, hfree⟩ := habv.pos (by simp)
 unfold maxLen at hcm
 have e1 : (ab ++ [(op, ol)]).length = ab.length + 1 := by simp
 have H0 := Lib.hid h
 rw [e1] at c6 hnc hcell H0
 have c1 : w.cell? ⟨ba, off + ab.length * 2 + 1, none⟩ = some (sv ol) := by
  rw [Nat.add_assoc, hcell _ (by omega), opCells_append, List.getElem?_append_right (by rw [opCells_length]; omega), opCells_length]
  simp [opCells]
 clear e1 h habv hcell hfree
 obtain ⟨m, hm⟩ : ∃ m, ab.length = m := ⟨_, rfl⟩
 rw [hm] at c6 hnc H0 c1 hl
 have HM := Lib.hid hm
 have HA := Lib.hid ha
 have HT := Lib.hid hT
 clear hm ha hT
 have q1 : IntKind.i64.wrap (m : Int) = (m : Int) := IntWalk.i64_in _ (by omega)
 have q2 : (0 : Int) ≤ (m : Int) := by omega
 have q3 : (m : Int) < (m : Int) + 1 := by omega
 have q4 : m < m + 1 := by omega
 have q6 : IntKind.i64.wrap ((m : Int) + 1 - 1) = (m : Int) := by rw [IntWalk.i64_in _ (by omega)]; omega
 unfold sv at c1
 have HD1 : Hid ((σ.above.getLastD ([], [])) = (op, ol)) := by show _ = _; rw [HA.out, List.getLastD_concat]
 have HD2 : Hid (σ.above.dropLast = ab) := by show _ = _; rw [HA.out, List.dropLast_concat]
 go_enter Tryz.func174, Tryz.ntmps174
 go_wp2_with fail
 go_quiet (fail)
 go_wp2_with fail
 refine (name_any s _ (by unfold maxLen; omega) (show Tabs (w.drewN nq) from HT.out)).mono ?_
 rintro e w4 ⟨rfl, hk2'⟩
 have hk2 := hk2'.of_drewN
 clear hk2'
 have H4 : Hid (PAt B b tail ts σ w4 vr vt vl (.slice (some ⟨ba, off, none⟩) (m + 1) cap)) := H0.out.keeps hk2
 have K4 : Hid (Kp B [160, TB] w w4) := Kp.of_keeps hk2
 have habv := H4.out.above
 rw [HA.out, show (ab ++ [(op, ol)]).length = m + 1 by rw [← HM.out]; simp] at habv
 have d1 : w4.cell? ⟨ba, off + m * 2 + 1, none⟩ = some (sv ol) := by
  have := (habv.at (m * 2 + 1) (by omega)).1
  rw [← Nat.add_assoc] at this
  rw [this, opCells_append, List.getElem?_append_right (by rw [opCells_length, HM.out]; omega), opCells_length, HM.out]
  simp [opCells]
 unfold sv at d1
 clear hk2 habv H0 c1 c6
 have hcs : nameB s.data.toList = false ∨ (nameB s.data.toList = true ∧ leS s.data.toList ol = true) ∨ (nameB s.data.toList = true ∧ leS s.data.toList ol = false) := by
  cases nameB s.data.toList <;> cases leS s.data.toList ol <;> simp
 rcases hcs with hn | ⟨hn, hle⟩ | ⟨hn, hle⟩
 case' inl =>
  have HF : Hid ((doJob .name s.data.toList p σ).2 = { σ.fail 6 p with above := ab ++ [(op, s.data.toList)], path := joinP op s.data.toList }) := by
   show _ = _
   simp only [doJob, hn, HD1.out, HD2.out, Bool.not_false, if_true]
  have HA4 : Hid ((σ.fail 6 p).above = ab ++ [(op, ol)]) := by show _ = _; rw [← HA.out]; unfold PSt.fail; split <;> rfl
  go_wp2_with fail
  refine (fail_at H4.out 6 p).mono ?_
  clear H4
  rintro e w4 ⟨rfl, ⟨vr, h4⟩, k4⟩
  have H4 := Lib.hid h4
  have K4 : Hid (Kp B [160, TB] w w4) := K4.out.trans (k4.mono (.inr ⟨Nat.le_refl _, by simp⟩))
  clear h4 k4 hn d1
  generalize σ.fail 6 p = σ4 at *
 case' inr.inl =>
  have HF : Hid ((doJob .name s.data.toList p σ).2 = { σ.fail 7 p with above := ab ++ [(op, s.data.toList)], path := joinP op s.data.toList }) := by
   show _ = _
   simp only [doJob, hn, hle, HD1.out, HD2.out, Bool.not_true, Bool.false_eq_true, if_true, if_false]
  have HA4 : Hid ((σ.fail 7 p).above = ab ++ [(op, ol)]) := by show _ = _; rw [← HA.out]; unfold PSt.fail; split <;> rfl
  have hb8 : (Op.bytesLess s.toList ol || s.toList == ol) = true := by rw [ByteArray.toList_eq]; exact hle
  clear hle
  go_wp2_with fail
  refine (fail_at H4.out 7 p).mono ?_
  clear H4
  rintro e w4 ⟨rfl, ⟨vr, h4⟩, k4⟩
  have H4 := Lib.hid h4
  have K4 : Hid (Kp B [160, TB] w w4) := K4.out.trans (k4.mono (.inr ⟨Nat.le_refl _, by simp⟩))
  clear h4 k4 hn d1
  generalize σ.fail 7 p = σ4 at *
 case' inr.inr =>
  have HF : Hid ((doJob .name s.data.toList p σ).2 = { σ with above := ab ++ [(op, s.data.toList)], path := joinP op s.data.toList }) := by
   show _ = _
   simp only [doJob, hn, hle, HD1.out, HD2.out, Bool.not_true, Bool.false_eq_true, if_false]
  have HA4 : Hid (σ.above = ab ++ [(op, ol)]) := HA
  have hb8 : (Op.bytesLess s.toList ol || s.toList == ol) = false := by rw [ByteArray.toList_eq]; exact hle
  clear hle
  go_upto_region 5 with (fail)
  clear hn d1 hb8
  obtain ⟨σ4, HF, H4', HA4⟩ : ∃ σ4 : PSt, Hid ((doJob .name s.data.toList p σ).2 = { σ4 with above := ab ++ [(op, s.data.toList)], path := joinP op s.data.toList }) ∧ Hid (PAt B b tail ts σ4 w4 vr vt vl (.slice (some ⟨ba, off, none⟩) (m + 1) cap)) ∧ Hid (σ4.above = ab ++ [(op, ol)]) := ⟨σ, HF, H4, HA⟩
  clear H4
  have H4 := H4'
  clear H4'
 all_goals (
  have habv := H4.out.above
  rw [HA4.out, show (ab ++ [(op, ol)]).length = m + 1 by rw [← HM.out]; simp] at habv
  have d1 : w4.cell? ⟨ba, off + m * 2 + 1, none⟩ = some (sv ol) := by
   have := (habv.at (m * 2 + 1) (by omega)).1
   rw [← Nat.add_assoc] at this
   rw [this, opCells_append, List.getElem?_append_right (by rw [opCells_length, HM.out]; omega), opCells_length, HM.out]
   simp [opCells]
  have g1 : w4.frozen? ⟨ba, off + m * 2 + 1, none⟩ = false := by
   have := (habv.at (m * 2 + 1) (by omega)).2
   rwa [← Nat.add_assoc] at this
  unfold sv at d1
  clear habv
  go_upto_region 6 with (fail)
  have hst := last_step H4.out HM.out.symm HA4.out s.data.toList
  rw [show sv s.data.toList = .string s from rfl] at hst
  generalize World.setCell w4 _ _ = w5 at *
  have H5 := Lib.hid hst.1
  have K5 : Hid (Kp B [160, TB] w w5) := K4.out.trans (hst.2.mono (.inr ⟨Nat.le_refl _, by simp⟩))
  clear hst d1 g1 H4 K4
  have d7 : w5.cell? ⟨b, 7, none⟩ = some (sv σ4.path) := (H5.out.blk.cell 7).trans (pcells_get ..).2.2.2.2.2.2.2
  have g7 := H5.out.blk.free 7
  unfold sv at d7
  go_upto_region 7 with (fail)
  have hst := path_step H5.out s.data.toList
  rw [show sv s.data.toList = .string s from rfl] at hst
  generalize World.setCell w5 _ _ = w6 at *
  have H6 := Lib.hid hst.1
  have K6 : Hid (Kp B [160, TB] w w6) := K5.out.trans (hst.2.mono (.inr ⟨Nat.le_refl _, by simp⟩))
  clear hst d7 g7 H5 K5
  have d7 : w6.cell? ⟨b, 7, none⟩ = some (sv s.data.toList) := (H6.out.blk.cell 7).trans (pcells_get ..).2.2.2.2.2.2.2
  have g7 := H6.out.blk.free 7
  have habv : Sl w6 B 160 2 (.slice (some ⟨ba, off, none⟩) (m + 1) cap) (ab ++ [(op, s.data.toList)]).length (opCells (ab ++ [(op, s.data.toList)])) := H6.out.above
  rw [show (ab ++ [(op, s.data.toList)]).length = m + 1 by rw [← HM.out]; simp] at habv
  have d1 : w6.cell? ⟨ba, off + m * 2, none⟩ = some (sv op) := by
   have := (habv.at (m * 2) (by omega)).1
   rw [this, opCells_append, List.getElem?_append_right (by rw [opCells_length, HM.out]; omega), opCells_length, HM.out]
   simp [opCells]
  unfold sv at d1 d7
  clear habv
  by_cases hde : op = []
  ·subst hde
   go_wp2_with fail
   go_end0
   refine ⟨rfl, ?_, K6.out⟩
   rw [HF.out, show joinP [] s.data.toList = s.data.toList by rw [joinP, if_pos rfl]]
   exact ⟨_, _, _, _, H6.out⟩
  ·have hb1 : (!op.isEmpty) = true := by cases op <;> simp at hde ⊢
   have hb2 : op.isEmpty = false := by cases op <;> simp at hde ⊢
   have HJ : Hid ((⟨op.toArray⟩ : ByteArray) ++ ⟨#[47]⟩ ++ s = ⟨(joinP op s.data.toList).toArray⟩) := by
    show _ = _
    rw [joinP, if_neg hde, show (⟨#[47]⟩ : ByteArray) = ⟨([47] : List UInt8).toArray⟩ from rfl, show s = ⟨s.data.toList.toArray⟩ from rfl, str_app, str_app, List.append_assoc, List.singleton_append]
   have hst := path_step H6.out (joinP op s.data.toList)
   have HST := Lib.hid hst
   clear hst
   go_wp2_with fail
   go_end0
   rw [show Value.string ((⟨op.toArray⟩ : ByteArray) ++ ⟨#[47]⟩ ++ s) = sv (joinP op s.data.toList) from congrArg Value.string HJ.out]
   refine ⟨rfl, ?_, K6.out.trans (HST.out.2.mono (.inr ⟨Nat.le_refl _, by simp⟩))⟩
   rw [HF.out]
   exact ⟨_, _, _, _, HST.out.1⟩)
end Go.Proofs.YtdkogijdfgfpeaaGreatDoor
