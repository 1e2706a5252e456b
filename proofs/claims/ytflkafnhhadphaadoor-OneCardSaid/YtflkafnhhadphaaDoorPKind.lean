/- (*tree.Parser).kind, dir. -/
import Derived.Test.YtflkafnhhadphaaDoorChecked
import Derived.Test.YtflkafnhhadphaaDoorPWord
import Derived.Test.YtflkafnhhadphaaDoorPAdd
import Derived.StillTailTactics
namespace Go.Proofs.YtflkafnhhadphaaDoor
open Go Go.RowKit
set_option linter.unusedVariables false

theorem infoOpenP : (Tryd.prog.info? 72).map (fun i => (i.zero, i.size, i.bytes)) = some (some (.agg #[.string ⟨#[]⟩, .string ⟨#[]⟩]), 2, 32) := by kernel_rfl
abbrev jobTs : List TypeId := [93, 34, 72, TB]
/-- a job, or what is behind a word, is done -/
def Did (B b : Nat) (tail : List Value) (ts : List (Job × Value)) (r : List Job × PSt) (w : World) (ed : Ending) (w' : World) : Prop :=
  ed = .returned (.tuple #[]) ∧ (∃ us : List (Job × Value), (us.map Prod.fst).reverse = r.1 ∧ PA B b tail (ts ++ us) r.2 w') ∧ Kp B jobTs w w'
theorem Did.plain {B b : Nat} {tail : List Value} {ts : List (Job × Value)} {r : List Job × PSt} {w w' : World} {ed : Ending} {Ts : List TypeId} (he : ed = .returned (.tuple #[])) (hr : r.1 = []) (h : PA B b tail ts r.2 w') (hk : Kp B Ts w w') (hT : ∀ T ∈ Ts, T ∈ jobTs) : Did B b tail ts r w ed w' :=
  ⟨he, ⟨[], by rw [hr]; rfl, by rwa [List.append_nil]⟩, hk.mono (.inr ⟨Nat.le_refl _, hT⟩)⟩
theorem Did.planned {B b : Nat} {tail : List Value} {ts us : List (Job × Value)} {r : List Job × PSt} {w w0 w' : World} {ed : Ending} (he : ed = .returned (.tuple #[])) (hr : us.map Prod.fst = r.1) (h : PA B b tail (ts ++ us.reverse) r.2 w') (hk0 : Kp B jobTs w w0) (hk : Kp B [93, TB] w0 w') : Did B b tail ts r w ed w' :=
  ⟨he, ⟨us.reverse, by rw [List.map_reverse, List.reverse_reverse, hr], h⟩, hk0.trans (hk.mono (.inr ⟨Nat.le_refl _, by simp⟩))⟩

set_option maxHeartbeats 1600000 in
set_option maxRecDepth 100000 in
theorem kind_any {B b : Nat} {tail : List Value} {ts : List (Job × Value)} {σ : PSt} {w : World} (h : PA B b tail ts σ w) (s : ByteArray) (p : Int) (hl : σ.nodes.length ≤ 1099511627776) (ha : σ.above.length ≤ 1099511627776) (ht : ts.length ≤ 1099511627000) :
    Calls Tryd.prog 71 #[.pointer (some ⟨b, 0, none⟩), .string s, .int .i64 p] w (Did B b tail ts (doAct .kind s.data.toList p σ) w) := by
  have H0 := Lib.hid h
  clear h
  by_cases h1 : s.data.toList = wFile
  · have hb : (s.toList == [102, 105, 108, 101]) = true := by rw [ByteArray.toList_eq, h1]; rfl
    have HS : Hid (doAct .kind s.data.toList p σ = ([.word [wExec, wData] .file], σ)) := by show _ = _; simp only [doAct, h1, if_true]
    clear h1
    go_enter Tryd.func71, Tryd.ntmps71
    go_wp2_with fail
    refine (word_any b [wExec, wData] .file _ _ (putArg w 2 _ [wExec, wData] _ rfl rfl rfl (by simp))).mono ?_
    rintro e w1 ⟨f1, rfl, hj1, hk1⟩
    have hk01 : Keeps Non w w1 := ((Keeps.refl _ _).alloc _).trans hk1 (fun k hk => .inl hk)
    have J1 := Lib.hid hj1
    have K1 := Lib.hid hk01
    have H1 := Lib.hid (H0.out.keeps hk01)
    clear hj1 hk1 hk01
    go_wp2_with fail
    refine (plan_new H1.out [(.word [wExec, wData] .file, f1)] 1 _ _ rfl rfl rfl (by omega) (by intro t ht; obtain rfl := List.mem_singleton.1 ht; exact J1.out) ht).mono ?_
    rintro e w2 ⟨rfl, h2, k2⟩
    have H2 := Lib.hid h2
    have K2 := Lib.hid k2
    clear h2 k2
    go_wp2_with fail
    go_end0
    rw [HS.out]
    exact Did.planned rfl rfl H2.out (Kp.of_keeps K1.out) K2.out
  have hb : (s.toList == [102, 105, 108, 101]) = false := by rw [ByteArray.toList_eq, beq_eq_false_iff_ne]; exact h1
  by_cases h2 : s.data.toList = wLink
  · have hb2 : (s.toList == [108, 105, 110, 107]) = true := by rw [ByteArray.toList_eq, h2]; rfl
    have HS : Hid (doAct .kind s.data.toList p σ = ([.word [wTo] .none, .leads, .word [wShut] .none], σ)) := by show _ = _; simp only [doAct, h2, if_true]; rfl
    clear h1 h2
    go_enter Tryd.func71, Tryd.ntmps71
    go_wp2_with fail
    refine (word_any b [wTo] .none _ _ (putArg w 1 _ [wTo] _ rfl rfl rfl (by simp))).mono ?_
    rintro e w1 ⟨f1, rfl, hj1, hk1⟩
    have hk01 : Keeps Non w w1 := ((Keeps.refl _ _).alloc _).trans hk1 (fun k hk => .inl hk)
    have J1 := Lib.hid hj1
    have K1 := Lib.hid hk01
    clear hj1 hk1 hk01
    go_wp2_with fail
    refine (text_any b 100 (.func (.func 82) #[.pointer (some ⟨b, 0, none⟩)] #[]) rfl ⟨_, _, _, rfl⟩ w1).mono ?_
    rintro e w2 ⟨rfl, hk2⟩
    have J12 := Lib.hid (J1.out.keeps hk2)
    have K2 := Lib.hid (K1.out.trans hk2 (fun k hk => .inl hk))
    clear hk2 J1 K1
    go_wp2_with fail
    refine (word_any b [wShut] .none _ _ (putArg w2 1 _ [wShut] _ rfl rfl rfl (by simp))).mono ?_
    rintro e w3 ⟨f3, rfl, hj3, hk3⟩
    have hk23 : Keeps Non w2 w3 := ((Keeps.refl _ _).alloc _).trans hk3 (fun k hk => .inl hk)
    have J13 := Lib.hid (J12.out.keeps hk23)
    have J3 := Lib.hid hj3
    have K3 := Lib.hid (K2.out.trans hk23 (fun k hk => .inl hk))
    have H3 := Lib.hid (H0.out.keeps K3.out)
    clear hj3 hk3 hk23 J12 K2
    go_wp2_with fail
    refine (plan_new H3.out [(.word [wTo] .none, f1), (.leads, .func (.func 82) #[.pointer (some ⟨b, 0, none⟩)] #[]), (.word [wShut] .none, f3)] 3 _ _ rfl rfl rfl (by omega) (by intro t ht; simp only [List.mem_cons, List.not_mem_nil, or_false] at ht; rcases ht with rfl | rfl | rfl; exact J13.out; rfl; exact J3.out) ht).mono ?_
    rintro e w4 ⟨rfl, h4, k4⟩
    have H4 := Lib.hid h4
    have K4 := Lib.hid k4
    clear h4 k4
    go_wp2_with fail
    go_end0
    rw [HS.out]
    exact Did.planned rfl rfl H4.out (Kp.of_keeps K3.out) K4.out
  have hb2 : (s.toList == [108, 105, 110, 107]) = false := by rw [ByteArray.toList_eq, beq_eq_false_iff_ne]; exact h2
  by_cases h3 : s.data.toList = wDir
  · have hb3 : (s.toList == [100, 105, 114]) = true := by rw [ByteArray.toList_eq, h3]; rfl
    have HS : Hid (doAct .kind s.data.toList p σ = ([dirJob], { σ.add 4 [] with above := σ.above ++ [(σ.path, [])] })) := by show _ = _; simp only [doAct, h3, if_true]; rfl
    clear h1 h2 h3
    go_enter Tryd.func71, Tryd.ntmps71
    go_wp2_with fail
    refine (add_any H0.out 4 ⟨#[]⟩ hl).mono ?_
    rintro e w1 ⟨rfl, h1, k1⟩
    have K1 : Hid (Kp B jobTs w w1) := k1.mono (.inr ⟨Nat.le_refl _, by simp⟩)
    have ha1 : (σ.add 4 []).above.length ≤ 1099511627776 := ha
    have HS2 : Hid ({ σ.add 4 [] with above := σ.above ++ [(σ.path, [])] } = { σ.add 4 [] with above := (σ.add 4 []).above ++ [((σ.add 4 []).path, [])] }) := rfl
    have h1' : PA B b tail ts (σ.add 4 []) w1 := h1
    rw [HS2.out] at HS
    generalize σ.add 4 [] = σ1 at *
    clear h1 k1 H0 HS2
    obtain ⟨vr, vt, vl, va, h1⟩ := h1'
    obtain ⟨i0, hi, hz0, hz1, hz2⟩ := info_parts infoOpenP
    have c6 : w1.cell? ⟨b, 6, none⟩ = some va := (h1.blk.cell 6).trans (pcells_get ..).2.2.2.2.2.2.1
    have c7 : w1.cell? ⟨b, 7, none⟩ = some (sv σ1.path) := (h1.blk.cell 7).trans (pcells_get ..).2.2.2.2.2.2.2
    unfold sv at c7
    have hsl := h1.above
    have hblt := h1.lt
    have hbw := h1.le
    have H := Lib.hid h1
    clear h1
    go_upto_region 7 with (fail)
    go_region_law (refine step_append_own2 rfl _ _ 55 55 rfl 72 i0 _ 2 32 Tryd.underlying55 hi hz0 hz1 hz2 rfl B va _ _ rfl _ rfl 1 [.string ⟨σ1.path.toArray⟩, .string ⟨#[]⟩] (by simp; omega) (by first | exact hsl.alloc _ | exact hsl) (by first | exact Src.ofSl Tryd.underlying55 (Sl.of_new w1 0 (Nat.zero_le _) 72 2 1 [.string ⟨σ1.path.toArray⟩, .string ⟨#[]⟩] rfl (by simp [maxLen])) (by intro u hu; simp only [List.mem_cons, List.not_mem_nil, or_false] at hu; rcases hu with rfl | rfl <;> rfl)) (by unfold maxLen; omega) (by omega) ?_; intro ao cc w2 hs1 hk1 hkk1 hb1; have HK1 := Lib.hid (Kp.of_drew hk1); have HS1 := Lib.hid hs1; have B1 := Lib.hid ((H.out.blk.alloc (.cells #[.string ⟨σ1.path.toArray⟩, .string ⟨#[]⟩] 72)).kp HK1.out (.inr (by decide))); have c61 : w2.cell? ⟨b, 6, none⟩ = some va := (B1.out.cell 6).trans (pcells_get ..).2.2.2.2.2.2.1; have f61 := B1.out.free 6; clear hs1 hk1 hkk1 hb1)
    all_goals (
      have hst := push_step H.out _ ao cc (σ1.above.length + 1) rfl (by have h1 := HS1.out; simpa [sv] using h1) HK1.out
      go_upto_region 8 with (fail)
      have HST := Lib.hid hst
      have H2 : Hid (PA B b tail ts { σ1 with above := σ1.above ++ [(σ1.path, [])] } _) := ⟨_, _, _, _, hst.1⟩
      have K2 : Hid (Kp B jobTs w _) := K1.out.trans (hst.2.mono (.inr ⟨Nat.le_refl _, by simp⟩))
      clear hst HST
      generalize World.setCell w2 _ _ = w3 at *
      go_wp2_with fail
      refine (word_any b [wEntry, wShut] .dir _ _ (putArg w3 2 _ [wEntry, wShut] _ rfl rfl rfl (by simp))).mono ?_
      rintro e w4 ⟨f1, rfl, hj1, hk1⟩
      have hk01 : Keeps Non w3 w4 := ((Keeps.refl _ _).alloc _).trans hk1 (fun k hk => .inl hk)
      have J1 := Lib.hid hj1
      have K3 := Lib.hid (K2.out.trans (Kp.of_keeps hk01))
      have H3 := Lib.hid (H2.out.keeps hk01)
      clear hj1 hk1 hk01
      go_wp2_with fail
      refine (plan_new H3.out [(dirJob, f1)] 1 _ _ rfl rfl rfl (by omega) (by intro t ht; obtain rfl := List.mem_singleton.1 ht; exact J1.out) ht).mono ?_
      rintro e w5 ⟨rfl, h5, k5⟩
      have H5 := Lib.hid h5
      have K5 := Lib.hid k5
      clear h5 k5
      go_wp2_with fail
      go_end0
      rw [HS.out]
      exact Did.planned rfl rfl H5.out K3.out K5.out)
  · have hb3 : (s.toList == [100, 105, 114]) = false := by rw [ByteArray.toList_eq, beq_eq_false_iff_ne]; exact h3
    have HS : Hid (doAct .kind s.data.toList p σ = ([], σ)) := by show _ = _; simp only [doAct, if_neg h1, if_neg h2, if_neg h3]
    clear h1 h2 h3
    go_enter Tryd.func71, Tryd.ntmps71
    go_wp2_with fail
    go_end0
    rw [HS.out]
    exact Did.plain (Ts := []) rfl rfl H0.out (Kp.refl _ _ _) (by simp)
end Go.Proofs.YtflkafnhhadphaaDoor
