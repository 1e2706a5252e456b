/- (*tree.Parser).dir. -/
import Derived.Test.YtflkafnhhadphaaDoorChecked
import Derived.Test.YtflkafnhhadphaaDoorPKind
namespace Go.Proofs.YtflkafnhhadphaaDoor
open Go Go.RowKit
set_option linter.unusedVariables false

def dirWs (b : Nat) (f1 f2 f4 : Value) : List (Job × Value) := [(.word [wOpen] .none, f1), (.word [wName] .none, f2), (.name, .func (.func 89) #[.pointer (some ⟨b, 0, none⟩)] #[]), (.word [wNode] .none, f4)]
theorem want_one {us : List (Job × Value)} (h : ∀ t ∈ us, t.2.oneCell' = true) : ∀ u ∈ wantCells us, u.oneCell' = true := fun u hu => by
  simp only [wantCells, List.mem_flatMap, wantC, List.mem_cons, List.not_mem_nil, or_false] at hu
  obtain ⟨t, ht, rfl | rfl⟩ := hu
  · rfl
  · exact h t ht
/-- the directory on top is over -/
theorem pop_step {B b : Nat} {tail : List Value} {ts : List (Job × Value)} {σ : PSt} {w : World} {vr vt vl : Value} {ao : Option Addr} {m cap : Nat} (H : PAt B b tail ts σ w vr vt vl (.slice ao (m + 1) cap)) (hm : σ.above.length = m + 1) :
    PAt B b tail ts { σ with above := σ.above.dropLast } (w.setCell ⟨b, 6, none⟩ (.slice ao m cap)) vr vt vl (.slice ao m cap) ∧ Kp B [TB] w (w.setCell ⟨b, 6, none⟩ (.slice ao m cap)) := by
  have k := H.kpSet 6 (.slice ao m cap)
  have b1 := H.blk.set 6 (.slice ao m cap)
  rw [(pcells_set ..).2.2.2.2.2.2.1] at b1
  obtain ⟨p1, p2, p3, p4, p5⟩ := H.parts k
  refine ⟨⟨b1, H.le, p1, p2, p3, ?_, p5⟩, k⟩
  rw [hm] at p4
  have h := p4.take (m := m) (by omega)
  show Sl _ B _ 2 _ σ.above.dropLast.length (opCells σ.above.dropLast)
  have e : σ.above.dropLast = σ.above.take m := by rw [List.dropLast_eq_take, hm]; rfl
  have e2 : opCells (σ.above.take m) = (opCells σ.above).take (m * 2) := by
    have h1 : opCells σ.above = opCells (σ.above.take m) ++ opCells (σ.above.drop m) := by rw [← opCells_append, List.take_append_drop]
    have hl : (opCells (σ.above.take m)).length = m * 2 := by rw [opCells_length, List.length_take, hm, Nat.min_eq_left (by omega)]
    rw [h1]
    exact (List.take_left' hl).symm
  rw [e, e2, List.length_take, Nat.min_eq_left (by omega)]
  exact h

set_option maxHeartbeats 1600000 in
set_option maxRecDepth 100000 in
theorem dir_any {B b : Nat} {tail : List Value} {ts : List (Job × Value)} {σ : PSt} {w : World} (h : PA B b tail ts σ w) (s : ByteArray) (p : Int) (ha : σ.above.length ≤ 1099511627776) (hne : 0 < σ.above.length) (ht : ts.length ≤ 1099511627000) :
    Calls Tryd.prog 84 #[.pointer (some ⟨b, 0, none⟩), .string s, .int .i64 p] w (Did B b tail ts (doAct .dir s.data.toList p σ) w) := by
  by_cases h1 : s.data.toList = wShut
  · have hb : (s.toList == [41]) = true := by rw [ByteArray.toList_eq, h1]; rfl
    have HS : Hid (doAct .dir s.data.toList p σ = ([], { σ with above := σ.above.dropLast })) := by show _ = _; simp only [doAct, h1, if_true]
    clear h1
    obtain ⟨vr, vt, vl, va, h⟩ := h
    have c6 : w.cell? ⟨b, 6, none⟩ = some va := (h.blk.cell 6).trans (pcells_get ..).2.2.2.2.2.2.1
    have f6 := h.blk.free 6
    obtain ⟨m, hm⟩ : ∃ m, σ.above.length = m + 1 := ⟨σ.above.length - 1, by omega⟩
    obtain ⟨ao, cap, rfl, hc1, hc2⟩ := h.above.shape
    unfold maxLen at hc2
    rw [hm] at h c6 hc1 ha
    have H := Lib.hid h
    have HM := Lib.hid hm
    clear h hm hne
    have hst := pop_step H.out HM.out
    have HST := Lib.hid hst
    clear hst
    have q1 : IntKind.i64.wrap (m : Int) = (m : Int) := IntWalk.i64_in _ (by omega)
    have q2 : (0 : Int) ≤ (m : Int) := by omega
    have q3 : (m : Int) < (m : Int) + 1 := by omega
    have q4 : m < m + 1 := by omega
    have q5 : (0 : Int) < (m : Int) + 1 := by omega
    have q7 : (m : Int) ≤ (cap : Int) := by omega
    have q8 : m ≤ cap := by omega
    have q6 : IntKind.i64.wrap ((m : Int) + 1 - 1) = (m : Int) := by rw [IntWalk.i64_in _ (by omega)]; omega
    go_enter Tryd.func84, Tryd.ntmps84
    go_wp2_with fail
    go_still_tail 14, (by kernel_rfl)
    go_wp2_with fail
    go_end0
    rw [HS.out]
    exact Did.plain (Ts := [TB]) rfl rfl ⟨_, _, _, _, HST.out.1.keeps ((Keeps.refl _ _).drew)⟩ HST.out.2.drew (by simp)
  · have hb : (s.toList == [41]) = false := by rw [ByteArray.toList_eq, beq_eq_false_iff_ne]; exact h1
    have HS : Hid (doAct .dir s.data.toList p σ = ([.word [wOpen] .none, .word [wName] .none, .name, .word [wNode] .none] ++ nodeJobs ++ [.word [wShut] .none, dirJob], σ)) := by show _ = _; simp only [doAct, if_neg h1]
    clear h1
    obtain ⟨vr, vt, vl, va, h⟩ := h
    have hown : Hid (∀ k, w.heap.size ≤ k → vt.ownBlock ≠ some k) := fun k hk e => by have := h.todo.own_lt e; omega
    have H0 := Lib.hid h
    clear h
    obtain ⟨i0, hi, hz0, hz1, hz2⟩ := info_parts infoWant
    go_enter Tryd.func84, Tryd.ntmps84
    go_wp2_with fail
    refine (word_any b [wOpen] .none _ _ (putArg w 1 _ [wOpen] _ rfl rfl rfl (by simp))).mono ?_
    rintro e w1 ⟨f1, rfl, hj1, hk1⟩
    have hk01 : Keeps Non w w1 := ((Keeps.refl _ _).alloc _).trans hk1 (fun k hk => .inl hk)
    have J1 := Lib.hid hj1
    have K1 := Lib.hid hk01
    clear hj1 hk1 hk01
    go_wp2_with fail
    refine (word_any b [wName] .none _ _ (putArg w1 1 _ [wName] _ rfl rfl rfl (by simp))).mono ?_
    rintro e w2 ⟨f2, rfl, hj2, hk2⟩
    have hk12 : Keeps Non w1 w2 := ((Keeps.refl _ _).alloc _).trans hk2 (fun k hk => .inl hk)
    have J12 := Lib.hid (J1.out.keeps hk12)
    have J2 := Lib.hid hj2
    have K2 := Lib.hid (K1.out.trans hk12 (fun k hk => .inl hk))
    clear hj2 hk2 hk12 J1 K1
    go_wp2_with fail
    refine (text_any b 48 (.func (.func 89) #[.pointer (some ⟨b, 0, none⟩)] #[]) rfl ⟨_, _, _, rfl⟩ w2).mono ?_
    rintro e w3 ⟨rfl, hk3⟩
    have J13 := Lib.hid (J12.out.keeps hk3)
    have J23 := Lib.hid (J2.out.keeps hk3)
    have K3 := Lib.hid (K2.out.trans hk3 (fun k hk => .inl hk))
    clear hk3 J12 J2 K2
    go_wp2_with fail
    refine (word_any b [wNode] .none _ _ (putArg w3 1 _ [wNode] _ rfl rfl rfl (by simp))).mono ?_
    rintro e w4 ⟨f4, rfl, hj4, hk4⟩
    have hk34 : Keeps Non w3 w4 := ((Keeps.refl _ _).alloc _).trans hk4 (fun k hk => .inl hk)
    have J14 := Lib.hid (J13.out.keeps hk34)
    have J24 := Lib.hid (J23.out.keeps hk34)
    have J4 := Lib.hid hj4
    have K4 := Lib.hid (K3.out.trans hk34 (fun k hk => .inl hk))
    clear hj4 hk4 hk34 J13 J23 K3
    go_wp2_with fail
    have hw1 := wantArg (w := w4) (dirWs b f1 f2 f4) 4 _ _ rfl rfl rfl (by omega)
    refine (node_any b _).mono ?_
    rintro e w5 ⟨g1, g2, g3, bl, rfl, hsl5, hbl5, hj5, hk5⟩
    have hz := K4.out.size
    have HW1 : Hid (Sl w5 0 93 2 (.slice (some ⟨w4.heap.size, 0, none⟩) 4 4) 4 (wantCells (dirWs b f1 f2 f4))) := hw1.kp (Kp.of_keeps (B := 0) (Ts := []) hk5) (.inl (by simp))
    have hk45 : Keeps Non w4 w5 := ((Keeps.refl _ _).alloc _).trans hk5 (fun k hk => .inl hk)
    have K5 := Lib.hid (K4.out.trans hk45 (fun k hk => .inl hk))
    have J15 := Lib.hid (J14.out.keeps hk45)
    have J25 := Lib.hid (J24.out.keeps hk45)
    have J45 := Lib.hid (J4.out.keeps hk45)
    have HSL5 := Lib.hid hsl5
    have HJ5 := Lib.hid hj5
    have HSZ5 : Hid (w.heap.size ≤ w5.heap.size) := K5.out.size
    generalize w4.heap.size = z at *
    have HZ : Hid (w.heap.size ≤ z) := hz
    clear hw1 hbl5 hk5 hk45 J14 J24 J4 K4 hsl5 hj5 hz
    go_wp2_with (at_builtin; refine wpList_append_own2 rfl _ _ 53 53 rfl 93 i0 _ 2 16 Tryd.underlying53 hi hz0 hz1 hz2 rfl 0 _ 4 (wantCells (dirWs b f1 f2 f4)) rfl _ rfl 3 (wantCells (nodeWs g1 g2 g3)) (Nat.zero_le _) HW1.out ?c2 ?c3 ?c4 ?_)
    case c2 => exact Src.ofSl Tryd.underlying53 HSL5.out (want_one (fun t ht => (HJ5.out t ht).one))
    case c3 => unfold maxLen; omega
    case c4 => omega
    intro ao cc w6 hs6 hk6 hkk6 hb6
    have sub : ∀ T ∈ ([93] : List TypeId), T ∈ paTs := by intro T hT; simp only [List.mem_singleton] at hT; subst hT; simp
    have HS6 := Lib.hid hs6
    have J16 := Lib.hid (J15.out.kp hk6 sub)
    have J26 := Lib.hid (J25.out.kp hk6 sub)
    have J46 := Lib.hid (J45.out.kp hk6 sub)
    have HJ6 : Hid (∀ t ∈ nodeWs g1 g2 g3, JobAt w6 b t.1 t.2) := fun t ht => (HJ5.out t ht).kp hk6 sub
    have K6 : Hid (Keeps Non w w6) := K5.out.trans hkk6 (fun k hk => .inr (by cases hk; exact HZ.out))
    have HB6 : Hid (∀ k, (Value.slice ao (4 + 3) cc).ownBlock = some k → w.heap.size ≤ k) := fun k hk => by
      rcases hb6 with e | e
      · rw [e] at hk; cases hk; exact HZ.out
      · rw [e] at hk; cases hk; exact HSZ5.out
    clear hs6 hk6 hkk6 hb6 J15 J25 J45 HJ5 HSL5 HW1 K5
    go_wp2_with fail
    refine (word_any b [wShut] .none _ _ (putArg w6 1 _ [wShut] _ rfl rfl rfl (by simp))).mono ?_
    rintro e w7 ⟨f8, rfl, hj7, hk7⟩
    have hk67 : Keeps Non w6 w7 := ((Keeps.refl _ _).alloc _).trans hk7 (fun k hk => .inl hk)
    have J17 := Lib.hid (J16.out.keeps hk67)
    have J27 := Lib.hid (J26.out.keeps hk67)
    have J47 := Lib.hid (J46.out.keeps hk67)
    have HJ7 : Hid (∀ t ∈ nodeWs g1 g2 g3, JobAt w7 b t.1 t.2) := fun t ht => (HJ6.out t ht).keeps hk67
    have J87 := Lib.hid hj7
    have HS7 := Lib.hid (HS6.out.kp (Kp.of_keeps (B := 0) (Ts := []) hk67) (.inl (by simp)))
    have K7 := Lib.hid (K6.out.trans hk67 (fun k hk => .inl hk))
    clear hj7 hk7 hk67 J16 J26 J46 HJ6 HS6 K6
    go_wp2_with fail
    refine (word_any b [wEntry, wShut] .dir _ _ (putArg w7 2 _ [wEntry, wShut] _ rfl rfl rfl (by simp))).mono ?_
    rintro e w8 ⟨f9, rfl, hj8, hk8⟩
    have hk78 : Keeps Non w7 w8 := ((Keeps.refl _ _).alloc _).trans hk8 (fun k hk => .inl hk)
    have hk78' := hk78.alloc (.cells (wantCells [((.word [wShut] .none : Job), f8), (dirJob, f9)]).toArray 93)
    have J18 := Lib.hid (J17.out.keeps hk78')
    have J28 := Lib.hid (J27.out.keeps hk78')
    have J48 := Lib.hid (J47.out.keeps hk78')
    have HJ8 : Hid (∀ t ∈ nodeWs g1 g2 g3, JobAt (w8.alloc (.cells (wantCells [((.word [wShut] .none : Job), f8), (dirJob, f9)]).toArray 93)) b t.1 t.2) := fun t ht => (HJ7.out t ht).keeps hk78'
    have J88 := Lib.hid (J87.out.keeps hk78')
    have J98 := Lib.hid (hj8.alloc (.cells (wantCells [((.word [wShut] .none : Job), f8), (dirJob, f9)]).toArray 93))
    have HS8 := Lib.hid (HS7.out.kp (Kp.of_keeps (B := 0) (Ts := []) hk78') (.inl (by simp)))
    have K8 := Lib.hid (K7.out.trans hk78' (fun k hk => .inl hk))
    have HA8 := Lib.hid (wantArg (w := w8) [((.word [wShut] .none : Job), f8), (dirJob, f9)] 2 _ _ rfl rfl rfl (by omega))
    clear hj8 hk8 hk78 hk78' J17 J27 J47 J87 HJ7 HS7 K7
    go_wp2_with (at_builtin; refine wpList_append_own2 rfl _ _ 53 53 rfl 93 i0 _ 2 16 Tryd.underlying53 hi hz0 hz1 hz2 rfl 0 _ _ _ rfl _ rfl 2 (wantCells [((.word [wShut] .none : Job), f8), (dirJob, f9)]) (Nat.zero_le _) HS8.out ?c2 ?c3 ?c4 ?_)
    case c2 => exact Src.ofSl Tryd.underlying53 HA8.out (want_one (fun t ht => by simp only [List.mem_cons, List.not_mem_nil, or_false] at ht; rcases ht with rfl | rfl; exact J88.out.one; exact J98.out.one))
    case c3 => unfold maxLen; omega
    case c4 => omega
    intro ao2 cc2 w9 hs9 hk9 hkk9 hb9
    have sub : ∀ T ∈ ([93] : List TypeId), T ∈ paTs := by intro T hT; simp only [List.mem_singleton] at hT; subst hT; simp
    have K9 : Hid (Keeps Non w w9) := K8.out.trans hkk9 (fun k hk => .inr (HB6.out k hk))
    have HB9 : Hid (∀ k, (Value.slice ao2 (4 + 3 + 2) cc2).ownBlock = some k → w.heap.size ≤ k) := fun k hk => by
      rcases hb9 with e | e
      · rw [e] at hk; exact HB6.out k hk
      · rw [e] at hk; cases hk; have h8 := K8.out.size; rw [World.size_alloc] at h8; exact h8
    obtain ⟨us, hus⟩ : ∃ us : List (Job × Value), us = dirWs b f1 f2 f4 ++ nodeWs g1 g2 g3 ++ [((.word [wShut] .none : Job), f8), (dirJob, f9)] := ⟨_, rfl⟩
    have HJ9 : Hid (∀ t ∈ us, JobAt w9 b t.1 t.2) := by
      intro t ht
      refine JobAt.kp ?_ hk9 sub
      rw [hus] at ht
      rcases List.mem_append.1 ht with ht | ht
      · rcases List.mem_append.1 ht with ht | ht
        · simp only [dirWs, List.mem_cons, List.not_mem_nil, or_false] at ht
          rcases ht with rfl | rfl | rfl | rfl
          · exact J18.out
          · exact J28.out
          · rfl
          · exact J48.out
        · exact HJ8.out t ht
      · simp only [List.mem_cons, List.not_mem_nil, or_false] at ht
        rcases ht with rfl | rfl
        · exact J88.out
        · exact J98.out
    have hul : us.length = 4 + 3 + 2 := by rw [hus]; rfl
    have hs9' : Sl w9 0 93 2 (.slice ao2 (4 + 3 + 2) cc2) us.length (wantCells us) := by
      rw [hul, hus, wantCells_append, wantCells_append]
      exact hs9
    obtain ⟨bl2, ol2, cp2, hsh, -, -, -, -, -, -⟩ := hs9'.pos (by omega)
    rw [hul] at hsh
    cases hsh
    have hmap : us.map Prod.fst = [.word [wOpen] .none, .word [wName] .none, .name, .word [wNode] .none] ++ nodeJobs ++ [.word [wShut] .none, dirJob] := by rw [hus]; rfl
    have HMAP := Lib.hid hmap
    have HUL := Lib.hid hul
    have hpl := plan_any (H0.out.keeps K9.out) us bl2 ol2 cc2 (by rw [hul] at hs9' ⊢; exact hs9') (fun e => hown.out _ (HB9.out bl2 rfl) e) HJ9.out (by omega)
    have HPL := Lib.hid hpl
    clear hs9 hs9' hk9 hkk9 hb9 hus hul hmap hpl HB6 HB9 J18 J28 J48 J88 J98 HJ8 HS8 HA8 K8 HJ9 HZ HSZ5 hi hz0 hz1 hz2
    rw [HUL.out] at HPL
    go_wp2_with fail
    refine HPL.out.mono ?_
    rintro e w10 ⟨rfl, h10, k10⟩
    have H10 := Lib.hid h10
    have K10 := Lib.hid k10
    clear h10 k10
    go_wp2_with fail
    go_end0
    rw [HS.out]
    exact Did.planned rfl HMAP.out H10.out (Kp.of_keeps K9.out) K10.out
end Go.Proofs.YtflkafnhhadphaaDoor
