/- (*tree.Parser).Close, Tree; nar.NewReader, (*nar.Reader).Feed, Close. -/
import Derived.Test.YtflkafnhhadphaaDoorChecked
import Derived.Test.YtflkafnhhadphaaDoorPLoop
namespace Go.Proofs.YtflkafnhhadphaaDoor
open Go Go.RowKit
set_option linter.unusedVariables false

/- plain: how far -/
theorem doJob_at (j : Job) (s : List UInt8) (p : Int) (σ : PSt) : (doJob j s p σ).2.at' = σ.at' := by
  cases j with
  | word may act =>
    simp only [doJob]
    split
    · cases act <;> simp only [doAct]
      · split
        · exact (fail_above ..).2.2.2.1
        · split
          · exact (fail_above ..).2.2.2.1
          · rfl
      · split
        · rfl
        · split
          · rfl
          · split <;> rfl
      · split <;> rfl
      · split <;> rfl
    · exact (fail_above ..).2.2.2.1
  | leads =>
    simp only [doJob]
    split
    · rfl
    · exact (fail_above ..).2.2.2.1
  | name =>
    simp only [doJob]
    split
    · exact (fail_above ..).2.2.2.1
    · split
      · exact (fail_above ..).2.2.2.1
      · rfl
  | keep k => rfl
theorem runF_sum : ∀ (f : Nat) (js : List Job) (σ : PSt), (runF f js σ).2.at' + (runF f js σ).2.rest.length ≤ σ.at' + σ.rest.length
  | 0, _, _ => Nat.le_refl _
  | f + 1, [], σ => by
    simp only [runF]
    split
    · exact Nat.le_refl _
    · have := fail_above σ 10 σ.at'; omega
  | f + 1, j :: js, σ => by
    simp only [runF]
    cases hn : σ.next j.most with
    | mk o σ1 =>
      cases o with
      | none =>
        simp only
        rcases next_none hn with e | ⟨e0, e⟩
        · rw [e]; exact Nat.le_refl _
        · rw [e]; have := fail_above σ e0 σ.at'; omega
      | some s =>
        simp only
        obtain ⟨-, k, h1, h2, h3, h4, h5⟩ := next_some hn
        have := runF_sum f ((doJob j s σ.at' σ1).1 ++ js) (doJob j s σ.at' σ1).2
        have h6 := doJob_rest j s σ.at' σ1
        have h7 := doJob_at j s σ.at' σ1
        have h8 : σ1.at' + σ1.rest.length = σ.at' + σ.rest.length := by rw [h5]; simp only [List.length_drop]; omega
        omega
theorem run_sum (js : List Job) (σ : PSt) : (run js σ).2.at' + (run js σ).2.rest.length ≤ σ.at' + σ.rest.length := runF_sum _ js σ
theorem feed_sum (σ : PSt) (t : List UInt8) : (σ.feed t).at' + (σ.feed t).rest.length ≤ σ.at' + σ.rest.length + t.length := by
  unfold PSt.feed; split
  · simp only [List.length_append]; omega
  · omega
theorem PI.feed {B b : Nat} {tail : List Value} {ts : List (Job × Value)} {σ : PSt} {w w' : World} (h : PI B b tail ts σ w) (t : List UInt8) (hs : σ.at' + σ.rest.length + t.length ≤ 549755813888) (hp : PA B b tail ts (σ.feed t) w') : PI B b tail ts (σ.feed t) w' := by
  have hsum := feed_sum σ t
  refine ⟨hp, ?_, ?_, h.dry.feed t⟩
  · have e : (σ.feed t).above = σ.above := by unfold PSt.feed; split <;> rfl
    rw [e]; exact h.ok
  · obtain ⟨h1, h2, h3, h4, h5, h6⟩ := h.fit
    have e : (σ.feed t).above = σ.above ∧ (σ.feed t).nodes = σ.nodes ∧ (σ.feed t).path = σ.path ∧ (σ.feed t).at' = σ.at' := by unfold PSt.feed; split <;> exact ⟨rfl, rfl, rfl, rfl⟩
    exact ⟨by omega, by rw [e.2.2.2]; exact h2, by rw [e.2.1, e.2.2.2]; exact h3, by rw [e.1, e.2.2.2]; exact h4, by rw [e.2.2.1, e.2.2.2]; exact h5, fun o ho => by rw [e.2.2.2]; exact h6 o (by rwa [e.1] at ho)⟩

set_option maxHeartbeats 800000 in
set_option maxRecDepth 100000 in
theorem pclose_any {B b : Nat} {tail : List Value} {ts : List (Job × Value)} {σ : PSt} {w : World} (h : PI B b tail ts σ w) :
    Calls Tryd.prog 30 #[.pointer (some ⟨b, 0, none⟩)] w fun ed w' => ed = .returned (.tuple #[.int .i64 (finish (jsOf ts, σ)).err, .int .i64 (finish (jsOf ts, σ)).bad]) ∧ PA B b tail ts (finish (jsOf ts, σ)) w' ∧ Kp B [TB] w w' := by
  have H := Lib.hid h
  obtain ⟨vr, vt, vl, va, hp⟩ := h.pa
  obtain ⟨ao, cp, rfl, -, -⟩ := hp.todo.shape
  have c4 : w.cell? ⟨b, 4, none⟩ = some (.slice ao ts.length cp) := (hp.blk.cell 4).trans (pcells_get ..).2.2.2.2.1
  clear h hp
  by_cases ht : ts.length = 0
  · have hd : decide ((0 : Int) < (ts.length : Int)) = false := decide_eq_false (by omega)
    have hd2 : decide (0 < ts.length) = false := decide_eq_false (by omega)
    have HF : Hid (finish (jsOf ts, σ) = σ) := by
      show _ = _
      rw [finish, if_pos (List.eq_nil_of_length_eq_zero (by rw [jsOf_length]; exact ht))]
    clear ht
    go_enter Tryd.func30, Tryd.ntmps30
    go_wp2_with fail
    refine (err_any H.out.pa).mono ?_
    rintro e w1 ⟨rfl, hk⟩
    have H1 := Lib.hid (H.out.pa.keeps hk)
    have K1 : Hid (Kp B [TB] w w1) := Kp.of_keeps hk
    clear hk
    go_wp2_with fail
    go_ret2
    rw [HF.out]
    exact ⟨rfl, H1.out, K1.out⟩
  · have hd : decide ((0 : Int) < (ts.length : Int)) = true := decide_eq_true (by omega)
    have hd2 : decide (0 < ts.length) = true := decide_eq_true (by omega)
    have HF : Hid (finish (jsOf ts, σ) = σ.fail 2 ((σ.at' : Int) + (σ.rest.length : Int))) := by
      show _ = _
      rw [finish, if_neg]
      intro e
      have := jsOf_length ts
      rw [show jsOf ts = [] from e] at this
      exact ht this.symm
    clear ht
    go_enter Tryd.func30, Tryd.ntmps30
    go_wp2_with fail
    refine (end_any H.out.pa H.out.fit.fit).mono ?_
    rintro e w1 ⟨rfl, h1, k1⟩
    have H1 := Lib.hid h1
    have K1 := Lib.hid k1
    clear h1 k1
    go_wp2_with fail
    refine (err_any H1.out).mono ?_
    rintro e w2 ⟨rfl, hk⟩
    have H2 := Lib.hid (H1.out.keeps hk)
    have K2 : Hid (Kp B [TB] w w2) := K1.out.trans (Kp.of_keeps hk)
    clear hk
    go_wp2_with fail
    go_ret2
    rw [HF.out]
    exact ⟨rfl, H2.out, K2.out⟩

def zeroP : PSt := ⟨[], 0, 0, 0, [], [], []⟩
theorem pa_zero (w : World) (tail : List Value) : PAt w.heap.size w.heap.size tail [] fresh (w.alloc (.cells (pcells (.slice none 0 0) 0 0 0 (.slice none 0 0) (.slice none 0 0) (.slice none 0 0) [] tail) TB)) (.slice none 0 0) (.slice none 0 0) (.slice none 0 0) (.slice none 0 0) :=
  ⟨Blk.new _ _ _, Nat.le_refl _, Sl.nil _ _ _ _, Sl.nil _ _ _ _, Sl.nil _ _ _ _, Sl.nil _ _ _ _, by intro t ht; cases ht⟩
set_option maxHeartbeats 1600000 in
set_option maxRecDepth 100000 in
theorem ptree_any {b : Nat} {tail : List Value} {w : World} (h : PAt b b tail [] fresh w (.slice none 0 0) (.slice none 0 0) (.slice none 0 0) (.slice none 0 0)) :
    Calls Tryd.prog 27 #[.pointer (some ⟨b, 0, none⟩)] w fun ed w' => ed = .returned (.tuple #[]) ∧ (∃ ts, jsOf ts = treeJobs ∧ PA b b tail ts fresh w') ∧ Kp b runTs w w' := by
  obtain ⟨g0, g1, g2, g3, g4, g5, g6, g7⟩ := pcells_get (.slice none 0 0) fresh.at' fresh.err fresh.bad (.slice none 0 0) (.slice none 0 0) (.slice none 0 0) fresh.path tail
  have c5 := (h.blk.cell 5).trans g5
  have c6 := (h.blk.cell 6).trans g6
  have c7 := (h.blk.cell 7).trans g7
  have f5 := h.blk.free 5
  have f6 := h.blk.free 6
  have f7 := h.blk.free 7
  have b1 := h.blk.set 5 (.slice none 0 0)
  rw [(pcells_set ..).2.2.2.2.2.1] at b1
  have b2 := b1.set 6 (.slice none 0 0)
  rw [(pcells_set ..).2.2.2.2.2.2.1] at b2
  have b3 := b2.set 7 (sv [])
  rw [(pcells_set ..).2.2.2.2.2.2.2] at b3
  have k3 := ((h.kpSet 5 (.slice none 0 0)).set b1 (.inr ⟨h.le, by simp⟩) 6 (.slice none 0 0)).set b2 (.inr ⟨h.le, by simp⟩) 7 (sv [])
  have h3 : PAt b b tail [] fresh (((w.setCell ⟨b, 5, none⟩ (.slice none 0 0)).setCell ⟨b, 6, none⟩ (.slice none 0 0)).setCell ⟨b, 7, none⟩ (sv [])) (.slice none 0 0) (.slice none 0 0) (.slice none 0 0) (.slice none 0 0) := ⟨b3, Nat.le_refl _, Sl.nil _ _ _ _, Sl.nil _ _ _ _, Sl.nil _ _ _ _, Sl.nil _ _ _ _, by intro t ht; cases ht⟩
  have H3 := Lib.hid h3
  have K3 := Lib.hid k3
  clear g0 g1 g2 g3 g4 g5 g6 g7 b1 b2 b3 k3 h3 h
  unfold sv at H3 K3 c7
  go_enter Tryd.func27, Tryd.ntmps27
  go_upto_region 1 with (fail)
  obtain ⟨i0, hi, hz0, hz1, hz2⟩ := info_parts infoWant
  have hbw := H3.out.blk.lt
  generalize ((w.setCell ⟨b, 5, none⟩ (.slice none 0 0)).setCell ⟨b, 6, none⟩ (.slice none 0 0)).setCell ⟨b, 7, none⟩ (.string ⟨#[]⟩) = w1 at *
  clear c5 c6 c7 f5 f6 f7
  go_wp2_with fail
  refine (word_any b [wNar] .none _ _ (putArg w1 1 _ [wNar] _ rfl rfl rfl (by simp))).mono ?_
  rintro e w2 ⟨f1, rfl, hj2, hk2⟩
  have hk12 : Keeps Non w1 w2 := ((Keeps.refl _ _).alloc _).trans hk2 (fun k hk => .inl hk)
  have J2 := Lib.hid hj2
  have K2 := Lib.hid hk12
  clear hj2 hk2 hk12
  go_wp2_with fail
  have hw1 := wantArg (w := w2) [((.word [wNar] .none : Job), f1)] 1 _ _ rfl rfl rfl (by omega)
  refine (node_any b _).mono ?_
  rintro e w3 ⟨n1, n2, n3, bl, rfl, hsl3, hbl3, hj3, hk3⟩
  have hz := K2.out.size
  have HW1 : Hid (Sl w3 0 93 2 (.slice (some ⟨w2.heap.size, 0, none⟩) 1 1) 1 (wantCells [((.word [wNar] .none : Job), f1)])) := hw1.kp (Kp.of_keeps (B := 0) (Ts := []) hk3) (.inl (by simp))
  have hk23 : Keeps Non w2 w3 := ((Keeps.refl _ _).alloc _).trans hk3 (fun k hk => .inl hk)
  have K3' := Lib.hid (K2.out.trans hk23 (fun k hk => .inl hk))
  have J3 := Lib.hid (J2.out.keeps hk23)
  have HSL3 := Lib.hid hsl3
  have HJ3 := Lib.hid hj3
  have HSZ3 : Hid (w1.heap.size ≤ w3.heap.size) := K3'.out.size
  generalize w2.heap.size = z at *
  have HZ : Hid (w1.heap.size ≤ z) := hz
  clear hw1 hbl3 hk3 hk23 J2 K2 hsl3 hj3 hz
  go_wp2_with (at_builtin; refine wpList_append_own2 rfl _ _ 53 53 rfl 93 i0 _ 2 16 Tryd.underlying53 hi hz0 hz1 hz2 rfl 0 _ 1 (wantCells [((.word [wNar] .none : Job), f1)]) rfl _ rfl 3 (wantCells (nodeWs n1 n2 n3)) (Nat.zero_le _) HW1.out ?c2 ?c3 ?c4 ?_)
  case c2 => exact Src.ofSl Tryd.underlying53 HSL3.out (want_one (fun t ht => (HJ3.out t ht).one))
  case c3 => unfold maxLen; omega
  case c4 => omega
  intro ao cc w4 hs4 hk4 hkk4 hb4
  have sub : ∀ T ∈ ([93] : List TypeId), T ∈ paTs := by intro T hT; simp only [List.mem_singleton] at hT; subst hT; simp
  have K4 : Hid (Keeps Non w1 w4) := K3'.out.trans hkk4 (fun k hk => .inr (by cases hk; exact HZ.out))
  have HB4 : Hid (∀ k, (Value.slice ao (1 + 3) cc).ownBlock = some k → w1.heap.size ≤ k) := fun k hk => by
    rcases hb4 with e | e
    · rw [e] at hk; cases hk; exact HZ.out
    · rw [e] at hk; cases hk; exact HSZ3.out
  obtain ⟨us, hus⟩ : ∃ us : List (Job × Value), us = [((.word [wNar] .none : Job), f1)] ++ nodeWs n1 n2 n3 := ⟨_, rfl⟩
  have HJ4 : Hid (∀ t ∈ us, JobAt w4 b t.1 t.2) := by
    intro t ht
    refine JobAt.kp ?_ hk4 sub
    rw [hus] at ht
    rcases List.mem_append.1 ht with ht | ht
    · obtain rfl := List.mem_singleton.1 ht
      exact J3.out
    · exact HJ3.out t ht
  have hul : us.length = 1 + 3 := by rw [hus]; rfl
  have hs4' : Sl w4 0 93 2 (.slice ao (1 + 3) cc) us.length (wantCells us) := by
    rw [hul, hus, wantCells_append]
    exact hs4
  obtain ⟨bl2, ol2, cp2, hsh, -, -, -, -, -, -⟩ := hs4'.pos (by omega)
  rw [hul] at hsh
  cases hsh
  have hmap : us.map Prod.fst = treeJobs := by rw [hus]; rfl
  have HMAP := Lib.hid hmap
  have HUL := Lib.hid hul
  have hpl := plan_any (H3.out.keeps K4.out) us bl2 ol2 cc (by rw [hul] at hs4' ⊢; exact hs4') (by intro e; cases e) HJ4.out (by rw [hul]; decide)
  have HPL := Lib.hid hpl
  clear hs4 hs4' hk4 hkk4 hb4 hus hul hmap hpl HB4 J3 HJ3 HJ4 HZ HSZ3 hi hz0 hz1 hz2 HW1 HSL3 K3'
  rw [HUL.out] at HPL
  go_wp2_with fail
  refine HPL.out.mono ?_
  rintro e w5 ⟨rfl, h5, k5⟩
  have H5 := Lib.hid h5
  have K5 : Hid (Kp b runTs w w5) := ((K3.out.mono (.inr ⟨Nat.le_refl _, by simp⟩)).trans (Kp.of_keeps K4.out)).trans (k5.mono (.inr ⟨Nat.le_refl _, by simp⟩))
  clear h5 k5
  go_wp2_with fail
  go_end0
  refine ⟨rfl, ⟨[] ++ us.reverse, ?_, H5.out⟩, K5.out⟩
  simp only [jsOf, List.nil_append, List.map_reverse, List.reverse_reverse]
  exact HMAP.out
end Go.Proofs.YtflkafnhhadphaaDoor
