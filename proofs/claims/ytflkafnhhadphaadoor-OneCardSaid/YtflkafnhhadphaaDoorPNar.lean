/- nar.NewReader, (*nar.Reader).Feed, Close; slices.Clone. -/
import Derived.Test.YtflkafnhhadphaaDoorChecked
import Derived.Test.YtflkafnhhadphaaDoorPRead
namespace Go.Proofs.YtflkafnhhadphaaDoor
open Go Go.RowKit
set_option linter.unusedVariables false

theorem closed_step {B b : Nat} {c d : Value} {ts : List (Job × Value)} {σ : PSt} {w : World} {vr vt vl va : Value} (H : PAt B b [c] ts σ w vr vt vl va) :
    PAt B b [d] ts σ (w.setCell ⟨b, 8, none⟩ d) vr vt vl va ∧ Kp B [TB] w (w.setCell ⟨b, 8, none⟩ d) := by
  have k := H.kpSet 8 d
  have b1 := H.blk.set 8 d
  have e : (pcells vr (σ.at' : Int) σ.err σ.bad vt vl va σ.path [c]).setIfInBounds 8 d = pcells vr (σ.at' : Int) σ.err σ.bad vt vl va σ.path [d] := by simp [pcells]
  rw [e] at b1
  obtain ⟨p1, p2, p3, p4, p5⟩ := H.parts k
  exact ⟨⟨b1, H.le, p1, p2, p3, p4, p5⟩, k⟩
theorem closed_cell {B b : Nat} {c : Value} {ts : List (Job × Value)} {σ : PSt} {w : World} (h : PA B b [c] ts σ w) : w.cell? ⟨b, 8, none⟩ = some c ∧ w.frozen? ⟨b, 8, none⟩ = false := by
  obtain ⟨vr, vt, vl, va, h⟩ := h
  refine ⟨(h.blk.cell 8).trans ?_, h.blk.free 8⟩
  simp [pcells]
set_option maxHeartbeats 800000 in
set_option maxRecDepth 100000 in
theorem newReader_any (w : World) :
    Calls Tryd.prog 15 #[] w fun ed w' => ed = .returned (.pointer (some ⟨w.heap.size, 0, none⟩)) ∧ (∃ ts, jsOf ts = treeJobs ∧ PI w.heap.size w.heap.size [.bool false] ts fresh w') ∧ Keeps Non w w' := by
  have h0 := pa_zero w [.bool false]
  have hk0 : Kp w.heap.size runTs w (w.alloc (.cells (pcells (.slice none 0 0) 0 0 0 (.slice none 0 0) (.slice none 0 0) (.slice none 0 0) [] [.bool false]) TB)) := (Kp.refl _ _ _).alloc _
  have H0 := Lib.hid h0
  have K0 := Lib.hid hk0
  clear h0 hk0
  go_enter Tryd.func15, Tryd.ntmps15
  go_wp2_with fail
  refine (ptree_any H0.out).mono ?_
  rintro e w1 ⟨rfl, ⟨ts, hts, h1⟩, k1⟩
  have H1 : Hid (PI w.heap.size w.heap.size [.bool false] ts fresh w1) := by
    refine ⟨h1, ?_, ?_, fun h => absurd rfl h⟩
    · rw [hts]; exact okJ_plain (okJ_node (js := []) trivial) _ rfl rfl
    · have : ts.length = 4 := by rw [← jsOf_length, hts]; rfl
      rw [this]
      exact ⟨by simp [fresh], by simp [fresh], by simp [fresh], by simp [fresh], by simp [fresh], by intro o ho; simp [fresh] at ho⟩
  have K1 : Hid (Keeps Non w w1) := (K0.out.trans k1).keeps (Nat.le_refl _)
  have HTS := Lib.hid hts
  clear h1 k1 hts
  go_wp2_with fail
  go_ret
  exact ⟨rfl, ⟨ts, HTS.out, H1.out⟩, K1.out⟩

set_option maxHeartbeats 800000 in
set_option maxRecDepth 100000 in
theorem nfeed_any {B b : Nat} {ts : List (Job × Value)} {σ : PSt} {w : World} (h : PI B b [.bool false] ts σ w) (hT : Tabs w) (hB : tabTop ≤ B) (s : ByteArray) (hs : σ.at' + σ.rest.length + s.size ≤ 549755813888) :
    Calls Tryd.prog 17 #[.pointer (some ⟨b, 0, none⟩), .string s] w fun ed w' => ed = .returned (.int .i64 0) ∧ (∃ ts', jsOf ts' = (run (jsOf ts) (σ.feed s.data.toList)).1 ∧ PI B b [.bool false] ts' (run (jsOf ts) (σ.feed s.data.toList)).2 w') ∧ Kp B runTs w w' := by
  obtain ⟨c8, -⟩ := closed_cell h.pa
  have H := Lib.hid h
  have HT := Lib.hid hT
  clear h hT
  go_enter Tryd.func17, Tryd.ntmps17
  go_wp2_with fail
  refine (feed_any s H.out.pa H.out.fit.fit (by omega)).mono ?_
  rintro e w1 ⟨rfl, h1, k1⟩
  have H1 := Lib.hid (H.out.feed s.data.toList (by rw [dlen]; exact hs) h1)
  have K1 : Hid (Kp B runTs w w1) := k1.mono (.inr ⟨Nat.le_refl _, by simp⟩)
  have HT1 := Lib.hid (HT.out.kp K1.out hB)
  clear h1 k1
  go_wp2_with fail
  refine (run_any H1.out HT1.out hB).mono ?_
  rintro e w2 ⟨rfl, h2, k2⟩
  have H2 := Lib.hid h2
  have K2 := Lib.hid (K1.out.trans k2)
  clear h2 k2
  go_wp2_with fail
  go_ret
  exact ⟨rfl, H2.out, K2.out⟩
set_option maxHeartbeats 400000 in
set_option maxRecDepth 100000 in
theorem nfeed_closed {B b : Nat} {ts : List (Job × Value)} {σ : PSt} {w : World} (h : PA B b [.bool true] ts σ w) (s : ByteArray) :
    Calls Tryd.prog 17 #[.pointer (some ⟨b, 0, none⟩), .string s] w fun ed w' => ed = .returned (.int .i64 17) ∧ w = w' := by
  obtain ⟨c8, -⟩ := closed_cell h
  clear h
  go_enter Tryd.func17, Tryd.ntmps17
  go_wp2_with fail
  go_ret
  exact ⟨rfl, rfl⟩
set_option maxHeartbeats 400000 in
set_option maxRecDepth 100000 in
theorem nodes_any {B b : Nat} {tail : List Value} {ts : List (Job × Value)} {σ : PSt} {w : World} {vr vt vl va : Value} (h : PAt B b tail ts σ w vr vt vl va) :
    Calls Tryd.prog 32 #[.pointer (some ⟨b, 0, none⟩)] w fun ed w' => ed = .returned vl ∧ w = w' := by
  have c5 := (h.blk.cell 5).trans (pcells_get vr σ.at' σ.err σ.bad vt vl va σ.path tail).2.2.2.2.2.1
  clear h
  go_enter Tryd.func32, Tryd.ntmps32
  go_wp2_with fail
  go_ret
  exact ⟨rfl, rfl⟩
set_option maxHeartbeats 800000 in
set_option maxRecDepth 100000 in
theorem clone_any {B n : Nat} {v : Value} {l : List Node} {w : World} (hn : l.length = n) (h : Sl w B 34 3 v n (nodeCells l)) (hl : n ≤ 1099511627776) :
    Calls Tryd.prog 31 #[v] w fun ed w' => (∃ v', ed = .returned v' ∧ Rd w' 3 v' n (nodeCells l)) ∧ Keeps Non w w' := by
  have H := Lib.hid h
  have HN := Lib.hid hn
  obtain ⟨-, ⟨rfl, rfl⟩ | ⟨b', off, cap, c, rfl, hB', hb', h3, h4, h5, h6⟩⟩ := h
  · have he0 : Sem.run Tryd.prog (binOp BinOp.eql 22 (.slice none 0 0) (.slice none 0 0)) w = .ok (.bool true) w := by kernel_rfl
    clear hn
    go_enter Tryd.func31, Tryd.ntmps31
    go_wp2_with fail
    go_ret
    exact ⟨⟨_, rfl, H.out.rd⟩, Keeps.refl _ _⟩
  · obtain ⟨i0, hi, hz0, hz1, hz2⟩ := info_parts infoNode
    have h0 := Sl.of_new w w.heap.size (Nat.le_refl _) 34 3 0 [] rfl (by simp [maxLen])
    have H0 := Lib.hid h0
    have HA := Lib.hid (H.out.alloc (.cells (([] : List Value).toArray) 34))
    have he1 : Sem.run Tryd.prog (binOp BinOp.eql 22 (.slice (some ⟨b', off, none⟩) n cap) (.slice none 0 0)) w = .ok (.bool false) w := by kernel_rfl
    clear h0 hn h3 h4 h5 h6 hb'
    go_enter Tryd.func31, Tryd.ntmps31
    go_wp2_with (at_builtin; refine wpList_append_own2 rfl _ _ 22 22 rfl 34 i0 _ 3 40 Tryd.underlying22 hi hz0 hz1 hz2 rfl w.heap.size _ 0 [] rfl _ rfl n (nodeCells l) ?c1 H0.out ?c2 ?c3 ?c4 ?_)
    case c1 => simp
    case c2 => exact Src.ofSl Tryd.underlying22 HA.out (nodeCells_one l)
    case c3 => unfold maxLen; omega
    case c4 => omega
    intro ao cc w1 hs1 hk1 hkk1 hb1
    have HR : Hid (Rd w1 3 (.slice ao n cc) n (nodeCells l)) := hs1.rd
    have K1 : Hid (Keeps Non w w1) := ((((Kp.refl w.heap.size [34] w).alloc _)).trans hk1).keeps (Nat.le_refl _)
    clear hs1 hk1 hkk1 hb1 hi hz0 hz1 hz2
    go_wp2_with fail
    go_ret
    exact ⟨⟨_, rfl, HR.out⟩, K1.out⟩
set_option maxHeartbeats 800000 in
set_option maxRecDepth 100000 in
theorem nclose_any {B b : Nat} {ts : List (Job × Value)} {σ : PSt} {w : World} (h : PI B b [.bool false] ts σ w) :
    Calls Tryd.prog 18 #[.pointer (some ⟨b, 0, none⟩)] w fun ed w' => (∃ v, ed = .returned (.tuple #[v, .int .i64 (told (finish (jsOf ts, σ))).2.1, .int .i64 (told (finish (jsOf ts, σ))).2.2]) ∧ Rd w' 3 v (told (finish (jsOf ts, σ))).1.length (nodeCells (told (finish (jsOf ts, σ))).1)) ∧ (∃ σ', PA B b [.bool true] ts σ' w') ∧ Kp B runTs w w' := by
  obtain ⟨c8, f8⟩ := closed_cell h.pa
  obtain ⟨vr, vt, vl, va, hp⟩ := h.pa
  have hst := closed_step (d := .bool true) hp
  have h1 : PI B b [.bool true] ts σ (w.setCell ⟨b, 8, none⟩ (.bool true)) := ⟨⟨_, _, _, _, hst.1⟩, h.ok, h.fit, h.dry⟩
  have H1 := Lib.hid h1
  have K1 : Hid (Kp B runTs w (w.setCell ⟨b, 8, none⟩ (.bool true))) := hst.2.mono (.inr ⟨Nat.le_refl _, by simp⟩)
  have hnl : (finish (jsOf ts, σ)).nodes.length ≤ 1099511627776 := by
    have h1 := h.fit.nodes
    have h2 := h.fit.all
    unfold finish
    split
    · simp only; omega
    · simp only; rw [(fail_above ..).2.1]; omega
  clear hst h1 hp h
  obtain ⟨σ2, hs2⟩ : ∃ σ2, finish (jsOf ts, σ) = σ2 := ⟨_, rfl⟩
  rw [hs2] at hnl ⊢
  have HS2 := Lib.hid hs2
  clear hs2
  go_enter Tryd.func18, Tryd.ntmps18
  go_wp2_with fail
  generalize World.setCell w _ _ = w1 at *
  clear c8 f8
  have hpc := pclose_any H1.out
  rw [HS2.out] at hpc
  refine hpc.mono ?_
  clear hpc
  rintro e w2 ⟨rfl, h2, k2⟩
  have H2 := Lib.hid h2
  have K2 : Hid (Kp B runTs w w2) := K1.out.trans (k2.mono (.inr ⟨Nat.le_refl _, by simp⟩))
  clear h2 k2 H1 K1
  by_cases he : σ2.err = 0
  · have hb : (σ2.err == 0) = true := by rw [he]; rfl
    have hb2 : (σ2.err != 0) = false := by rw [he]; rfl
    have HF : Hid (told σ2 = (σ2.nodes, 0, 0)) := by show _ = _; rw [told, if_pos he]
    obtain ⟨vr2, vt2, vl2, va2, hq⟩ := H2.out
    have HQ := Lib.hid hq
    clear he hq
    go_wp2_with fail
    refine (nodes_any HQ.out).mono ?_
    rintro e w3 ⟨rfl, rfl⟩
    go_wp2_with fail
    refine (clone_any (l := σ2.nodes) rfl HQ.out.nodes hnl).mono ?_
    rintro e w3 ⟨⟨v', rfl, h3⟩, k3⟩
    have H3 := Lib.hid h3
    have HP3 := Lib.hid (H2.out.keeps k3)
    have K3 := Lib.hid (K2.out.trans (Kp.of_keeps k3))
    clear h3 k3 HQ H2 K2
    go_wp2_with fail
    go_ret3
    rw [HF.out]
    exact ⟨⟨_, rfl, H3.out⟩, ⟨_, HP3.out⟩, K3.out⟩
  · have hb : (σ2.err == 0) = false := by rw [beq_eq_false_iff_ne]; exact he
    have hb2 : (σ2.err != 0) = true := by unfold bne; rw [hb]; rfl
    have HF : Hid (told σ2 = ([], σ2.err, σ2.bad)) := by show _ = _; rw [told, if_neg he]
    clear he
    go_wp2_with fail
    go_ret3
    rw [HF.out]
    exact ⟨⟨_, rfl, (Sl.nil _ 0 34 _).rd⟩, ⟨_, H2.out⟩, K2.out⟩
set_option maxHeartbeats 400000 in
set_option maxRecDepth 100000 in
theorem nclose_closed {B b : Nat} {ts : List (Job × Value)} {σ : PSt} {w : World} (h : PA B b [.bool true] ts σ w) :
    Calls Tryd.prog 18 #[.pointer (some ⟨b, 0, none⟩)] w fun ed w' => ed = .returned (.tuple #[.slice none 0 0, .int .i64 17, .int .i64 0]) ∧ w = w' := by
  obtain ⟨c8, -⟩ := closed_cell h
  clear h
  go_enter Tryd.func18, Tryd.ntmps18
  go_wp2_with fail
  go_ret3
  exact ⟨rfl, rfl⟩
end Go.Proofs.YtflkafnhhadphaaDoor
