/- narref.Read. -/
import Derived.Test.YtflkafnhhadphaaDoorChecked
import Derived.Test.YtflkafnhhadphaaDoorRefX
namespace Go.Proofs.YtflkafnhhadphaaDoor
open Go Go.RowKit
set_option linter.unusedVariables false

def qStart : RQ := ⟨0, 0, 0, []⟩
def qTree (S : List UInt8) : RQ := qNode S 6 [] (qWord S [wNar] qStart).2
theorem qTree_spec (S : List UInt8) : Res S (rTree S) (qTree S) := by
  have e : (⟨S, 0, []⟩ : RS) = qStart.rs S := by simp [RQ.rs, qStart]
  unfold rTree qTree
  rw [e]
  refine res_word (g := fun z => qNode S 6 [] z.2) rfl (Nat.zero_le _) (fun q' hq' => ?_) (fun s q' h1 h2 h3 _ _ => ?_)
  · rw [qNode_bad hq']; exact ⟨rfl, rfl⟩
  · exact qNode_spec S 6 [] q' h1 h3
def qEnd (S : List UInt8) (q : RQ) : RQ := if q.at' < S.length then q.fail 10 q.at' else q
theorem qEnd_read (S : List UInt8) (hat : (qTree S).at' ≤ S.length) : readL S = (if (qEnd S (qTree S)).e = 0 then ((qEnd S (qTree S)).l, 0, 0) else ([], (qEnd S (qTree S)).e, (qEnd S (qTree S)).bad)) := by
  have h := qTree_spec S
  unfold readL
  cases hr : rTree S with
  | error x =>
    rw [hr] at h
    obtain ⟨h1, h2, h3⟩ := h
    have hb : (qTree S).e ≠ 0 := by rw [h1]; exact h3
    have he : qEnd S (qTree S) = qTree S := by
      unfold qEnd; split
      · exact RQ.fail_bad hb _ _
      · rfl
    rw [he, if_neg hb, h1, h2]
  | ok ρ =>
    rw [hr] at h
    obtain ⟨h1, h2, h3⟩ := h
    subst h2
    simp only
    by_cases ha : (qTree S).at' < S.length
    · have hne : ((qTree S).rs S).rest ≠ [] := by
        intro e
        have : (S.drop (qTree S).at').length = 0 := by rw [show S.drop (qTree S).at' = [] from e]; rfl
        rw [List.length_drop] at this
        omega
      rw [if_neg hne, qEnd, if_pos ha, rfail_ne _ _ h1, if_neg (by show (10 : Int) ≠ 0; decide)]
      rfl
    · have hne : ((qTree S).rs S).rest = [] := List.drop_eq_nil_of_le (by omega)
      rw [if_pos hne, qEnd, if_neg ha, if_pos h1]
      rfl
set_option maxHeartbeats 800000 in
set_option maxRecDepth 100000 in
theorem rtree_any {S : List UInt8} {B b : Nat} {w : World} {vl : Value} (h : RAt B b S qStart w vl) :
    Calls Tryd.prog 33 #[.pointer (some ⟨b, 0, none⟩)] w fun ed w' => ed = .returned (.tuple #[]) ∧ (∃ vl', RAt B b S (qTree S) w' vl') ∧ Kp B rdTs w w' := by
  have c4 : w.cell? ⟨b, 4, none⟩ = some vl := h.blk.cell 4
  have f4 := h.blk.free 4
  have k := h.kpSet 4 (.slice none 0 0)
  have b2 := h.blk.set 4 (.slice none 0 0)
  have e6 : (#[sv S, .int .i64 (qStart.at' : Int), .int .i64 qStart.e, .int .i64 qStart.bad, vl] : Array Value).setIfInBounds 4 (.slice none 0 0) = #[sv S, .int .i64 (qStart.at' : Int), .int .i64 qStart.e, .int .i64 qStart.bad, .slice none 0 0] := by simp
  rw [e6] at b2
  have h1 : RAt B b S qStart (w.setCell ⟨b, 4, none⟩ (.slice none 0 0)) (.slice none 0 0) := ⟨b2, h.le, Sl.nil _ _ _ _, h.small, h.at_le⟩
  have H1 := Lib.hid h1
  have K1 := Lib.hid k.rt
  clear h h1 k b2 e6
  go_enter Tryd.func33, Tryd.ntmps33
  go_wp2_with fail
  generalize World.setCell w _ _ = w1 at *
  clear c4 f4
  refine (rmust_any H1.out ⟨#[110, 97, 114, 45, 49]⟩).mono ?_
  rintro e w2 ⟨rfl, h2, k2⟩
  have h2 : RAt B b S (qWord S [wNar] qStart).2 w2 (.slice none 0 0) := h2
  have hl : (qWord S [wNar] qStart).2.l.length ≤ 30 := by rw [(qWord_la ..).1]; simp [qStart]
  have H2 := Lib.hid h2
  have K2 := Lib.hid (K1.out.trans k2.rt)
  clear h2 k2
  have hc := rnode_any S B b 6 0 rfl ⟨#[]⟩ _ w2 _ H2.out hl (by show (0 : Nat) ≤ _; omega)
  have HC := Lib.hid hc
  clear hc
  go_wp2_with fail
  refine HC.out.mono ?_
  rintro e w3 ⟨rfl, ⟨vl3, h3⟩, k3⟩
  have h3 : RAt B b S (qTree S) w3 vl3 := h3
  have H3 := Lib.hid h3
  have K3 := Lib.hid (K2.out.trans k3)
  clear h3 k3
  go_wp2_with fail
  go_end0
  exact ⟨rfl, ⟨_, H3.out⟩, K3.out⟩

set_option maxHeartbeats 800000 in
set_option maxRecDepth 100000 in
theorem rread_any (s : ByteArray) (w : World) (hs : s.size ≤ 549755813888) :
    Calls Tryd.prog 19 #[.string s] w fun ed w' => ∃ v, ed = .returned (.tuple #[v, .int .i64 (readL s.data.toList).2.1, .int .i64 (readL s.data.toList).2.2]) ∧ Rd w' 3 v (readL s.data.toList).1.length (nodeCells (readL s.data.toList).1) ∧ Keeps Non w w' := by
  have hb0 := Blk.new w #[sv s.data.toList, .int .i64 0, .int .i64 0, .int .i64 0, .slice none 0 0] RT
  have h0 : RAt w.heap.size w.heap.size s.data.toList qStart (w.alloc (.cells #[sv s.data.toList, .int .i64 0, .int .i64 0, .int .i64 0, .slice none 0 0] RT)) (.slice none 0 0) := ⟨hb0, Nat.le_refl _, Sl.nil _ _ _ _, by rw [dlen]; exact hs, Nat.zero_le _⟩
  have H0 := Lib.hid h0
  have hk0 : Keeps Non w (w.alloc (.cells #[sv s.data.toList, .int .i64 0, .int .i64 0, .int .i64 0, .slice none 0 0] RT)) := (Keeps.refl _ _).alloc _
  have HK0 := Lib.hid hk0
  clear h0 hb0 hk0
  obtain ⟨R, hR⟩ : ∃ R, readL s.data.toList = R := ⟨_, rfl⟩
  rw [hR]
  have HR := Lib.hid hR
  clear hR
  go_enter Tryd.func19, Tryd.ntmps19
  go_wp2_with fail
  refine (rtree_any H0.out).mono ?_
  rintro e w1 ⟨rfl, ⟨vl1, h1⟩, k1⟩
  have hat := h1.at_le
  have hRE := qEnd_read s.data.toList hat
  rw [HR.out] at hRE
  generalize qTree s.data.toList = q1 at *
  have K1 : Hid (Kp w.heap.size rdTs w w1) := ((Kp.refl _ _ _).alloc _).trans k1
  have HZ : Hid (w.heap.size ≤ w.heap.size) := Nat.le_refl _
  clear k1 H0 HK0
  generalize hz : w.heap.size = z at h1 K1 ⊢
  have HZ2 : Hid (w.heap.size ≤ z) := by show _ ≤ _; omega
  clear HZ hz
  obtain ⟨q2, hq2⟩ : ∃ q2, qEnd s.data.toList q1 = q2 := ⟨_, rfl⟩
  rw [hq2] at hRE
  have HRE := Lib.hid hRE
  have c1 : w1.cell? ⟨z, 1, none⟩ = some (.int .i64 q1.at') := h1.blk.cell 1
  have H1 := Lib.hid h1
  have hds := dlen s
  rw [hds] at hat
  clear hRE h1 hds
  go_upto_if 17 with (fail)
  go_cut [] (fun wx => Hid (RAt z z s.data.toList q2 wx vl1) ∧ Hid (Kp z rdTs w wx))
  case first =>
    obtain ⟨g, hg⟩ : ∃ g, decide (q1.at' < s.size) = g := ⟨_, rfl⟩
    rw [hg]
    unfold qEnd at hq2
    rw [dlen] at hq2
    cases g with
    | true =>
      rw [if_pos (by simpa using hg)] at hq2
      subst hq2
      clear hg
      go_wp2_with fail
      refine (rfail_any H1.out 10 _).mono ?_
      rintro e w2 ⟨rfl, h2, k2⟩
      have H2 := Lib.hid h2
      have K2 := Lib.hid (K1.out.trans k2.rt)
      clear h2 k2
      go_wp2_with fail
      go_meet
      exact ⟨H2, K2⟩
    | false =>
      rw [if_neg (by simpa using hg)] at hq2
      subst hq2
      clear hg
      go_wp2_with fail
      go_meet
      exact ⟨H1, K1⟩
  case rest =>
    obtain ⟨H2, K2⟩ := hcut
    have c2 : wc.cell? ⟨z, 2, none⟩ = some (.int .i64 q2.e) := H2.out.blk.cell 2
    have c3 : wc.cell? ⟨z, 3, none⟩ = some (.int .i64 q2.bad) := H2.out.blk.cell 3
    have c4 : wc.cell? ⟨z, 4, none⟩ = some vl1 := H2.out.blk.cell 4
    clear hq2 c1 H1 K1
    have hK : Hid (Keeps Non w wc) := K2.out.keeps HZ2.out
    have hv : Hid (Rd wc 3 vl1 q2.l.length (nodeCells q2.l)) := H2.out.nodes.rd
    clear H2 K2
    by_cases he : q2.e = 0
    · have hb : (q2.e == 0) = true := by rw [he]; rfl
      have hb2 : (q2.e != 0) = false := by rw [he]; rfl
      have HF : Hid (R = (q2.l, 0, 0)) := by show _ = _; rw [HRE.out, if_pos he]
      clear he
      go_wp2_with fail
      go_ret3
      rw [HF.out]
      exact ⟨_, rfl, hv.out, hK.out⟩
    · have hb : (q2.e == 0) = false := by rw [beq_eq_false_iff_ne]; exact he
      have hb2 : (q2.e != 0) = true := by unfold bne; rw [hb]; rfl
      have HF : Hid (R = ([], q2.e, q2.bad)) := by show _ = _; rw [HRE.out, if_neg he]
      clear he
      go_wp2_with fail
      go_quiet (fail)
      go_wp2_with fail
      go_ret3
      rw [HF.out]
      exact ⟨_, rfl, (Sl.nil _ 0 34 _).rd, hK.out.drewN _⟩
end Go.Proofs.YtflkafnhhadphaaDoor
