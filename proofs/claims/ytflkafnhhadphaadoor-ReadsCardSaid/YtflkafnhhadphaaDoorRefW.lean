/- narref.reader: dir, by node's contract. -/
import Derived.Test.YtflkafnhhadphaaDoorChecked
import Derived.Test.YtflkafnhhadphaaDoorRefS
import Derived.Test.YtflkafnhhadphaaDoorRefD
namespace Go.Proofs.YtflkafnhhadphaaDoor
open Go Go.RowKit
set_option linter.unusedVariables false

abbrev rdTs : List TypeId := [34, RT]
def NodeC (S : List UInt8) (B b d n : Nat) : Prop := ∀ (path : ByteArray) (q : RQ) (w : World) (vl : Value), RAt B b S q w vl → q.l.length ≤ 30 → path.size ≤ 49 * n →
  Calls Tryd.prog 60 #[.pointer (some ⟨b, 0, none⟩), .string path, .int .i64 n] w fun ed w' => ed = .returned (.tuple #[]) ∧ (∃ vl', RAt B b S (qNode S d path.data.toList q) w' vl') ∧ Kp B rdTs w w'
theorem Kp.rt {B : Nat} {w w' : World} (h : Kp B [RT] w w') : Kp B rdTs w w' := h.mono (.inr ⟨Nat.le_refl _, by simp⟩)

set_option maxHeartbeats 1600000 in
set_option maxRecDepth 100000 in
theorem rdir_any {S : List UInt8} {B b d n : Nat} (hN : NodeC S B b d (n + 1)) (hn : n ≤ 5) {q : RQ} {w : World} {vl : Value} (h : RAt B b S q w vl) (hl : q.l.length ≤ 30) (path : ByteArray) (hp : path.size ≤ 49 * n) :
    Calls Tryd.prog 74 #[.pointer (some ⟨b, 0, none⟩), .string path, .int .i64 n] w fun ed w' => ed = .returned (.tuple #[]) ∧ (∃ vl', RAt B b S (qDirF S (qNode S d) path.data.toList (S.length + 1) [] q) w' vl') ∧ Kp B rdTs w w' := by
  have H := Lib.hid h
  have HN := Lib.hid hN
  clear h hN
  obtain ⟨R, hR⟩ : ∃ R, qDirF S (qNode S d) path.data.toList (S.length + 1) [] q = R := ⟨_, rfl⟩
  rw [hR]
  have HR : Hid (R = qDirF S (qNode S d) path.data.toList (S.length + 1) [] q) := hR.symm
  clear hR
  go_enter Tryd.func74, Tryd.ntmps74
  go_wp2_with fail
  go_loopg [6] (S.length + 1) (fun gk lv wr => ∃ (last : List UInt8) (q' : RQ) (vl' : Value), lv = .string ⟨last.toArray⟩ ∧ last.length ≤ 48 ∧ S.length + 1 ≤ q'.at' + gk ∧ q'.l.length ≤ 30 ∧ Hid (RAt B b S q' wr vl') ∧ Hid (Kp B rdTs w wr) ∧ Hid (R = qDirF S (qNode S d) path.data.toList gk last q'))
  case atStart => exact ⟨[], q, vl, rfl, by simp, by omega, hl, H, Kp.refl _ _ _, HR⟩
  case round =>
    clear H hl HR
    obtain ⟨last, q0, vl0, rfl, hlast, hfu, hl0, H0, K0, HD⟩ := hrel
    have hat0 := H0.out.at_le
    obtain ⟨f, rfl⟩ : ∃ f, gk = f + 1 := ⟨gk - 1, by omega⟩
    go_wp2_with fail
    refine (rword_any (H0.out.keeps ((Keeps.refl _ _).alloc _)) [wEntry, wShut] _ (putArg wr 2 _ [wEntry, wShut] _ rfl rfl rfl (by simp))).mono ?_
    rintro e w1 ⟨rfl, h1, k1⟩
    have hfar := qWord_far (S := S) (may := [wEntry, wShut]) (q := q0)
    have hla := qWord_la S [wEntry, wShut] q0
    rw [qDirF] at HD
    obtain ⟨x, hx⟩ : ∃ x, qWord S [wEntry, wShut] q0 = x := ⟨_, rfl⟩
    rw [hx] at h1 hfar hla HD ⊢
    obtain ⟨x1, q1⟩ := x
    simp only at h1 hfar hla HD ⊢
    have H1 := Lib.hid h1
    have K1 : Hid (Kp B rdTs w w1) := K0.out.trans (((Kp.refl _ _ _).alloc _).trans k1.rt)
    clear h1 k1 hx
    by_cases hen : x1 = wEntry
    · rw [if_pos hen] at HD
      have hb : (x1 == [101, 110, 116, 114, 121]) = true := by rw [hen]; rfl
      have hfr := hfar (by rw [hen]; decide)
      have hl1 : q1.l.length ≤ 30 := by rw [hla.1]; exact hl0
      have hla1 := qEntry_la (S := S) (qNode_la S d) path.data.toList last q1
      have HQE : Hid (∀ z, qEntry S (qNode S d) path.data.toList last q1 = z → z = qEntry S (qNode S d) path.data.toList last q1) := fun z hz => hz.symm
      clear hen hfar hla H0 K0
      go_wp2_with fail
      refine (rmust_any H1.out ⟨#[40]⟩).mono ?_
      rintro e w2 ⟨rfl, h2, k2⟩
      have h2 : RAt B b S (qWord S [wOpen] q1).2 w2 vl0 := h2
      obtain ⟨q2, hq2⟩ : ∃ q2, (qWord S [wOpen] q1).2 = q2 := ⟨_, rfl⟩
      rw [hq2] at h2
      have HQ2 := Lib.hid hq2
      have H2 := Lib.hid h2
      have K2 := Lib.hid (K1.out.trans k2.rt)
      clear h2 k2 hq2
      go_wp2_with fail
      refine (rmust_any H2.out ⟨#[110, 97, 109, 101]⟩).mono ?_
      rintro e w3 ⟨rfl, h3, k3⟩
      have h3 : RAt B b S (qWord S [wName] q2).2 w3 vl0 := h3
      obtain ⟨q3, hq3⟩ : ∃ q3, (qWord S [wName] q2).2 = q3 := ⟨_, rfl⟩
      rw [hq3] at h3
      have HQ3 := Lib.hid hq3
      have H3 := Lib.hid h3
      have K3 := Lib.hid (K2.out.trans k3.rt)
      have c1 : w3.cell? ⟨b, 1, none⟩ = some (.int .i64 q3.at') := h3.blk.cell 1
      clear h3 k3 hq3
      go_wp2_with fail
      refine (rnext_any H3.out 48 (by omega)).mono ?_
      rintro e w4 ⟨rfl, h4, k4⟩
      have hsl := qNext_len S 48 q3
      obtain ⟨y, hy⟩ : ∃ y, qNext S 48 q3 = y := ⟨_, rfl⟩
      rw [hy] at h4 hsl ⊢
      obtain ⟨s, q4⟩ := y
      simp only at h4 hsl ⊢
      have HY := Lib.hid hy
      have H4 := Lib.hid h4
      have K4 := Lib.hid (K3.out.trans k4.rt)
      clear h4 k4 hy c1
      go_wp2_with fail
      refine (rname_any ⟨s.toArray⟩ _ (by show s.toArray.size ≤ _; simp; omega)).mono ?_
      rintro e w5 ⟨rfl, hk5⟩
      have H5 := Lib.hid (H4.out.keeps hk5)
      have K5 := Lib.hid (K4.out.trans (Kp.of_keeps hk5))
      rw [show refName (⟨s.toArray⟩ : ByteArray).data.toList = nameB s from refName_eq s]
      clear hk5
      go_upto_if 26 with (fail)
      obtain ⟨q5, hq5⟩ : ∃ q5, (if nameB s then q4 else q4.fail 6 q3.at') = q5 := ⟨_, rfl⟩
      go_cut [] (fun wx => Hid (RAt B b S q5 wx vl0) ∧ Hid (Kp B rdTs w wx))
      case first =>
        cases hnm : nameB s with
        | true =>
          rw [hnm, if_pos rfl] at hq5
          subst hq5
          clear hnm
          go_wp2_with fail
          go_meet
          exact ⟨H5, K5⟩
        | false =>
          rw [hnm, if_neg (by decide)] at hq5
          subst hq5
          clear hnm
          go_wp2_with fail
          refine (rfail_any H5.out 6 _).mono ?_
          rintro e w6 ⟨rfl, h6, k6⟩
          have H6 := Lib.hid h6
          have K6 := Lib.hid (K5.out.trans k6.rt)
          clear h6 k6
          go_wp2_with fail
          go_meet
          exact ⟨H6, K6⟩
      case rest =>
        obtain ⟨H6, K6⟩ := hcut
        have HQ5 := Lib.hid hq5
        clear hq5 H5 K5 H4 K4 H3 K3 H2 K2 H1 K1
        obtain ⟨q6, hq6⟩ : ∃ q6, (if leS s last then q5.fail 7 q3.at' else q5) = q6 := ⟨_, rfl⟩
        go_upto_if 32 with (fail)
        go_cut [] (fun wx => Hid (RAt B b S q6 wx vl0) ∧ Hid (Kp B rdTs w wx))
        case first =>
          rw [show leS s last = (Op.bytesLess s last || s == last) from rfl] at hq6
          generalize (Op.bytesLess s last || s == last) = g at hq6 ⊢
          cases g with
          | true =>
            rw [if_pos rfl] at hq6
            subst hq6
            go_wp2_with fail
            refine (rfail_any H6.out 7 _).mono ?_
            rintro e w7 ⟨rfl, h7, k7⟩
            have H7 := Lib.hid h7
            have K7 := Lib.hid (K6.out.trans k7.rt)
            clear h7 k7
            go_wp2_with fail
            go_meet
            exact ⟨H7, K7⟩
          | false =>
            rw [if_neg (by decide)] at hq6
            subst hq6
            go_wp2_with fail
            go_meet
            exact ⟨H6, K6⟩
        case rest =>
          obtain ⟨H7, K7⟩ := hcut
          have HQ6 := Lib.hid hq6
          clear hq6 H6 K6
          have hz : qEntry S (qNode S d) path.data.toList last q1 = (s, (qWord S [wShut] (qNode S d (joinP path.data.toList s) (qWord S [wNode] q6).2)).2) := by
            unfold qEntry
            simp only [HQ2.out, HQ3.out, HY.out]
            rw [HQ5.out, HQ6.out]
          have hq6l : q6.l = q1.l := by
            have e6 : q6.l = q5.l := by rw [← HQ6.out]; split; exact (fail_la ..).1; rfl
            have e5 : q5.l = q4.l := by rw [← HQ5.out]; split; rfl; exact (fail_la ..).1
            have e4 : q4.l = q3.l := by have := (qNext_la S 48 q3).1; rw [HY.out] at this; exact this
            have e3 : q3.l = q2.l := by rw [← HQ3.out]; exact (qWord_la ..).1
            have e2 : q2.l = q1.l := by rw [← HQ2.out]; exact (qWord_la ..).1
            rw [e6, e5, e4, e3, e2]
          rw [hz] at HD hla1
          simp only at HD hla1
          have HLA := Lib.hid hla1
          clear hz hla1 HQE HQ5 HQ6 HY HQ2 HQ3
          go_wp2_with fail
          refine (rmust_any H7.out ⟨#[110, 111, 100, 101]⟩).mono ?_
          rintro e w8 ⟨rfl, h8, k8⟩
          have h8 : RAt B b S (qWord S [wNode] q6).2 w8 vl0 := h8
          have hql := (qWord_la S [wNode] q6).1
          obtain ⟨q8, hq8⟩ : ∃ q8, (qWord S [wNode] q6).2 = q8 := ⟨_, rfl⟩
          rw [hq8] at h8 HD HLA hql
          have H8 := Lib.hid h8
          have K8 := Lib.hid (K7.out.trans k8.rt)
          clear h8 k8 hq8 H7 K7
          have hl8 : q8.l.length ≤ 30 := by rw [hql, hq6l]; exact hl1
          have hps : path.size ≤ 245 := by omega
          clear hql hq6l
          go_upto_if 41 with (fail)
          go_cut [9] (fun v wx => v = .string ⟨(joinP path.data.toList s).toArray⟩ ∧ w8 = wx)
          case first =>
            obtain ⟨g, hg⟩ : ∃ g, (!path.toList.isEmpty) = g := ⟨_, rfl⟩
            rw [hg]
            rw [ByteArray.toList_eq] at hg
            cases g with
            | false =>
              have hde : path.data.toList = [] := by cases hc : path.data.toList with
                | nil => rfl
                | cons x r => rw [hc] at hg; cases hg
              have HJ : Hid (joinP path.data.toList s = s) := by show _ = _; rw [joinP, if_pos hde]
              clear hde hg
              go_wp2_with fail
              go_meet
              exact ⟨by rw [HJ.out], rfl⟩
            | true =>
              have hde : path.data.toList ≠ [] := by intro hc; rw [hc] at hg; cases hg
              have HJ : Hid (path ++ ⟨#[47]⟩ ++ ⟨s.toArray⟩ = (⟨(joinP path.data.toList s).toArray⟩ : ByteArray)) := by
                show _ = _
                rw [joinP, if_neg hde, show path = ⟨path.data.toList.toArray⟩ from rfl, show (⟨#[47]⟩ : ByteArray) = ⟨([47] : List UInt8).toArray⟩ from rfl, str_app, str_app, List.append_assoc, List.singleton_append]
              clear hde hg
              go_wp2_with fail
              go_meet
              exact ⟨congrArg Value.string HJ.out, rfl⟩
          case rest =>
            obtain ⟨rfl, rfl⟩ := hcut
            have hjs : (joinP path.data.toList s).length ≤ 49 * (n + 1) := by
              have := dlen path
              unfold joinP; split
              · omega
              · simp only [List.length_append, List.length_cons]; omega
            have hcall := HN.out ⟨(joinP path.data.toList s).toArray⟩ q8 _ vl0 H8.out hl8 (by show (joinP path.data.toList s).toArray.size ≤ _; simpa using hjs)
            rw [show (((n + 1 : Nat)) : Int) = (n : Int) + 1 by omega] at hcall
            have HC := Lib.hid hcall
            clear hcall
            have e1 : IntKind.i64.wrap ((n : Int) + 1) = (n : Int) + 1 := IntWalk.i64_in _ (by omega)
            go_wp2_with fail
            refine HC.out.mono ?_
            rintro e w9 ⟨rfl, ⟨vl9, h9⟩, k9⟩
            have h9 : RAt B b S (qNode S d (joinP path.data.toList s) q8) w9 vl9 := h9
            obtain ⟨q9, hq9⟩ : ∃ q9, qNode S d (joinP path.data.toList s) q8 = q9 := ⟨_, rfl⟩
            rw [hq9] at h9 HD HLA
            have H9 := Lib.hid h9
            have K9 := Lib.hid (K8.out.trans k9)
            clear h9 k9 hq9 HC H8 K8
            go_wp2_with fail
            refine (rmust_any H9.out ⟨#[41]⟩).mono ?_
            rintro e w10 ⟨rfl, h10, k10⟩
            have h10 : RAt B b S (qWord S [wShut] q9).2 w10 vl9 := h10
            have H10 := Lib.hid h10
            have K10 := Lib.hid (K9.out.trans k10.rt)
            clear h10 k10
            go_wp2_with fail
            go_roundg f
            case measure => omega
            case rel => exact ⟨s, _, vl9, rfl, hsl, by have := HLA.out.2; omega, HLA.out.1 hl1, H10, K10, HD⟩
    · rw [if_neg hen] at HD
      have hb : (x1 == [101, 110, 116, 114, 121]) = false := by rw [beq_eq_false_iff_ne]; exact hen
      clear hen hfar hla H0 K0
      go_wp2_with fail
      go_end0
      rw [HD.out]
      exact ⟨rfl, ⟨_, H1.out⟩, K1.out⟩
end Go.Proofs.YtflkafnhhadphaaDoor
