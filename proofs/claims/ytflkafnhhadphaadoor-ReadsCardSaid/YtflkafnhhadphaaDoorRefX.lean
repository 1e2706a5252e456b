/- narref.reader: node. -/
import Derived.Test.YtflkafnhhadphaaDoorChecked
import Derived.Test.YtflkafnhhadphaaDoorRefW
import Derived.Test.YtflkafnhhadphaaDoorOwn
import Derived.Test.YtflkafnhhadphaaDoorPPlan
namespace Go.Proofs.YtflkafnhhadphaaDoor
open Go Go.RowKit
set_option linter.unusedVariables false

theorem infoNodeR : (Tryd.prog.info? 34).map (fun i => (i.zero, i.size, i.bytes)) = some (some (.agg #[.string ⟨#[]⟩, .int .i64 0, .string ⟨#[]⟩]), 3, 40) := by kernel_rfl
/-- a node laid onto the others -/
theorem radd_step {B b : Nat} {S : List UInt8} {q : RQ} {w w1 : World} {vl : Value} (H : RAt B b S q w vl) (p : List UInt8) (k : Int) (d : List UInt8) (C : Array Value) (ao : Option Addr) (cc n : Nat) (hn : n = q.l.length + 1)
    (hs : Sl w1 B 34 3 (.slice ao n cc) n (nodeCells q.l ++ [sv p, .int .i64 k, sv d])) (hk : Kp B [34] (w.alloc (.cells C 34)) w1) :
    RAt B b S (q.add ⟨p, k, d⟩) (w1.setCell ⟨b, 4, none⟩ (.slice ao n cc)) (.slice ao n cc) ∧ Kp B rdTs w (w1.setCell ⟨b, 4, none⟩ (.slice ao n cc)) := by
  subst hn
  have hk0 : Kp B [34] w w1 := ((Kp.refl _ _ _).alloc _).trans hk
  have b1 := H.blk.kp hk0 (.inr (by decide))
  have k2 : Kp B [RT] w1 (w1.setCell ⟨b, 4, none⟩ (.slice ao (q.l.length + 1) cc)) := (Kp.refl _ _ _).set b1 (.inr ⟨H.le, by simp⟩) _ _
  have b2 := b1.set 4 (.slice ao (q.l.length + 1) cc)
  have e6 : (#[sv S, .int .i64 (q.at' : Int), .int .i64 q.e, .int .i64 q.bad, vl] : Array Value).setIfInBounds 4 (.slice ao (q.l.length + 1) cc) = #[sv S, .int .i64 (q.at' : Int), .int .i64 q.e, .int .i64 q.bad, .slice ao (q.l.length + 1) cc] := by simp
  rw [e6] at b2
  refine ⟨⟨b2, H.le, ?_, H.small, H.at_le⟩, (hk0.mono (.inr ⟨Nat.le_refl _, by simp⟩)).trans (k2.mono (.inr ⟨Nat.le_refl _, by simp⟩))⟩
  rw [show (q.add ⟨p, k, d⟩).l = q.l ++ [⟨p, k, d⟩] from rfl, List.length_append, nodeCells_append]
  exact hs.kp k2 (.inl (by decide))
theorem qHead_deep (S : List UInt8) (q : RQ) : (qHead S true q).1 = [] := by
  unfold qHead
  have hb : ((qWord S [wOpen] q).2.fail 8 q.at').e ≠ 0 := by
    rw [RQ.fail]; split
    · show (8 : Int) ≠ 0; decide
    · assumption
  rw [if_pos rfl, qMany_bad hb, qWord_bad hb, qWord_bad hb]

/-- what node does behind its kind -/
def qKind (S : List UInt8) (d : Nat) (path : List UInt8) (x : List UInt8 × RQ) : RQ :=
  if x.1 = wFile then qFile S path x.2 else if x.1 = wLink then qLink S path x.2 else if x.1 = wDir then (match d with | 0 => x.2 | d + 1 => qDirF S (qNode S d) path (S.length + 1) [] (x.2.add ⟨path, 4, []⟩)) else x.2
theorem qNode_kind (S : List UInt8) (path : List UInt8) (q : RQ) : ∀ d : Nat, qNode S d path q = qKind S d path (qHead S (decide (d = 0)) q)
  | 0 => by rw [qNode, qKind]; simp only [decide_true, qHead_deep]; rfl
  | d + 1 => by rw [qNode, qKind]; rfl

set_option maxHeartbeats 3200000 in
set_option maxRecDepth 100000 in
theorem rnode_step {S : List UInt8} {B b d n : Nat} (hdn : d + n = 6) (hD : ∀ (d' : Nat) (path : ByteArray) (q : RQ) (w : World) (vl : Value), d = d' + 1 → RAt B b S q w vl → q.l.length ≤ 30 → path.size ≤ 49 * n →
      Calls Tryd.prog 74 #[.pointer (some ⟨b, 0, none⟩), .string path, .int .i64 n] w fun ed w' => ed = .returned (.tuple #[]) ∧ (∃ vl', RAt B b S (qDirF S (qNode S d') path.data.toList (S.length + 1) [] q) w' vl') ∧ Kp B rdTs w w') : NodeC S B b d n := by
  intro path q w vl h hl hp
  obtain ⟨R, hR⟩ : ∃ R, qNode S d path.data.toList q = R := ⟨_, rfl⟩
  rw [hR]
  rw [qNode_kind] at hR
  have HR := Lib.hid hR
  have H := Lib.hid h
  have HD := Lib.hid hD
  have hbl := h.blk.lt
  have hBb := h.le
  have c1 : w.cell? ⟨b, 1, none⟩ = some (.int .i64 q.at') := h.blk.cell 1
  have hps : path.size ≤ 294 := by omega
  clear hR h hD
  go_enter Tryd.func60, Tryd.ntmps60
  go_wp2_with fail
  refine (rmust_any H.out ⟨#[40]⟩).mono ?_
  rintro e w1 ⟨rfl, h1, k1⟩
  have h1 : RAt B b S (qWord S [wOpen] q).2 w1 vl := h1
  have hql := (qWord_la S [wOpen] q).1
  obtain ⟨q1, hq1⟩ : ∃ q1, (qWord S [wOpen] q).2 = q1 := ⟨_, rfl⟩
  rw [hq1] at h1 hql
  have HQ1 := Lib.hid hq1
  have H1 := Lib.hid h1
  have K1 := Lib.hid k1.rt
  clear h1 k1 hq1 c1
  go_upto_if 17 with (fail)
  obtain ⟨q2, hq2⟩ : ∃ q2, (if decide (d = 0) = true then q1.fail 8 q.at' else q1) = q2 := ⟨_, rfl⟩
  go_cut [] (fun wx => Hid (RAt B b S q2 wx vl) ∧ Hid (Kp B rdTs w wx))
  case first =>
    obtain ⟨g, hg⟩ : ∃ g, decide ((5 : Int) < (n : Int)) = g := ⟨_, rfl⟩
    rw [hg]
    cases g with
    | true =>
      have hd0 : d = 0 := by simp at hg; omega
      rw [if_pos (by simp [hd0])] at hq2
      subst hq2
      clear hg hd0
      go_wp2_with fail
      refine (rfail_any H1.out 8 _).mono ?_
      rintro e w2 ⟨rfl, h2, k2⟩
      have H2 := Lib.hid h2
      have K2 := Lib.hid (K1.out.trans k2.rt)
      clear h2 k2
      go_wp2_with fail
      go_meet
      exact ⟨H2, K2⟩
    | false =>
      have hd0 : d ≠ 0 := by simp at hg; omega
      rw [if_neg (by simp [hd0])] at hq2
      subst hq2
      clear hg hd0
      go_wp2_with fail
      go_meet
      exact ⟨H1, K1⟩
  case rest =>
    obtain ⟨H2, K2⟩ := hcut
    have hql2 : q2.l = q.l := by
      rw [← hq2, ← hql]; split
      · exact (fail_la ..).1
      · rfl
    have HQ2 := Lib.hid hq2
    have HQL2 := Lib.hid hql2
    obtain ⟨a2, cp2, hsh, -, -⟩ := H2.out.nodes.shape
    subst hsh
    have c4 : wc.cell? ⟨b, 4, none⟩ = some (.slice a2 q2.l.length cp2) := H2.out.blk.cell 4
    clear hq2 H1 K1 hql hql2
    go_upto_if 26 with (fail)
    obtain ⟨q3, hq3⟩ : ∃ q3, qMany q2 q.at' = q3 := ⟨_, rfl⟩
    go_cut [] (fun wx => Hid (RAt B b S q3 wx (.slice a2 q2.l.length cp2)) ∧ Hid (Kp B rdTs w wx))
    case first =>
      obtain ⟨g, hg⟩ : ∃ g, ((q2.l.length : Int) == 30) = g := ⟨_, rfl⟩
      rw [hg]
      rw [qMany] at hq3
      cases g with
      | true =>
        rw [if_pos (by simp at hg; omega)] at hq3
        subst hq3
        clear hg
        go_wp2_with fail
        refine (rfail_any H2.out 9 _).mono ?_
        rintro e w3 ⟨rfl, h3, k3⟩
        have H3 := Lib.hid h3
        have K3 := Lib.hid (K2.out.trans k3.rt)
        clear h3 k3
        go_wp2_with fail
        go_meet
        exact ⟨H3, K3⟩
      | false =>
        rw [if_neg (by rw [beq_eq_false_iff_ne] at hg; omega)] at hq3
        subst hq3
        clear hg
        go_wp2_with fail
        go_meet
        exact ⟨H2, K2⟩
    case rest =>
      obtain ⟨H3, K3⟩ := hcut
      generalize Value.slice a2 q2.l.length cp2 = vl3 at H3
      have hql3 : q3.l = q.l := by rw [← hq3, ← HQL2.out]; exact (qMany_la ..).1
      have HQ3 := Lib.hid hq3
      clear hq3 H2 K2 c4
      go_wp2_with fail
      refine (rmust_any H3.out ⟨#[116, 121, 112, 101]⟩).mono ?_
      rintro e w4 ⟨rfl, h4, k4⟩
      have h4 : RAt B b S (qWord S [wType] q3).2 w4 vl3 := h4
      have hql4 : (qWord S [wType] q3).2.l = q.l := by rw [(qWord_la ..).1, hql3]
      obtain ⟨q4, hq4⟩ : ∃ q4, (qWord S [wType] q3).2 = q4 := ⟨_, rfl⟩
      rw [hq4] at h4 hql4
      have HQ4 := Lib.hid hq4
      have H4 := Lib.hid h4
      have K4 := Lib.hid (K3.out.trans k4.rt)
      clear h4 k4 hq4 H3 K3 hql3
      go_wp2_with fail
      refine (rword_any (H4.out.keeps ((Keeps.refl _ _).alloc _)) [wFile, wLink, wDir] _ (putArg w4 3 _ [wFile, wLink, wDir] _ rfl rfl rfl (by simp))).mono ?_
      rintro e w5 ⟨rfl, h5, k5⟩
      have hx : qHead S (decide (d = 0)) q = qWord S [wFile, wLink, wDir] q4 := by
        unfold qHead
        rw [HQ1.out, HQ2.out, HQ3.out, HQ4.out]
      have hql5 : (qWord S [wFile, wLink, wDir] q4).2.l = q.l := by rw [(qWord_la ..).1, hql4]
      have hne : (qWord S [wFile, wLink, wDir] q4).1 ≠ [] → q.l.length ≠ 30 := by rw [← hx]; exact qHead_ne
      have hd0 : d = 0 → (qWord S [wFile, wLink, wDir] q4).1 = [] := fun e => by rw [← hx, e]; exact qHead_deep S q
      have hRk := HR.out
      rw [hx] at hRk
      obtain ⟨x, hxx⟩ : ∃ x, qWord S [wFile, wLink, wDir] q4 = x := ⟨_, rfl⟩
      rw [hxx] at h5 hql5 hne hd0 hRk ⊢
      obtain ⟨x1, q5⟩ := x
      simp only at h5 hql5 hne hd0 ⊢
      have hl5 : q5.l.length ≤ 30 := by rw [hql5]; exact hl
      have HL5 : Hid (q5.l = q.l) := hql5
      have H5 := Lib.hid h5
      have K5 := Lib.hid (K4.out.trans (((Kp.refl _ _ _).alloc _).trans k5.rt))
      have HRK := Lib.hid hRk
      have HNE := Lib.hid hne
      have HD0 := Lib.hid hd0
      clear h5 k5 hx hxx hne hd0 hRk HR HQ1 HQ2 HQ3 HQ4 H4 K4 hql4 hql5
      by_cases hF : x1 = wFile
      · subst hF
        have HRF : Hid (qFile S path.data.toList q5 = R) := by
          show _ = _; rw [← HRK.out]; unfold qKind; rw [if_pos rfl]
        clear HRK HNE HD0 HD
        go_wp2_with fail
        refine (rword_any (H5.out.keeps ((Keeps.refl _ _).alloc _)) [wExec, wData] _ (putArg w5 2 _ [wExec, wData] _ rfl rfl rfl (by simp))).mono ?_
        rintro e w6 ⟨rfl, h6, k6⟩
        have hl6 := (qWord_la S [wExec, wData] q5).1
        have hRf := HRF.out
        rw [qFile] at hRf
        obtain ⟨y, hy⟩ : ∃ y, qWord S [wExec, wData] q5 = y := ⟨_, rfl⟩
        rw [hy] at h6 hl6 hRf ⊢
        obtain ⟨y1, q6⟩ := y
        simp only at h6 hl6 hRf ⊢
        have H6 := Lib.hid h6
        have K6 := Lib.hid (K5.out.trans (((Kp.refl _ _ _).alloc _).trans k6.rt))
        have HL6 := Lib.hid hl6
        have HRF2 := Lib.hid hRf
        clear h6 k6 hy hl6 hRf HRF H5 K5
        go_upto_if 40 with (fail)
        obtain ⟨t8, ht8⟩ : ∃ t8 : Int × RQ, (if y1 = wExec then ((2 : Int), (qWord S [wData] (qWord S [[]] q6).2).2) else (1, q6)) = t8 := ⟨_, rfl⟩
        go_cut [7] (fun kv wx => kv = .int .i64 t8.1 ∧ Hid (RAt B b S t8.2 wx vl3) ∧ Hid (Kp B rdTs w wx))
        case first =>
          obtain ⟨g, hg⟩ : ∃ g, (y1 == [101, 120, 101, 99]) = g := ⟨_, rfl⟩
          rw [hg]
          cases g with
          | true =>
            rw [if_pos (by simpa using hg)] at ht8
            subst ht8
            clear hg
            go_wp2_with fail
            refine (rmust_any H6.out ⟨#[]⟩).mono ?_
            rintro e w7 ⟨rfl, h7, k7⟩
            have h7 : RAt B b S (qWord S [[]] q6).2 w7 vl3 := h7
            have H7 := Lib.hid h7
            have K7 := Lib.hid (K6.out.trans k7.rt)
            clear h7 k7
            go_wp2_with fail
            refine (rmust_any H7.out ⟨#[100, 97, 116, 97]⟩).mono ?_
            rintro e w8 ⟨rfl, h8, k8⟩
            have h8 : RAt B b S (qWord S [wData] (qWord S [[]] q6).2).2 w8 vl3 := h8
            have H8 := Lib.hid h8
            have K8 := Lib.hid (K7.out.trans k8.rt)
            clear h8 k8
            go_wp2_with fail
            go_meet
            exact ⟨rfl, H8, K8⟩
          | false =>
            rw [if_neg (by rw [beq_eq_false_iff_ne] at hg; exact hg)] at ht8
            subst ht8
            clear hg
            go_wp2_with fail
            go_meet
            exact ⟨rfl, H6, K6⟩
        case rest =>
          obtain ⟨rfl, H8, K8⟩ := hcut
          have hR8 : (qWord S [wShut] ((qNext S 100 t8.2).2.add ⟨path.data.toList, t8.1, (qNext S 100 t8.2).1⟩)).2 = R := by
            rw [← HRF2.out, ← ht8]
            split <;> rfl
          have hl8 : t8.2.l.length ≤ 30 := by
            rw [← ht8]
            split
            · simp only [(qWord_la ..).1, HL6.out]; exact hl5
            · rw [HL6.out]; exact hl5
          clear ht8 HRF2 HL6 H6 K6
          obtain ⟨kk, q8⟩ := t8
          simp only at hR8 hl8 H8 ⊢
          have HR8 := Lib.hid hR8
          clear hR8
          go_upto_region 14 with (fail)
          obtain ⟨i0, hi, hz0, hz1, hz2⟩ := info_parts infoNodeR
          have c4 : wc.cell? ⟨b, 4, none⟩ = some vl3 := H8.out.blk.cell 4
          have hql9 := (qNext_la S 100 q8).1
          obtain ⟨y, hy⟩ : ∃ y, qNext S 100 q8 = y := ⟨_, rfl⟩
          have HNX : Hid (∀ n : Nat, Calls Tryd.prog 73 #[.pointer (some ⟨b, 0, none⟩), .int .i64 100] (wc.drewN n) fun ed w' => ed = .returned (.string ⟨y.1.toArray⟩) ∧ RAt B b S y.2 w' vl3 ∧ Kp B rdTs w w') := by
            intro n
            have h1 := rnext_any (H8.out.keeps ((Keeps.refl _ _).drewN n)) 100 (by omega)
            rw [hy] at h1
            exact h1.mono fun ed w' ⟨h1, h2, h3⟩ => ⟨h1, h2, (K8.out.drewN n).trans h3.rt⟩
          rw [hy] at HR8 hql9
          obtain ⟨t, q9⟩ := y
          simp only at HR8 hql9 HNX
          have hl9 : q9.l.length ≤ 30 := by rw [hql9]; exact hl8
          clear hy hql9 h1 h4
          go_region_law (first
            | (go_simp
               go_at_call 73
               refine (HNX.out 1).mono ?_
               rintro e w9 ⟨rfl, h9, k9⟩
               have H9 := Lib.hid h9
               have K9 := Lib.hid k9
               have c9 : w9.cell? ⟨b, 4, none⟩ = some vl3 := h9.blk.cell 4
               have hsl9 := h9.nodes
               have hbl9 := h9.blk.lt
               clear h9 k9)
            | (refine step_append_own2 rfl _ _ 22 22 rfl 34 i0 _ 3 40 Tryd.underlying22 hi hz0 hz1 hz2 rfl B vl3 _ _ rfl _ rfl 1 [.string path, .int .i64 kk, .string ⟨t.toArray⟩] (by simp; omega) (by first | exact hsl9.alloc _ | exact hsl9) (by first | exact Src.ofSl Tryd.underlying22 (Sl.of_new _ 0 (Nat.zero_le _) 34 3 1 [.string path, .int .i64 kk, .string ⟨t.toArray⟩] rfl (by simp [maxLen])) (by intro u hu; simp only [List.mem_cons, List.not_mem_nil, or_false] at hu; rcases hu with rfl | rfl | rfl <;> rfl)) (by unfold maxLen; omega) (by omega) ?_
               intro ao cc w10 hs1 hk1 hkk1 hb1
               have HK1 := Lib.hid hk1
               have HS1 := Lib.hid hs1
               have B1 := Lib.hid ((H9.out.blk.alloc (.cells #[.string path, .int .i64 kk, .string ⟨t.toArray⟩] 34)).kp HK1.out (.inr (by decide)))
               have c41 : w10.cell? ⟨b, 4, none⟩ = some vl3 := B1.out.cell 4
               have f41 := B1.out.free 4
               clear hs1 hk1 hkk1 hb1))
          all_goals (
            have hst := radd_step H9.out path.data.toList kk t _ ao cc (q9.l.length + 1) rfl (by have h1 := HS1.out; simpa [sv] using h1) HK1.out
            have H10 := Lib.hid hst.1
            have K10 := Lib.hid (K9.out.trans hst.2)
            generalize World.setCell w10 _ _ = w11 at *
            clear hst HK1 HS1 B1 c41 f41 hsl9 hbl9 c9 H9 K9 HNX c4 hi hz0 hz1 hz2
            go_wp2_with fail
            refine (rmust_any H10.out ⟨#[41]⟩).mono ?_
            rintro e w12 ⟨rfl, h12, k12⟩
            have h12 : RAt B b S (qWord S [wShut] (q9.add ⟨path.data.toList, kk, t⟩)).2 w12 _ := h12
            rw [HR8.out] at h12
            have H12 := Lib.hid h12
            have K12 := Lib.hid (K10.out.trans k12.rt)
            clear h12 k12
            go_wp2_with fail
            go_end0
            exact ⟨rfl, ⟨_, H12.out⟩, K12.out⟩)
      have hb1 : (x1 == [102, 105, 108, 101]) = false := by rw [beq_eq_false_iff_ne]; exact hF
      by_cases hL : x1 = wLink
      · subst hL
        have hRf : qLink S path.data.toList q5 = R := by
          rw [← HRK.out]; unfold qKind; rw [if_neg (by show wLink ≠ wFile; decide), if_pos rfl]
        clear HRK HNE HD0 HD hF hb1
        go_wp2_with fail
        refine (rmust_any H5.out ⟨#[116, 111]⟩).mono ?_
        rintro e w6 ⟨rfl, h6, k6⟩
        have h6 : RAt B b S (qWord S [wTo] q5).2 w6 vl3 := h6
        have hl6 := (qWord_la S [wTo] q5).1
        unfold qLink at hRf
        obtain ⟨q6, hy⟩ : ∃ q6, (qWord S [wTo] q5).2 = q6 := ⟨_, rfl⟩
        rw [hy] at h6 hl6 hRf
        have H6 := Lib.hid h6
        have K6 := Lib.hid (K5.out.trans k6.rt)
        have c1 : w6.cell? ⟨b, 1, none⟩ = some (.int .i64 q6.at') := h6.blk.cell 1
        clear h6 k6 hy H5 K5
        go_wp2_with fail
        refine (rnext_any H6.out 100 (by omega)).mono ?_
        rintro e w7 ⟨rfl, h7, k7⟩
        have hsl := qNext_len S 100 q6
        have hl7 := (qNext_la S 100 q6).1
        obtain ⟨y, hy⟩ : ∃ y, qNext S 100 q6 = y := ⟨_, rfl⟩
        rw [hy] at h7 hsl hRf hl7 ⊢
        obtain ⟨t, q7⟩ := y
        simp only at h7 hsl hRf hl7 ⊢
        have H7 := Lib.hid h7
        have K7 := Lib.hid (K6.out.trans k7.rt)
        have HRF := Lib.hid hRf
        have HL7 : Hid (q7.l = q5.l) := by show _ = _; rw [hl7, hl6]
        clear h7 k7 hy c1 H6 K6 hl6 hl7 hRf
        go_wp2_with fail
        refine (rfilled_any 3 ⟨t.toArray⟩ _ (by show t.toArray.size ≤ _; simp [maxLen]; omega)).mono ?_
        rintro e w8 ⟨rfl, rfl⟩
        rw [show dataB 3 (⟨t.toArray⟩ : ByteArray).data.toList = dataB 3 t from rfl]
        go_upto_if 73 with (fail)
        obtain ⟨q8, hq8⟩ : ∃ q8, (if dataB 3 t = true then q7 else q7.fail 6 q6.at') = q8 := ⟨_, rfl⟩
        rw [hq8] at HRF
        go_cut [] (fun wx => Hid (RAt B b S q8 wx vl3) ∧ Hid (Kp B rdTs w wx))
        case first =>
          cases hd : dataB 3 t with
          | true =>
            rw [hd, if_pos rfl] at hq8
            subst hq8
            clear hd
            go_wp2_with fail
            go_meet
            exact ⟨H7, K7⟩
          | false =>
            rw [hd, if_neg (by decide)] at hq8
            subst hq8
            clear hd
            go_wp2_with fail
            refine (rfail_any H7.out 6 _).mono ?_
            rintro e w9 ⟨rfl, h9, k9⟩
            have H9 := Lib.hid h9
            have K9 := Lib.hid (K7.out.trans k9.rt)
            clear h9 k9
            go_wp2_with fail
            go_meet
            exact ⟨H9, K9⟩
        case rest =>
          obtain ⟨H8, K8⟩ := hcut
          have hl8 : q8.l.length ≤ 30 := by
            rw [← hq8]; split
            · rw [HL7.out]; exact hl5
            · rw [(fail_la ..).1, HL7.out]; exact hl5
          clear hq8 H7 K7 HL7 h1 h4
          obtain ⟨i0, hi, hz0, hz1, hz2⟩ := info_parts infoNodeR
          have c4 : wc.cell? ⟨b, 4, none⟩ = some vl3 := H8.out.blk.cell 4
          have hsl8 := H8.out.nodes
          have hbl8 := H8.out.blk.lt
          go_wp2_with (at_builtin; refine wpList_append_own2 rfl _ _ 22 22 rfl 34 i0 _ 3 40 Tryd.underlying22 hi hz0 hz1 hz2 rfl B vl3 _ _ rfl _ rfl 1 [.string path, .int .i64 3, .string ⟨t.toArray⟩] ?c1 (hsl8.alloc _) ?c2 ?c3 ?c4 ?_)
          case c1 => simp; omega
          case c2 => exact Src.ofSl Tryd.underlying22 (Sl.of_new _ 0 (Nat.zero_le _) 34 3 1 [.string path, .int .i64 3, .string ⟨t.toArray⟩] rfl (by simp [maxLen])) (by intro u hu; simp only [List.mem_cons, List.not_mem_nil, or_false] at hu; rcases hu with rfl | rfl | rfl <;> rfl)
          case c3 => unfold maxLen; omega
          case c4 => omega
          intro ao cc w10 hs1 hk1 hkk1 hb1
          have B1 := (H8.out.blk.alloc (.cells #[.string path, .int .i64 3, .string ⟨t.toArray⟩] 34)).kp hk1 (.inr (by decide))
          have c41 : w10.cell? ⟨b, 4, none⟩ = some vl3 := B1.cell 4
          have f41 := B1.free 4
          have hst := radd_step H8.out path.data.toList 3 t _ ao cc (q8.l.length + 1) rfl (by have h1 := hs1; simpa [sv] using h1) hk1
          have HST := Lib.hid hst
          clear hs1 hk1 hkk1 hb1 hst B1 c4 hsl8 hbl8 hi hz0 hz1 hz2
          go_wp2_with fail
          have H10 := Lib.hid HST.out.1
          have K10 := Lib.hid (K8.out.trans HST.out.2)
          clear HST
          generalize World.setCell w10 _ _ = w11 at *
          refine (rmust_any H10.out ⟨#[41]⟩).mono ?_
          rintro e w12 ⟨rfl, h12, k12⟩
          have h12 : RAt B b S (qWord S [wShut] (q8.add ⟨path.data.toList, 3, t⟩)).2 w12 _ := h12
          rw [HRF.out] at h12
          have H12 := Lib.hid h12
          have K12 := Lib.hid (K10.out.trans k12.rt)
          clear h12 k12 c41 f41
          go_wp2_with fail
          go_end0
          exact ⟨rfl, ⟨_, H12.out⟩, K12.out⟩
      have hb2 : (x1 == [108, 105, 110, 107]) = false := by rw [beq_eq_false_iff_ne]; exact hL
      by_cases hDr : x1 = wDir
      · subst hDr
        have hdne : d ≠ 0 := fun e => absurd (HD0.out e) (by decide)
        obtain ⟨d', rfl⟩ : ∃ d', d = d' + 1 := ⟨d - 1, by omega⟩
        have hRf : qDirF S (qNode S d') path.data.toList (S.length + 1) [] (q5.add ⟨path.data.toList, 4, []⟩) = R := by
          rw [← HRK.out]; unfold qKind; rw [if_neg (by show wDir ≠ wFile; decide), if_neg (by show wDir ≠ wLink; decide), if_pos rfl]
        have h30 := HNE.out (by decide)
        have HRF := Lib.hid hRf
        have hl29 : (q5.add ⟨path.data.toList, 4, []⟩).l.length ≤ 30 := by
          rw [← HL5.out] at h30
          simp only [RQ.add, List.length_append, List.length_cons, List.length_nil]
          omega
        clear HRK HNE HD0 hF hL hb1 hb2 hRf h1 h4
        obtain ⟨i0, hi, hz0, hz1, hz2⟩ := info_parts infoNodeR
        have c4 : w5.cell? ⟨b, 4, none⟩ = some vl3 := H5.out.blk.cell 4
        have hsl8 := H5.out.nodes
        have hbl8 := H5.out.blk.lt
        go_wp2_with (at_builtin; refine wpList_append_own2 rfl _ _ 22 22 rfl 34 i0 _ 3 40 Tryd.underlying22 hi hz0 hz1 hz2 rfl B vl3 _ _ rfl _ rfl 1 [.string path, .int .i64 4, .string ⟨#[]⟩] ?c1 (hsl8.alloc _) ?c2 ?c3 ?c4 ?_)
        case c1 => simp; omega
        case c2 => exact Src.ofSl Tryd.underlying22 (Sl.of_new _ 0 (Nat.zero_le _) 34 3 1 [.string path, .int .i64 4, .string ⟨#[]⟩] rfl (by simp [maxLen])) (by intro u hu; simp only [List.mem_cons, List.not_mem_nil, or_false] at hu; rcases hu with rfl | rfl | rfl <;> rfl)
        case c3 => unfold maxLen; omega
        case c4 => omega
        intro ao cc w10 hs1 hk1 hkk1 hb1
        have B1 := (H5.out.blk.alloc (.cells #[.string path, .int .i64 4, .string ⟨#[]⟩] 34)).kp hk1 (.inr (by decide))
        have c41 : w10.cell? ⟨b, 4, none⟩ = some vl3 := B1.cell 4
        have f41 := B1.free 4
        have hst := radd_step H5.out path.data.toList 4 [] _ ao cc (q5.l.length + 1) rfl (by have h1 := hs1; simpa [sv] using h1) hk1
        have HST := Lib.hid hst
        clear hs1 hk1 hkk1 hb1 hst B1 c4 hsl8 hbl8 hi hz0 hz1 hz2
        go_wp2_with fail
        have H10 := Lib.hid HST.out.1
        have K10 := Lib.hid (K5.out.trans HST.out.2)
        clear HST
        generalize World.setCell w10 _ _ = w11 at *
        refine (HD.out d' path _ _ _ rfl H10.out hl29 hp).mono ?_
        rintro e w12 ⟨rfl, ⟨vl12, h12⟩, k12⟩
        rw [HRF.out] at h12
        have H12 := Lib.hid h12
        have K12 := Lib.hid (K10.out.trans k12)
        clear h12 k12 c41 f41
        go_wp2_with fail
        go_end0
        exact ⟨rfl, ⟨_, H12.out⟩, K12.out⟩
      · have hb3 : (x1 == [100, 105, 114]) = false := by rw [beq_eq_false_iff_ne]; exact hDr
        have hRf : q5 = R := by
          rw [← HRK.out]; unfold qKind; rw [if_neg hF, if_neg hL, if_neg hDr]
        have HRF := Lib.hid hRf
        clear HRK HNE HD0 HD hF hL hDr hRf h1 h4
        go_wp2_with fail
        go_end0
        rw [← HRF.out]
        exact ⟨rfl, ⟨_, H5.out⟩, K5.out⟩
theorem rnode_any (S : List UInt8) (B b : Nat) : ∀ d n : Nat, d + n = 6 → NodeC S B b d n
  | 0, n, h => rnode_step h (fun d' _ _ _ _ e => absurd e (by omega))
  | d + 1, n, h => rnode_step h (fun d' path q w vl e hR hl hp => by
      have e2 : d = d' := by omega
      subst e2
      exact rdir_any (rnode_any S B b d (n + 1) (by omega)) (by omega) hR hl path hp)
end Go.Proofs.YtflkafnhhadphaaDoor
