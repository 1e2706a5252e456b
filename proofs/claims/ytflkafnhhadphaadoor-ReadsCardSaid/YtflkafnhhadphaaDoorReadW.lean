/- narlaw.Reads walked. -/
import Derived.Test.YtflkafnhhadphaaDoorChecked
import Derived.Test.YtflkafnhhadphaaDoorPNar
import Derived.Test.YtflkafnhhadphaaDoorRefY
import Derived.Test.YtflkafnhhadphaaDoorPieces
import Derived.Test.YtflkafnhhadphaaDoorPackw
namespace Go.Proofs.YtflkafnhhadphaaDoor
open Go Go.RowKit
set_option linter.unusedVariables false

theorem steps_snoc : ∀ (ps : List (List UInt8)) (p : List UInt8) (x : List Job × PSt), steps (ps ++ [p]) x = run (steps ps x).1 ((steps ps x).2.feed p)
  | [], p, x => rfl
  | q :: ps, p, x => steps_snoc ps p _
theorem flatten_le : ∀ (l : List (List UInt8)) (k : Nat), (l.take k).flatten.length ≤ l.flatten.length
  | [], k => by simp
  | p :: ps, 0 => by simp
  | p :: ps, k + 1 => by
    have := flatten_le ps k
    simp only [List.take_succ_cons, List.flatten_cons, List.length_append]
    omega
theorem readL_small (S : List UInt8) (hat : (qTree S).at' ≤ S.length) : (readL S).1.length ≤ 30 := by
  rw [qEnd_read S hat]
  have h1 : (qTree S).l.length ≤ 30 := (qNode_la S 6 [] _).1 (by rw [(qWord_la ..).1]; simp [qStart])
  have h2 : (qEnd S (qTree S)).l = (qTree S).l := by
    unfold qEnd; split
    · exact (fail_la ..).1
    · rfl
  split
  · show (qEnd S (qTree S)).l.length ≤ 30
    rw [h2]; exact h1
  · simp

set_option maxHeartbeats 1600000 in
set_option maxRecDepth 100000 in
theorem reads_walk (s : ByteArray) (v : Value) (cuts : List Int) (w : World) (hT : Tabs w) (hs47 : s.size ≤ 140737488355328) (hv : Rd w 1 v cuts.length (intCells cuts)) (hlr : cuts.length ≤ 140737488355328 ∧ ∀ z ∈ cuts, -9223372036854775808 ≤ z ∧ z ≤ 9223372036854775807) :
    Calls Tryd.prog 5 #[.string s, v] w fun e w' => e = .returned (.bool true) ∧ Keeps Non w w' := by
  obtain ⟨hlen, hr⟩ := hlr
  obtain ⟨ac, cc, rfl, hcl, hcm⟩ := hv.shape
  unfold maxLen at hcm
  have HV := Lib.hid hv
  have HT := Lib.hid hT
  have HR := Lib.hid hr
  have hBt := hT.top
  clear hv hT hr
  by_cases hbig : 262144 < s.size + cuts.length
  · have hd : decide ((262144 : Int) < (s.size : Int) + (cuts.length : Int)) = true := decide_eq_true (by omega)
    go_enter Tryd.func5, Tryd.ntmps5
    go_wp2_with fail
    go_ret
    exact ⟨rfl, Keeps.refl _ _⟩
  · have hd : decide ((262144 : Int) < (s.size : Int) + (cuts.length : Int)) = false := decide_eq_false (by omega)
    go_enter Tryd.func5, Tryd.ntmps5
    go_wp2_with fail
    refine (newReader_any w).mono ?_
    rintro e w1 ⟨rfl, ⟨ts0, hts0, h1⟩, k1⟩
    have H1 := Lib.hid h1
    have K1 := Lib.hid k1
    have HV1 := Lib.hid (HV.out.non k1)
    have HT1 := Lib.hid (HT.out.keeps k1)
    have HTS := Lib.hid hts0
    have hsz1 := k1.size
    clear h1 k1 hts0 HV
    go_wp2_with fail
    refine (pieces_any s _ cuts _ HV1.out (by omega) (by omega) HR.out).mono ?_
    rintro e w2 ⟨⟨vp, out, rfl, hsl, hfl, hol⟩, k2⟩
    have hK2 : Keeps Non w w2 := K1.out.trans k2 (fun k hk => .inl hk)
    have H2 : Hid (PI w.heap.size w.heap.size [.bool false] ts0 fresh w2) := ⟨H1.out.pa.keeps k2, H1.out.ok, H1.out.fit, H1.out.dry⟩
    have HT2 := Lib.hid (HT1.out.keeps k2)
    have HSL : Hid (Sl w2 0 9 1 vp out.length (svs out)) := hsl.mono (Nat.zero_le _)
    have HFL := Lib.hid hfl
    have K2 : Hid (Kp w.heap.size runTs w w2) := Kp.of_keeps hK2
    have hfs : out.flatten.length = s.size := by rw [hfl, dlen]
    obtain ⟨ap, cp, rfl, hpc, hpm⟩ := hsl.shape
    unfold maxLen at hpm
    clear hsl hfl k2 hK2 H1 K1 HV1 HT1
    generalize hz : w.heap.size = z at *
    have HZ := Lib.hid hz
    clear hz
    go_wp2_with fail
    go_loopg [30] out.length (fun gk kv wr => ∃ (k : Nat) (ts : List (Job × Value)) (σ : PSt), gk = out.length - k ∧ k ≤ out.length ∧ kv = .int .i64 k ∧ σ.at' + σ.rest.length ≤ (out.take k).flatten.length ∧ Hid (PI z z [.bool false] ts σ wr) ∧ Hid ((jsOf ts, σ) = steps (out.take k) (treeJobs, fresh)) ∧ Hid (Kp z runTs w2 wr))
    case atStart => exact ⟨0, ts0, fresh, rfl, Nat.zero_le _, rfl, by simp [fresh], H2, by show _ = _; rw [HTS.out]; rfl, Kp.refl _ _ _⟩
    case round =>
      clear H2
      obtain ⟨k, ts, σ, rfl, hk, rfl, hsum, HP, HS, HK⟩ := hrel
      by_cases hlt : k < out.length
      · obtain ⟨bp, op, cp', hsh, -, -, -, hbp, hcc, -⟩ := (HSL.out.kp HK.out (.inl (by decide))).pos (by omega)
        cases hsh
        have d0 : wr.cell? ⟨bp, op + k, none⟩ = some (sv out[k]) := (hcc k (by omega)).trans (by simp [svs, List.getElem?_eq_getElem hlt])
        unfold sv at d0
        have htake : out.take (k + 1) = out.take k ++ [out[k]] := List.take_succ_eq_append_getElem hlt
        have hfk := flatten_le out (k + 1)
        rw [htake, List.flatten_append, List.length_append] at hfk
        simp only [List.flatten_cons, List.flatten_nil, List.append_nil] at hfk
        have HTK := Lib.hid htake
        clear hcc htake
        generalize out[k] = p at *
        have HTr : Hid (Tabs wr) := HT2.out.kp HK.out hBt
        have hcall := nfeed_any HP.out HTr.out hBt ⟨p.toArray⟩ (by show _ + p.toArray.size ≤ _; simp only [List.size_toArray]; omega)
        have HC := Lib.hid hcall
        clear hcall
        go_wp2_with fail
        refine HC.out.mono ?_
        rintro e w3 ⟨rfl, ⟨ts', hts', h3⟩, k3⟩
        have h3 : PI z z [.bool false] ts' (run (jsOf ts) (σ.feed p)).2 w3 := h3
        have hts' : jsOf ts' = (run (jsOf ts) (σ.feed p)).1 := hts'
        have HS3 : Hid ((jsOf ts', (run (jsOf ts) (σ.feed p)).2) = steps (out.take (k + 1)) (treeJobs, fresh)) := by
          show _ = _
          rw [HTK.out, steps_snoc, ← HS.out, hts']
        have hsum3 : (run (jsOf ts) (σ.feed p)).2.at' + (run (jsOf ts) (σ.feed p)).2.rest.length ≤ (out.take (k + 1)).flatten.length := by
          have q1 := run_sum (jsOf ts) (σ.feed p)
          have q2 := feed_sum σ p
          rw [HTK.out, List.flatten_append, List.length_append]
          simp only [List.flatten_cons, List.flatten_nil, List.append_nil]
          omega
        have H3 := Lib.hid h3
        have K3 := Lib.hid (HK.out.trans k3)
        clear h3 k3 hts' HC d0
        generalize (run (jsOf ts) (σ.feed p)).2 = σ3 at *
        go_wp2_with fail
        go_roundg (out.length - (k + 1))
        case measure => omega
        case rel => exact ⟨k + 1, ts', σ3, rfl, by omega, by go_num, hsum3, H3, HS3, K3⟩
      · have hkl : k = out.length := by omega
        subst hkl
        have HTOLD : Hid (told (finish (jsOf ts, σ)) = readL s.data.toList) := by
          show _ = _
          rw [HS.out, List.take_of_length_le (Nat.le_refl _), steps_read, HFL.out]
        have hRl : (told (finish (jsOf ts, σ))).1.length ≤ 549755813888 := by
          have h1 := HP.out.fit.nodes
          have h2 := HP.out.fit.all
          have h3 : (finish (jsOf ts, σ)).nodes.length ≤ 549755813888 := by
            unfold finish
            split
            · simp only; omega
            · simp only; rw [(fail_above ..).2.1]; omega
          unfold told
          split
          · exact h3
          · simp
        rw [HTOLD.out] at hRl
        have hcall := nclose_any HP.out
        rw [HTOLD.out] at hcall
        obtain ⟨R, hRR⟩ : ∃ R, readL s.data.toList = R := ⟨_, rfl⟩
        rw [hRR] at hcall hRl
        have HRR := Lib.hid hRR
        have HC := Lib.hid hcall
        clear hcall hRR HTOLD HS
        go_wp2_with fail
        refine HC.out.mono ?_
        rintro e w3 ⟨⟨v3, rfl, hr3⟩, ⟨σ3, h3⟩, k3⟩
        have H3 := Lib.hid h3
        have HR3 := Lib.hid hr3
        have K3 := Lib.hid (HK.out.trans k3)
        clear h3 hr3 k3 HC HP HK
        have hrd := rread_any s w3 (by omega)
        rw [HRR.out] at hrd
        have HRD := Lib.hid hrd
        clear hrd
        go_wp2_with fail
        refine HRD.out.mono ?_
        rintro e w4 ⟨v4, rfl, hr4, k4⟩
        have H4 := Lib.hid (H3.out.keeps k4)
        have HR34 := Lib.hid (HR3.out.non k4)
        have HR4 := Lib.hid hr4
        have K4 := Lib.hid (K3.out.trans (Kp.of_keeps k4))
        clear hr4 k4 HRD H3 HR3 K3
        go_wp2_with fail
        refine (nclose_closed H4.out).mono ?_
        rintro e w5 ⟨rfl, rfl⟩
        go_wp2_with fail
        have hb1 : (R.2.1 == R.2.1) = true := beq_self_eq_true _
        have hb2 : (R.2.2 == R.2.2) = true := beq_self_eq_true _
        refine (sameTree_any v3 v4 R.1 w4 HR34.out HR4.out (by omega)).mono ?_
        rintro e w5 ⟨rfl, k5⟩
        have H5 := Lib.hid (H4.out.keeps k5)
        have K5 := Lib.hid (K4.out.trans (Kp.of_keeps k5))
        clear k5 H4 K4 HR34 HR4
        go_wp2_with fail
        refine (nfeed_closed H5.out s).mono ?_
        rintro e w6 ⟨rfl, rfl⟩
        go_wp2_with fail
        go_ret
        exact ⟨rfl, (K2.out.trans K5.out).keeps (by rw [HZ.out]; exact Nat.le_refl _)⟩
end Go.Proofs.YtflkafnhhadphaaDoor
