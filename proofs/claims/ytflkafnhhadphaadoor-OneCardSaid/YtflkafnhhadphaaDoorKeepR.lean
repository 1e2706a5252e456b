/- narkeep.same, read. -/
import Derived.Test.YtflkafnhhadphaaDoorChecked
import Derived.Test.YtflkafnhhadphaaDoorPNar
import Derived.Test.YtflkafnhhadphaaDoorPackw
import Derived.Test.YtflkafnhhadphaaDoorSteps
namespace Go.Proofs.YtflkafnhhadphaaDoor
open Go Go.RowKit
set_option linter.unusedVariables false

set_option maxHeartbeats 800000 in
set_option maxRecDepth 100000 in
/-- two lists of the same nodes are the same -/
theorem same_any (v v' : Value) (l : List Node) (w : World) (hv : Rd w 3 v l.length (nodeCells l)) (hv' : Rd w 3 v' l.length (nodeCells l)) (hl47 : l.length ≤ 140737488355328) :
    Calls Tryd.prog 21 #[v, v'] w fun e w' => e = .returned (.bool true) ∧ Keeps Non w w' := by
  obtain ⟨a, cap, rfl, hl63, hcm⟩ := hv.shape
  obtain ⟨a', cap', rfl, hl63', hcm'⟩ := hv'.shape
  unfold maxLen at hcm hcm'
  have HV := Lib.hid hv
  have HV' := Lib.hid hv'
  clear hv hv'
  go_enter Tryd.func21, Tryd.ntmps21
  go_wp2_with fail
  go_loopg [13] l.length (fun gk i wr => ∃ k : Nat, gk = l.length - k ∧ k ≤ l.length ∧ i = .int .i64 k ∧ Hid (Keeps Non w wr))
  case atStart => exact ⟨0, rfl, Nat.zero_le _, rfl, Keeps.refl _ _⟩
  case round =>
    obtain ⟨k, rfl, hk, rfl, HK⟩ := hrel
    by_cases hlt : k < l.length
    · have hat := nodeCells_at l k hlt
      obtain ⟨b, off, cp, hsh, -, -, -, hbl, hc, -⟩ := HV.out.pos (by omega)
      cases hsh
      obtain ⟨b', off', cp', hsh, -, -, -, hbl', hc', -⟩ := HV'.out.pos (by omega)
      cases hsh
      have hbelow := HK.out.below (Nat.le_refl _) (fun _ _ h => h)
      generalize l[k] = N at *
      obtain ⟨p, kd, da⟩ := N
      simp only at hat
      have c0 : wr.cell? ⟨b, off + k * 3, none⟩ = some (sv p) := (hbelow.cell (p := ⟨b, off + k * 3, none⟩) hbl).trans ((hc _ (by omega)).trans hat.1)
      have c1 : wr.cell? ⟨b, off + k * 3 + 1, none⟩ = some (.int .i64 kd) := (hbelow.cell (p := ⟨b, off + k * 3 + 1, none⟩) hbl).trans ((hc _ (by omega)).trans hat.2.1)
      have c2 : wr.cell? ⟨b, off + k * 3 + 2, none⟩ = some (sv da) := (hbelow.cell (p := ⟨b, off + k * 3 + 2, none⟩) hbl).trans ((hc _ (by omega)).trans hat.2.2)
      have d0 : wr.cell? ⟨b', off' + k * 3, none⟩ = some (sv p) := (hbelow.cell (p := ⟨b', off' + k * 3, none⟩) hbl').trans ((hc' _ (by omega)).trans hat.1)
      have d1 : wr.cell? ⟨b', off' + k * 3 + 1, none⟩ = some (.int .i64 kd) := (hbelow.cell (p := ⟨b', off' + k * 3 + 1, none⟩) hbl').trans ((hc' _ (by omega)).trans hat.2.1)
      have d2 : wr.cell? ⟨b', off' + k * 3 + 2, none⟩ = some (sv da) := (hbelow.cell (p := ⟨b', off' + k * 3 + 2, none⟩) hbl').trans ((hc' _ (by omega)).trans hat.2.2)
      unfold sv at c0 c2 d0 d2
      clear hat hc hc' hbelow
      have q2 : (0 : Int) ≤ (k : Int) := by omega
      have q3 : (k : Int) < (l.length : Int) := by omega
      have q4 : IntKind.i64.wrap (k : Int) = (k : Int) := IntWalk.i64_in _ (by omega)
      go_upto_region 6 with (fail)
      go_quiet (fail)
      go_wp2_with fail
      go_roundg (l.length - (k + 1))
      case measure => omega
      case rel => exact ⟨k + 1, rfl, by omega, by go_num, HK.out.drewN _⟩
    · go_wp2_with fail
      go_ret
      exact ⟨rfl, HK.out⟩

theorem told_len {ts : List (Job × Value)} {σ : PSt} (h1 : σ.nodes.length ≤ 549755813888) : (told (finish (jsOf ts, σ))).1.length ≤ 549755813888 := by
  have h3 : (finish (jsOf ts, σ)).nodes.length ≤ 549755813888 := by
    unfold finish
    split
    · exact h1
    · simp only; rw [(fail_above ..).2.1]; exact h1
  unfold told
  split
  · exact h3
  · simp
def KReadPost (R : List Node × Int × Int) (w : World) (ed : Ending) (w' : World) : Prop :=
  (∃ v, ed = .returned (.tuple #[v, .int .i64 R.2.1, .int .i64 R.2.2]) ∧ Rd w' 3 v R.1.length (nodeCells R.1) ∧ R.1.length ≤ 549755813888) ∧ Keeps Non w w'
set_option maxHeartbeats 1600000 in
set_option maxRecDepth 100000 in
theorem kread_any (s : ByteArray) (n : Int) (w : World) (hT : Tabs w) (hs : s.size ≤ 274877906944) (hn1 : -9223372036854775808 ≤ n) (hn2 : n ≤ 9223372036854775807) :
    Calls Tryd.prog 20 #[.string s, .int .i64 n] w (KReadPost (readL s.data.toList) w) := by
  have HT := Lib.hid hT
  have hBt := hT.top
  clear hT
  go_enter Tryd.func20, Tryd.ntmps20
  go_wp2_with fail
  refine (newReader_any w).mono ?_
  rintro e w1 ⟨rfl, ⟨ts0, hts0, h1⟩, k1⟩
  have H1 := Lib.hid h1
  have HT1 := Lib.hid (HT.out.keeps k1)
  have HTS := Lib.hid hts0
  have K1 : Hid (Kp w.heap.size runTs w w1) := Kp.of_keeps k1
  clear h1 k1 hts0
  generalize hz : w.heap.size = z at *
  have HZ := Lib.hid hz
  clear hz
  go_wp2_with fail
  go_loopg [0] s.size (fun gk sv' wr => ∃ (t : ByteArray) (ps : List (List UInt8)) (ts : List (Job × Value)) (σ : PSt), gk = t.size ∧ sv' = .string t ∧ ps.flatten.length + t.size = s.size ∧ σ.at' + σ.rest.length ≤ ps.flatten.length ∧ Hid (ps.flatten ++ t.data.toList = s.data.toList) ∧ Hid (PI z z [.bool false] ts σ wr) ∧ Hid ((jsOf ts, σ) = steps ps (treeJobs, fresh)) ∧ Hid (Kp z runTs w1 wr))
  case atStart => exact ⟨s, [], ts0, fresh, rfl, rfl, by simp, by simp [fresh], by show _ = _; simp, H1, by show _ = _; rw [HTS.out]; rfl, Kp.refl _ _ _⟩
  case round =>
    clear H1
    obtain ⟨t, ps, ts, σ, rfl, rfl, hsz, hsum, HF, HP, HS, HK⟩ := hrel
    have HTr : Hid (Tabs wr) := HT1.out.kp HK.out hBt
    by_cases hgo : 0 < n ∧ n < (t.size : Int)
    · obtain ⟨hg1, hg2⟩ := hgo
      have hd1 : decide (0 < n) = true := decide_eq_true hg1
      have hd2 : decide (n < (t.size : Int)) = true := decide_eq_true hg2
      obtain ⟨m, rfl⟩ : ∃ m : Nat, n = (m : Int) := ⟨n.toNat, by omega⟩
      have hm0 : 0 < m := by omega
      have hmt : m < t.size := by omega
      have e1 : (0 : Int) ≤ (m : Int) := by omega
      have e2 : (m : Int) ≤ (t.size : Int) := by omega
      have hx : (t.extract 0 m).data.toList = t.data.toList.take m := by rw [ext_list, List.drop_zero, Nat.sub_zero]
      have hxl : (t.data.toList.take m).length = m := by rw [List.length_take, dlen]; omega
      have hxs : (t.extract 0 m).size = m := by rw [ByteArray.size_extract]; omega
      have hcall := nfeed_any HP.out HTr.out hBt (t.extract 0 m) (by omega)
      rw [hx] at hcall
      have HC := Lib.hid hcall
      have hys : (t.extract m t.size).size = t.size - m := by rw [ByteArray.size_extract]; omega
      have HF1 : Hid ((ps ++ [t.data.toList.take m]).flatten ++ (t.extract m t.size).data.toList = s.data.toList) := by
        show _ = _
        rw [← HF.out, List.flatten_append, ext_list]
        simp only [List.flatten_cons, List.flatten_nil, List.append_nil, List.append_assoc]
        rw [List.take_of_length_le (l := t.data.toList.drop m) (by rw [List.length_drop, dlen]; exact Nat.le_refl _), List.take_append_drop]
      clear hcall hx hxs
      go_wp2_with fail
      refine HC.out.mono ?_
      rintro e w3 ⟨rfl, ⟨ts', hts', h3⟩, k3⟩
      have HS3 : Hid ((jsOf ts', (run (jsOf ts) (σ.feed (t.data.toList.take m))).2) = steps (ps ++ [t.data.toList.take m]) (treeJobs, fresh)) := by
        show _ = _
        rw [steps_snoc, ← HS.out, hts']
      have hsum3 : (run (jsOf ts) (σ.feed (t.data.toList.take m))).2.at' + (run (jsOf ts) (σ.feed (t.data.toList.take m))).2.rest.length ≤ (ps ++ [t.data.toList.take m]).flatten.length := by
        have q1 := run_sum (jsOf ts) (σ.feed (t.data.toList.take m))
        have q2 := feed_sum σ (t.data.toList.take m)
        rw [List.flatten_append, List.length_append]
        simp only [List.flatten_cons, List.flatten_nil, List.append_nil]
        omega
      have hsz3 : (ps ++ [t.data.toList.take m]).flatten.length + (t.extract m t.size).size = s.size := by
        rw [List.flatten_append, List.length_append]
        simp only [List.flatten_cons, List.flatten_nil, List.append_nil]
        omega
      have H3 := Lib.hid h3
      have K3 := Lib.hid (HK.out.trans k3)
      clear h3 k3 hts' HC hxl
      generalize (run (jsOf ts) (σ.feed (t.data.toList.take m))).2 = σ3 at *
      go_wp2_with fail
      go_roundg ((t.extract m t.size).size)
      case measure => omega
      case rel => exact ⟨t.extract m t.size, _, ts', σ3, rfl, rfl, hsz3, hsum3, HF1, H3, HS3, K3⟩
    · have hd1 : (decide (0 < n) && decide (n < (t.size : Int))) = false := by
        rw [Bool.and_eq_false_iff]
        by_cases h0 : 0 < n
        · exact .inr (decide_eq_false fun h => hgo ⟨h0, h⟩)
        · exact .inl (decide_eq_false h0)
      have hts2 : t.data.toList.length = t.size := dlen t
      have hcall := nfeed_any HP.out HTr.out hBt t (by omega)
      have HC := Lib.hid hcall
      have hfin : told (finish (steps (ps ++ [t.data.toList]) (treeJobs, fresh))) = readL s.data.toList := by
        rw [steps_read, List.flatten_append, ← HF.out]
        simp
      rw [steps_snoc, ← HS.out] at hfin
      have HFIN := Lib.hid hfin
      clear hcall hfin
      by_cases h0 : 0 < n
      case' pos =>
        have hd3 : decide (0 < n) = true := decide_eq_true h0
        have hd4 : decide (n < (t.size : Int)) = false := decide_eq_false fun h => hgo ⟨h0, h⟩
        clear hgo hd1
        go_wp2_with fail
      case' neg =>
        have hd3 : decide (0 < n) = false := decide_eq_false h0
        clear hgo hd1
        go_wp2_with fail
      all_goals (
        refine HC.out.mono ?_
        rintro e w3 ⟨rfl, ⟨ts', hts', h3⟩, k3⟩
        have H3 := Lib.hid h3
        have K3 := Lib.hid (HK.out.trans k3)
        have hfin := HFIN.out
        rw [show run (jsOf ts, σ).fst ((jsOf ts, σ).snd.feed t.data.toList) = (jsOf ts', (run (jsOf ts) (σ.feed t.data.toList)).2) by rw [hts']] at hfin
        clear h3 k3 hts' HC HP HK HS HFIN
        generalize (run (jsOf ts) (σ.feed t.data.toList)).2 = σ3 at *
        have hRl := told_len (ts := ts') (by have h1 := H3.out.fit.nodes; have h2 := H3.out.fit.all; omega : σ3.nodes.length ≤ 549755813888)
        have hcall := nclose_any H3.out
        rw [hfin] at hcall hRl
        have HC := Lib.hid hcall
        clear hcall hfin
        generalize readL s.data.toList = R at *
        go_wp2_with fail
        refine HC.out.mono ?_
        rintro e w4 ⟨⟨v4, rfl, hr4⟩, -, k4⟩
        have HR4 := Lib.hid hr4
        have K4 := Lib.hid ((K1.out.trans (K3.out.trans k4)).keeps (by rw [HZ.out]; exact Nat.le_refl _))
        clear hr4 k4 HC
        go_wp2_with fail
        go_ret3
        exact ⟨⟨_, rfl, HR4.out, hRl⟩, K4.out⟩)
end Go.Proofs.YtflkafnhhadphaaDoor
