/- narlaw.pieces. -/
import Derived.Test.YtflkafnhhadphaaDoorChecked
import Derived.Test.YtflkafnhhadphaaDoorOwn
import Derived.Test.YtflkafnhhadphaaDoorPack
namespace Go.Proofs.YtflkafnhhadphaaDoor
open Go Go.RowKit
set_option linter.unusedVariables false

def intCells (l : List Int) : List Value := l.map fun z => .int .i64 z
set_option maxHeartbeats 1600000 in
set_option maxRecDepth 100000 in
theorem pieces_any (s : ByteArray) (v : Value) (cuts : List Int) (w : World) (hv : Rd w 1 v cuts.length (intCells cuts)) (hs : s.size ≤ 262144) (hc : cuts.length ≤ 262144) (hr : ∀ z ∈ cuts, -9223372036854775808 ≤ z ∧ z ≤ 9223372036854775807) :
    Calls Tryd.prog 16 #[.string s, v] w fun ed w' => (∃ (v' : Value) (out : List (List UInt8)), ed = .returned v' ∧ Sl w' w.heap.size 9 1 v' out.length (svs out) ∧ out.flatten = s.data.toList ∧ out.length ≤ 524288) ∧ Keeps Non w w' := by
  obtain ⟨ac, cc, rfl, hcl, hcm⟩ := hv.shape
  unfold maxLen at hcm
  have HV := Lib.hid hv
  have HR := Lib.hid hr
  clear hv hr
  go_enter Tryd.func16, Tryd.ntmps16
  go_wp2_with fail
  go_loopg [0, 5, 6] (s.size) (fun gk sv' ov kv wr => ∃ (t : ByteArray) (out : List (List UInt8)) (k : Nat), gk = t.size ∧ t.size ≤ s.size ∧ k + t.size ≤ s.size ∧ out.length + 2 * t.size ≤ 2 * s.size ∧ sv' = .string t ∧ kv = .int .i64 k ∧ Hid (Sl wr w.heap.size 9 1 ov out.length (svs out)) ∧ Hid (Keeps Non w wr) ∧ Hid (out.flatten ++ t.data.toList = s.data.toList))
  case atStart => exact ⟨s, [], 0, rfl, Nat.le_refl _, by omega, by simp, rfl, rfl, Sl.nil _ _ _ _, Keeps.refl _ _, by show _ = _; simp⟩
  case round =>
    obtain ⟨t, out, k, rfl, hts, hkt, hot, rfl, rfl, HO, HK, HF⟩ := hrel
    obtain ⟨ao, co, hsh, -, -⟩ := HO.out.shape
    subst hsh
    by_cases h0 : t.size = 0
    · have hb : t.toList.isEmpty = true := by rw [ByteArray.toList_eq]; have := dlen t; rw [h0] at this; rw [List.eq_nil_of_length_eq_zero this]; rfl
      have hb2 : (!t.toList.isEmpty) = false := by rw [hb]; rfl
      have HFL : Hid (out.flatten = s.data.toList) := by
        have h1 := dlen t
        rw [h0] at h1
        have h2 := HF.out
        rwa [List.eq_nil_of_length_eq_zero h1, List.append_nil] at h2
      clear h0
      go_wp2_with fail
      go_ret
      exact ⟨⟨_, out, rfl, HO.out, HFL.out, by omega⟩, HK.out⟩
    · have hb : t.toList.isEmpty = false := by rw [ByteArray.toList_eq]; have := dlen t; cases hc : t.data.toList with
        | nil => rw [hc] at this; simp at this; omega
        | cons x r => rfl
      have hb2 : (!t.toList.isEmpty) = true := by rw [hb]; rfl
      go_upto_if 16 with (fail)
      go_cut [7] (fun nv wx => (∃ z : Int, nv = .int .i64 z ∧ -9223372036854775808 ≤ z ∧ z ≤ 9223372036854775807) ∧ wr = wx)
      case first =>
        obtain ⟨g, hg⟩ : ∃ g, decide (0 < cuts.length) = g := ⟨_, rfl⟩
        rw [hg]
        cases g with
        | true =>
          have hc0 : 0 < cuts.length := of_decide_eq_true hg
          obtain ⟨j, hj⟩ : ∃ j, k % cuts.length = j := ⟨_, rfl⟩
          have hjl : j < cuts.length := by rw [← hj]; exact Nat.mod_lt _ hc0
          have hrem : (k : Int).tmod (cuts.length : Int) = (j : Int) := by rw [← hj]; rfl
          have hrem2 : (k : Int) % (cuts.length : Int) = (j : Int) := by rw [← hj]; rfl
          have hnz : ((cuts.length : Int) == 0) = false := by rw [beq_eq_false_iff_ne]; omega
          have hnz2 : ¬ (cuts.length : Int) = 0 := by omega
          have hj0 : (0 : Int) ≤ (j : Int) := by omega
          have hj1 : (j : Int) < (cuts.length : Int) := by omega
          obtain ⟨b', o', c', hsh, -, -, -, -, hcc, -⟩ := (HV.out.non HK.out).pos hc0
          cases hsh
          have d0 : wr.cell? ⟨b', o' + j, none⟩ = some (.int .i64 cuts[j]) := (hcc j (by omega)).trans (by simp [intCells, List.getElem?_eq_getElem hjl])
          have HZ := HR.out cuts[j] (List.getElem_mem hjl)
          generalize cuts[j] = z at *
          clear hcc hj hg
          go_wp2_with fail
          go_meet
          exact ⟨⟨z, rfl, HZ⟩, rfl⟩
        | false =>
          clear hg
          go_wp2_with fail
          go_meet
          exact ⟨⟨(t.size : Int), rfl, by omega, by omega⟩, rfl⟩
      case rest =>
        obtain ⟨⟨z, rfl, hz1, hz2⟩, rfl⟩ := hcut
        obtain ⟨i0, hi, hi0, hi1, hi2⟩ := info_parts infoStr
        go_upto_if 25 with (fail)
        go_cut [5, 7] (fun ov nv wx => ∃ (out' : List (List UInt8)) (z' : Int), nv = .int .i64 z' ∧ 1 ≤ z' ∧ z' ≤ 9223372036854775807 ∧ out'.length ≤ out.length + 1 ∧ Hid (Sl wx w.heap.size 9 1 ov out'.length (svs out')) ∧ Hid (Keeps Non w wx) ∧ Hid (out'.flatten = out.flatten))
        case first =>
          obtain ⟨g, hg⟩ : ∃ g, decide (z ≤ 0) = g := ⟨_, rfl⟩
          rw [hg]
          cases g with
          | true =>
            have hsl := HO.out
            have hsz := HK.out.size
            go_wp2_with (at_builtin; refine wpList_append_own2 rfl _ _ 39 39 rfl 9 i0 _ 1 16 Tryd.underlying39 hi hi0 hi1 hi2 rfl w.heap.size _ _ _ rfl _ rfl 1 (svs [[]]) ?c1 (hsl.alloc _) ?c2 ?c3 ?c4 ?_)
            case c1 => simp; omega
            case c2 => exact Src.ofSl Tryd.underlying39 (putArg wr 1 _ [[]] _ rfl rfl rfl (by simp)) (by intro u hu; simp only [svs, List.map, List.mem_cons, List.not_mem_nil, or_false] at hu; subst hu; rfl)
            case c3 => unfold maxLen; omega
            case c4 => omega
            intro a1 c1 w1 hs1 hk1 hkk1 hb1
            have HO1 : Hid (Sl w1 w.heap.size 9 1 (.slice a1 (out.length + 1) c1) (out ++ [[]]).length (svs (out ++ [[]]))) := by
              show Sl _ _ _ _ _ _ _
              rw [List.length_append, show svs (out ++ [[]]) = svs out ++ svs [[]] by simp [svs]]
              exact hs1
            have HK1 : Hid (Keeps Non w w1) := HK.out.trans (S' := fun k => w.heap.size ≤ k) (Keeps.of_below (B := w.heap.size) ((((Kp.refl w.heap.size [9] wr).alloc _).trans hk1).below hsz) (fun k hk hn => by omega)) (fun k hk => .inr hk)
            clear hs1 hk1 hkk1 hb1 hsl hi hi0 hi1 hi2
            go_wp2_with fail
            go_meet
            exact ⟨out ++ [[]], 1, rfl, by omega, by omega, by simp, HO1, HK1, by show _ = _; simp⟩
          | false =>
            have hzp : ¬ z ≤ 0 := of_decide_eq_false hg
            clear hg
            go_wp2_with fail
            go_meet
            exact ⟨out, z, rfl, by omega, hz2, by omega, HO, HK, rfl⟩
        case rest =>
          obtain ⟨out', z', rfl, hzp, hzm, hol, HO', HK', HF'⟩ := hcut
          obtain ⟨ao', co', hsh, -, -⟩ := HO'.out.shape
          subst hsh
          go_upto_region 12 with (fail)
          obtain ⟨m, hm⟩ : ∃ m : Nat, min z' (t.size : Int) = (m : Int) := ⟨(min z' (t.size : Int)).toNat, by omega⟩
          have hm1 : 1 ≤ m := by omega
          have hm2 : m ≤ t.size := by omega
          rw [hm]
          have HM := Lib.hid hm
          clear hm
          have hsl := HO'.out
          have hsz := HK'.out.size
          have e1 : (0 : Int) ≤ (m : Int) := by omega
          have e2 : (m : Int) ≤ (t.size : Int) := by omega
          go_wp2_with (at_builtin; refine wpList_append_own2 rfl _ _ 39 39 rfl 9 i0 _ 1 16 Tryd.underlying39 hi hi0 hi1 hi2 rfl w.heap.size _ _ _ rfl _ rfl 1 (svs [(t.extract 0 m).data.toList]) ?c1 (hsl.alloc _) ?c2 ?c3 ?c4 ?_)
          case c1 => simp; omega
          case c2 => exact Src.ofSl Tryd.underlying39 (putArg wc 1 _ [(t.extract 0 m).data.toList] _ rfl rfl rfl (by simp)) (by intro u hu; simp only [svs, List.map, List.mem_cons, List.not_mem_nil, or_false] at hu; subst hu; rfl)
          case c3 => unfold maxLen; omega
          case c4 => omega
          intro a1 c1 w1 hs1 hk1 hkk1 hb1
          have HO1 : Hid (Sl w1 w.heap.size 9 1 (.slice a1 (out'.length + 1) c1) (out' ++ [(t.extract 0 m).data.toList]).length (svs (out' ++ [(t.extract 0 m).data.toList]))) := by
            show Sl _ _ _ _ _ _ _
            rw [List.length_append, show svs (out' ++ [(t.extract 0 m).data.toList]) = svs out' ++ svs [(t.extract 0 m).data.toList] by simp [svs], show (t.extract 0 m).data.toList = t.data.toList.take m by rw [ext_list, List.drop_zero, Nat.sub_zero]]
            exact hs1
          have HK1 : Hid (Keeps Non w w1) := HK'.out.trans (S' := fun k => w.heap.size ≤ k) (Keeps.of_below (B := w.heap.size) ((((Kp.refl w.heap.size [9] wc).alloc _).trans hk1).below hsz) (fun k hk hn => by omega)) (fun k hk => .inr hk)
          have HF1 : Hid ((out' ++ [(t.extract 0 m).data.toList]).flatten ++ (t.extract m t.size).data.toList = s.data.toList) := by
            show _ = _
            rw [← HF.out, List.flatten_append, HF'.out, ext_list, ext_list]
            simp only [List.flatten_cons, List.flatten_nil, List.append_nil, List.drop_zero, Nat.sub_zero, List.append_assoc]
            rw [List.take_of_length_le (l := t.data.toList.drop m) (by rw [List.length_drop, dlen]; exact Nat.le_refl _), List.take_append_drop]
          have hszt : (t.extract m t.size).size = t.size - m := by rw [ByteArray.size_extract]; omega
          clear hs1 hk1 hkk1 hb1 hsl hi hi0 hi1 hi2
          go_wp2_with fail
          go_roundg ((t.extract m t.size).size)
          case measure => omega
          case rel => exact ⟨t.extract m t.size, _, k + 1, rfl, by omega, by omega, by rw [List.length_append, List.length_singleton]; omega, rfl, by go_num, HO1, HK1, HF1⟩
end Go.Proofs.YtflkafnhhadphaaDoor
