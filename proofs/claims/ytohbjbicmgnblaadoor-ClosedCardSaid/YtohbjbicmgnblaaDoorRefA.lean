/- narref: strings with their lengths. -/
import Derived.Test.YtohbjbicmgnblaaDoorChecked
import Derived.Test.YtohbjbicmgnblaaDoorPack
namespace Go.Proofs.YtohbjbicmgnblaaDoor
open Go Go.RowKit
set_option linter.unusedVariables false

theorem leB_next (n k : Nat) : leB n k = UInt8.ofNat (n / 256 ^ k % 256) := by
  unfold leB
  rw [show 256 ^ k = 2 ^ (8 * k) by rw [Nat.pow_mul]]
theorem take_str (n k : Nat) (h : k < 8) : (⟨((le8 n).take k).toArray⟩ : ByteArray) ++ ⟨#[UInt8.ofNat (n / 256 ^ k % 256)]⟩ = ⟨((le8 n).take (k + 1)).toArray⟩ := by
  rw [le8_snoc _ _ h, leB_next]
  apply ByteArray.ext
  rw [ByteArray.data_append]
  simp
theorem str_app (a b : List UInt8) : (⟨a.toArray⟩ : ByteArray) ++ ⟨b.toArray⟩ = ⟨(a ++ b).toArray⟩ := by
  apply ByteArray.ext
  rw [ByteArray.data_append]
  simp

set_option maxHeartbeats 400000 in
set_option maxRecDepth 100000 in
theorem num_any (n : Nat) (w : World) (hn : n ≤ maxLen) :
    Calls Tryd.prog 40 #[.int .i64 n] w fun e w' => e = .returned (.string ⟨(le8 n).toArray⟩) ∧ Keeps Non w w' := by
  unfold maxLen at hn
  have kc := fun (w : World) (n : Int) => run_string_one (P := Tryd.prog) 49 5 Tryd.underlying49 Tryd.underlying5 9 Tryd.underlying9 5 w n
  go_enter Tryd.func40, Tryd.ntmps40
  go_wp2
  go_loopw [0, 3, 4] (fun a s i wr => ∃ k : Nat, k ≤ 8 ∧ i = .int .i64 k ∧ a = .int .i64 ((n / 256 ^ k : Nat) : Int) ∧ s = .string ⟨((le8 n).take k).toArray⟩ ∧ Keeps Non w wr) (fun _ _ i _ => 8 - (intOf i).toNat)
  case atStart => exact ⟨0, by omega, rfl, by simp, rfl, Keeps.refl _ _⟩
  case round =>
    obtain ⟨k, hk, rfl, rfl, rfl, hkp⟩ := hrel
    have HK := Lib.hid hkp
    clear hkp
    by_cases hlt : k < 8
    · have hm : n / 256 ^ k ≤ n := Nat.div_le_self _ _
      have hsz : (⟨((le8 n).take k).toArray⟩ : ByteArray).size ≤ 8 := by show ((le8 n).take k).toArray.size ≤ 8; simp; omega
      have HT := Lib.hid (take_str n k hlt)
      have HD := Lib.hid (show n / 256 ^ (k + 1) = n / 256 ^ k / 256 by rw [Nat.pow_succ, Nat.div_div_eq_div_mul])
      generalize hq : n / 256 ^ k = q at *
      clear hq
      go_wp2
      go_roundw
      case rel => exact ⟨k + 1, by omega, by go_num, by rw [HD.out]; simp, congrArg Value.string HT.out, HK.out.alloc _⟩
      case measure => simp [intOf]; omega
    · obtain rfl : k = 8 := by omega
      rw [le8_all]
      go_wp2
      go_ret
      exact ⟨rfl, HK.out⟩

set_option maxHeartbeats 400000 in
set_option maxRecDepth 100000 in
theorem rstr_any (s : List UInt8) (w : World) (hs : s.length ≤ 70368744177664) :
    Calls Tryd.prog 17 #[.string ⟨s.toArray⟩] w fun e w' => e = .returned (.string ⟨(putL s).toArray⟩) ∧ Keeps Non w w' := by
  go_enter Tryd.func17, Tryd.ntmps17
  go_wp2_with fail
  refine (num_any s.length w (by unfold maxLen; omega)).mono ?_
  rintro e w1 ⟨rfl, hk⟩
  have HK := Lib.hid hk
  clear hk
  have hl8 : (le8 s.length).length = 8 := by simp [le8]
  have HST : Hid ((⟨(le8 s.length).toArray⟩ : ByteArray) ++ ⟨s.toArray⟩ = ⟨(le8 s.length ++ s).toArray⟩) := str_app _ _
  go_wp2_with fail
  rw [HST.out]
  go_loopg [3] (padN s.length) (fun gk o wr => ∃ (j : Nat) (L : List UInt8), gk + j = padN s.length ∧ w1 = wr ∧ o = .string ⟨L.toArray⟩ ∧ L.length = 8 + s.length + j ∧ Hid (L = le8 s.length ++ s ++ List.replicate j 0))
  case atStart => exact ⟨0, _, rfl, rfl, rfl, by simp [hl8], by show _ = _; simp⟩
  case round =>
    obtain ⟨j, L, hj, rfl, rfl, hL, hLe⟩ := hrel
    clear HST
    have hp7 := padN_lt s.length
    have HJ := Lib.hid hj
    have hL2 : L.length ≤ 140737488355328 := by omega
    have HLL := Lib.hid hL
    by_cases h : gk = 0
    · have hb : ((L.length : Int) % 8 == 0) = true := by
        rw [beq_iff_eq]; unfold padN at hj; omega
      have hb2 : ((L.length : Int) % 8 != 0) = false := by unfold bne; rw [hb]; rfl
      have HF : Hid (L = putL s) := by
        show _ = _
        rw [hLe.out]
        unfold putL
        rw [show j = padN s.length by omega]
      clear h hj hL
      go_wp2_with fail
      go_ret
      rw [HF.out]
      exact ⟨rfl, HK.out⟩
    · have hb : ((L.length : Int) % 8 == 0) = false := by
        rw [beq_eq_false_iff_ne]; unfold padN at hj; omega
      have hb2 : ((L.length : Int) % 8 != 0) = true := by unfold bne; rw [hb]; rfl
      have HA : Hid ((⟨L.toArray⟩ : ByteArray) ++ ⟨#[0]⟩ = ⟨(L ++ [0]).toArray⟩) := str_app L [0]
      have hg : gk - 1 < gk := by omega
      have hg2 : gk - 1 + (j + 1) = padN s.length := by omega
      have HG2 := Lib.hid hg2
      clear h hj hg2 hL
      go_wp2_with fail
      rw [HA.out]
      go_roundg (gk - 1)
      case measure => exact hg
      case rel => exact ⟨j + 1, L ++ [0], HG2.out, rfl, rfl, by have := HLL.out; simp; omega, by show _ = _; rw [hLe.out, List.replicate_succ', ← List.append_assoc]⟩

set_option maxHeartbeats 400000 in
set_option maxRecDepth 100000 in
theorem rstrs_any (v : Value) (l : List (List UInt8)) (w : World) (hv : Sl w 0 9 1 v l.length (svs l)) (hl : 0 < l.length) (hr : roomOf l ≤ 70368744177664) :
    Calls Tryd.prog 41 #[v] w fun e w' => e = .returned (.string ⟨(putAll l).toArray⟩) ∧ Keeps Non w w' := by
  obtain ⟨b, off, cap, rfl, -, hnc, hcm, hbl, hc, -⟩ := hv.pos hl
  unfold maxLen at hcm
  have HC : Hid (∀ k, k < l.length → w.cell? ⟨b, off + k, none⟩ = some (sv (l.getD k []))) := fun k hk => by
    rw [hc k (by omega)]; simp [svs, List.getD, List.getElem?_eq_getElem hk]
  clear hc hv
  go_enter Tryd.func41, Tryd.ntmps41
  go_wp2
  go_loopw [3, 5, 8] (fun o _ i wr => ∃ k : Nat, k ≤ l.length ∧ i = .int .i64 k ∧ o = .string ⟨(putAll (l.take k)).toArray⟩ ∧ Keeps Non w wr) (fun _ _ i _ => l.length - (intOf i).toNat)
  case atStart => exact ⟨0, by omega, rfl, rfl, Keeps.refl _ _⟩
  case round =>
    obtain ⟨k, hk, rfl, rfl, hkp⟩ := hrel
    have HK := Lib.hid hkp
    by_cases hlt : k < l.length
    · have hcell : wr.cell? ⟨b, off + k, none⟩ = some (sv (l.getD k [])) := ((hkp.below (Nat.le_refl _) (fun _ _ h => h)).cell (p := ⟨b, off + k, none⟩) hbl).trans (HC.out k hlt)
      have hroom := roomOf_take l k hlt
      have hput := putAll_le (l.take k)
      have hge : l.getD k [] = l[k] := by simp [List.getD, List.getElem?_eq_getElem hlt]
      rw [hge] at hcell
      have HSN : Hid ((⟨(putAll (l.take k)).toArray⟩ : ByteArray) ++ ⟨(putL l[k]).toArray⟩ = ⟨(putAll (l.take (k + 1))).toArray⟩) := by
        show _ = _
        rw [str_app, putAll_snoc l k hlt]
      clear hge hkp
      generalize hx : l[k] = x at *
      generalize hy : putAll (l.take k) = y at *
      have hpl := putL_length x
      have hpn := padN_lt x.length
      have hpx : (putL x).length ≤ x.length + 16 := by omega
      unfold sv at hcell
      clear hpl hpn hx hy
      go_wp2_with fail
      refine (rstr_any x wr (by omega)).mono ?_
      rintro e w1 ⟨rfl, hk1⟩
      have HK1 := Lib.hid (HK.out.trans hk1 (fun k hk => .inl hk))
      clear hk1 HK
      go_wp2_with fail
      rw [HSN.out]
      go_roundw
      case rel => exact ⟨k + 1, by omega, by go_num, rfl, HK1.out⟩
      case measure => simp [intOf]; omega
    · obtain rfl : k = l.length := by omega
      rw [List.take_length]
      clear hkp
      go_wp2
      go_ret
      exact ⟨rfl, HK.out⟩
end Go.Proofs.YtohbjbicmgnblaaDoor
