/- narkeep.pick, at; nar.NewStore. -/
import Derived.Test.YtohbjbicmgnblaaDoorChecked
import Derived.Test.YtohbjbicmgnblaaDoorGrow
import Derived.Test.YtohbjbicmgnblaaDoorSMem
namespace Go.Proofs.YtohbjbicmgnblaaDoor
open Go Go.RowKit
set_option linter.unusedVariables false

def pickN (c n : Int) : Int := (if c < 0 then -(c + 1) else c) % n
set_option maxRecDepth 100000 in
theorem pick_any (c n : Int) (w : World) (hc1 : -9223372036854775808 ≤ c) (hc2 : c ≤ 9223372036854775807) (hn : 0 < n) (hn2 : n ≤ 1000000) :
    Calls Tryd.prog 11 #[.int .i64 c, .int .i64 n] w fun e w' => e = .returned (.int .i64 (pickN c n)) ∧ w = w' := by
  by_cases h : c < 0
  · have HP : Hid (pickN c n = (-(c + 1)) % n) := by show _ = _; rw [pickN, if_pos h]
    have hz : ¬ n = 0 := by omega
    go_enter Tryd.func11, Tryd.ntmps11
    go_wp2_with fail
    go_ret
    exact ⟨int_ret (by rw [HP.out, ← Int.neg_tmod, Int.tmod_eq_emod_of_nonneg (by omega)]), rfl⟩
  · have HP : Hid (pickN c n = c % n) := by show _ = _; rw [pickN, if_neg h]
    have h0 : 0 ≤ c := by omega
    have hz : ¬ n = 0 := by omega
    go_enter Tryd.func11, Tryd.ntmps11
    go_wp2_with fail
    go_ret
    exact ⟨int_ret HP.out.symm, rfl⟩
theorem pick_range (c n : Int) (hn : 0 < n) : ∃ k : Nat, pickN c n = k ∧ (k : Int) < n := by
  unfold pickN
  refine ⟨((if c < 0 then -(c + 1) else c) % n).toNat, ?_, ?_⟩
  · rw [Int.toNat_of_nonneg (Int.emod_nonneg _ (by omega))]
  · rw [Int.toNat_of_nonneg (Int.emod_nonneg _ (by omega))]
    exact Int.emod_lt_of_pos _ hn
theorem Grown.len {l : List Node} (h : Grown l) : 0 < l.length ∧ l.length ≤ 30 := by
  refine ⟨List.length_pos_iff.2 h.ne, ?_⟩
  have hw := h.good
  unfold wrongL at hw
  rw [if_neg h.ne] at hw
  have := wrong_len l 0 [] hw (by omega)
  omega
theorem sum_le (l : List Node) (c : Nat) (h : ∀ x ∈ l, x.path.length + x.data.length ≤ c) : (l.map fun x => x.path.length + x.data.length).sum ≤ c * l.length := by
  induction l with
  | nil => simp
  | cons x r ih =>
    have h1 := h x (by simp)
    have h2 := ih fun y hy => h y (by simp [hy])
    simp only [List.map_cons, List.sum_cons, List.length_cons, Nat.mul_add]
    omega
theorem Grown.small {l : List Node} (h : Grown l) : NodesSmall l ∧ (packP l).length ≤ 100000 := by
  refine ⟨fun n hn => by have := h.short n hn; omega, ?_⟩
  have h1 := packP_len l
  have h2 := sum_le l 136 fun x hx => by have := h.short x hx; omega
  have h3 := h.len
  omega
set_option maxHeartbeats 800000 in
set_option maxRecDepth 100000 in
theorem at_any (l : List (List UInt8)) (v : Value) (s : ByteArray) (w : World) (hv : Rd w 1 v l.length (svs l)) :
    Calls Tryd.prog 13 #[v, .string s] w fun e w' => e = .returned (.int .i64 (idxL l s.data.toList)) ∧ w = w' := by
  obtain ⟨a0, c0, rfl, hc1, hc2⟩ := hv.shape
  unfold maxLen at hc2
  have HV := Lib.hid hv
  clear hv
  go_enter Tryd.func13, Tryd.ntmps13
  go_wp2_with fail
  go_loopg [9] l.length (fun gk iv wr => ∃ k : Nat, gk = l.length - k ∧ k ≤ l.length ∧ iv = .int .i64 k ∧ w = wr ∧ Hid (idxL l s.data.toList = idxN l s.data.toList (l.length - k)))
  case atStart => exact ⟨0, rfl, Nat.zero_le _, rfl, rfl, rfl⟩
  case round =>
    obtain ⟨k, rfl, hk, rfl, rfl, HA⟩ := hrel
    by_cases hlt : k < l.length
    · obtain ⟨b', o', c', hsh, -, -, -, hltb, hcc, -⟩ := HV.out.pos (by omega)
      cases hsh
      have d0 : w.cell? ⟨b', o' + k, none⟩ = some (sv l[k]) := (hcc k (by omega)).trans (svs_get l k hlt)
      unfold sv at d0
      have hatk : idxN l s.data.toList (l.length - k) = if l[k] = s.data.toList then (k : Int) else idxN l s.data.toList (l.length - (k + 1)) := by
        rw [show l.length - k = (l.length - (k + 1)) + 1 by omega, idxN, show l.length - (l.length - (k + 1) + 1) = k by omega, List.getElem?_eq_getElem hlt]
        simp
      have HATK := Lib.hid hatk
      clear hcc hatk
      generalize l[k] = x at *
      by_cases he : x = s.data.toList
      · have hb : (x == s.toList) = true := by rw [ByteArray.toList_eq, he]; exact beq_self_eq_true _
        have HE := Lib.hid he
        clear he
        go_wp2_with fail
        go_ret
        refine ⟨?_, rfl⟩
        rw [HA.out, HATK.out, if_pos HE.out]; rfl
      · have hb : (x == s.toList) = false := by
          rw [beq_eq_false_iff_ne, ByteArray.toList_eq]; exact he
        have HE : Hid (¬ x = s.data.toList) := he
        clear he
        go_wp2_with fail
        go_roundg (l.length - (k + 1))
        case measure => omega
        case rel => exact ⟨k + 1, rfl, by omega, by go_num, rfl, by show _ = _; rw [HA.out, HATK.out, if_neg HE.out]⟩
    · have hk2 : k = l.length := by omega
      subst hk2
      go_wp2_with fail
      go_ret
      refine ⟨?_, rfl⟩
      rw [HA.out, Nat.sub_self]; rfl
set_option maxHeartbeats 800000 in
set_option maxRecDepth 100000 in
theorem newStore_any (w : World) (hT : tabTop ≤ w.heap.size) :
    Calls Tryd.prog 19 #[] w fun e w' => ∃ x s F, e = .returned (pv x) ∧ w.heap.size ≤ x ∧ Blk w' x #[pv s] 40 ∧ StoreAt w' F s [] ∧ (∀ k, F k → w.heap.size ≤ k) ∧ ¬ F x ∧ Keeps Non w w' := by
  go_enter Tryd.func19, Tryd.ntmps19
  go_wp2_with fail
  refine (new_any w hT).mono ?_
  rintro e w1 ⟨s, rfl, hs, h1, hk1⟩
  have H1 := Lib.hid h1
  have HK1 := Lib.hid hk1
  clear h1 hk1
  unfold pv
  go_wp2_with fail
  go_ret
  refine ⟨w1.heap.size, s, _, rfl, HK1.out.size, Blk.new _ _ _, H1.out.non ((Keeps.refl _ _).alloc _), fun k hk => hk.1, fun h => by have := h.2; omega, HK1.out.alloc _⟩
end Go.Proofs.YtohbjbicmgnblaaDoor
