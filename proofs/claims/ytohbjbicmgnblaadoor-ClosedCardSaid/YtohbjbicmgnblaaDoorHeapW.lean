/- container/heap over store.ready: up, down, Push, Pop. -/
import Derived.Test.YtohbjbicmgnblaaDoorChecked
import Derived.Test.YtohbjbicmgnblaaDoorHeap
namespace Go.Proofs.YtohbjbicmgnblaaDoor
open Go Go.RowKit
set_option linter.unusedVariables false

/-- the heap as an interface -/
def hv (b : Nat) : Value := .iface 61 (.pointer (some ⟨b, 0, none⟩))
theorem HpAt.cell {w : World} {b : Nat} {v : Value} {l : List (List UInt8)} (h : HpAt w b v l) : w.cell? ⟨b, 0, none⟩ = some v := h.blk.cell 0
theorem HpAt.non {w w' : World} {b : Nat} {v : Value} {l : List (List UInt8)} (h : HpAt w b v l) (k : Keeps Non w w') : HpAt w' b v l :=
  ⟨h.blk.keeps k fun h => h, h.sl.keep fun _ _ _ _ hb => hb.keeps k fun h => h, h.fit⟩
theorem HpAt.swap {w w' : World} {b : Nat} {v : Value} {l m : List (List UInt8)} (h : HpAt w b v l) (hm : m.length = l.length) (hs : Sl w' 0 9 1 v l.length (svs m)) (k : Keeps (OwnOf v) w w') : HpAt w' b v m :=
  ⟨h.blk.keeps k fun e => h.ne e, by rw [hm]; exact hs, by rw [hm]; exact h.fit⟩
set_option maxHeartbeats 1600000 in
set_option maxRecDepth 100000 in
theorem hup_any {b j : Nat} {v : Value} {l : List (List UInt8)} (w : World) (h : HpAt w b v l) (hj : j < l.length) (hu : UpInv l l.length j) :
    Calls Tryd.prog 47 #[hv b, .int .i64 j] w fun e w' => e = .returned (.tuple #[]) ∧ (∃ l', HpAt w' b v l' ∧ l'.Perm l ∧ HeapN l' l'.length) ∧ Keeps (HpS b v) w w' := by
  have hfit := h.fit
  have H := Lib.hid h
  have HU := Lib.hid hu
  clear h hu
  unfold hv
  go_enter Tryd.func47, Tryd.ntmps47
  go_wp2_with fail
  go_loopg [1] (j + 1) (fun gk iv wr => ∃ (k : Nat) (m : List (List UInt8)), gk = k + 1 ∧ iv = .int .i64 k ∧ k < l.length ∧ Hid (HpAt wr b v m) ∧ Hid (m.Perm l) ∧ m.length = l.length ∧ Hid (UpInv m l.length k) ∧ Hid (Keeps (HpS b v) w wr))
  case atStart => exact ⟨j, l, rfl, rfl, hj, H, List.Perm.refl _, rfl, HU, Keeps.refl _ _⟩
  case round =>
    clear H HU hj
    obtain ⟨k, m, rfl, rfl, hk, HM, HP, hml, HI, HK⟩ := hrel
    rcases Nat.eq_zero_or_pos k with h0 | h0
    · subst h0
      go_wp2_with fail
      go_end0
      have hz := HI.out.zero
      rw [← hml] at hz
      exact ⟨rfl, ⟨m, HM.out, HP.out, hz⟩, HK.out⟩
    · obtain ⟨i, hi⟩ : ∃ i, i = (k - 1) / 2 := ⟨_, rfl⟩
      have e1 : ((k : Int) - 1) / 2 = (i : Int) := by omega
      have hik : i < k := by omega
      have hb : ((i : Int) == (k : Int)) = false := by rw [beq_eq_false_iff_ne]; omega
      have HI2 := Lib.hid hi
      clear hi
      have c0 := HM.out.cell
      have hms := fun N => meth_less N c0
      have HLESS := Lib.hid (hLess_any m v k i (by omega) (by omega) wr HM.out.sl.rd)
      go_wp2_with fail
      refine HLESS.out.mono ?_
      rintro ed w2 ⟨rfl, nz, hw2⟩
      have hkd : Keeps Non wr w2 := by rw [hw2]; exact (Keeps.refl _ _).drewN _
      have HM2 := Lib.hid (HM.out.non hkd)
      have HK2 : Hid (Keeps (HpS b v) w w2) := HK.out.trans hkd fun _ h => h.elim
      clear hw2 hkd hms HM HK c0
      cases hl : Op.bytesLess (gT m k) (gT m i) with
      | false =>
        have HL := Lib.hid hl
        clear hl
        go_wp2_with fail
        go_end0
        have hz := HI.out.done (by rw [← HI2.out]; exact HL.out)
        rw [← hml] at hz
        exact ⟨rfl, ⟨m, HM2.out, HP.out, hz⟩, HK2.out⟩
      | true =>
        have HL := Lib.hid hl
        clear hl
        have c0 := HM2.out.cell
        have hms := fun N => meth_swap N c0
        have HSW := Lib.hid (hSwap_any m v i k (by omega) (by omega) w2 HM2.out.sl)
        go_wp2_with fail
        refine HSW.out.mono ?_
        rintro ed w3 ⟨rfl, hs3, hk3, hz3⟩
        have HM3 : Hid (HpAt w3 b v (swapT m i k)) := HM2.out.swap (swapT_length _ _ _) hs3 hk3
        have HK3 : Hid (Keeps (HpS b v) w w3) := HK2.out.trans hk3 fun k hk => .inl (.inr hk)
        clear hs3 hk3 hz3 hms c0
        go_wp2_with fail
        go_roundg (i + 1)
        case measure => omega
        case rel =>
          have hst := HI.out
          rw [← hml] at hst
          have h2 := hst.step (by omega) h0 (by rw [← HI2.out]; exact HL.out)
          rw [← HI2.out, hml] at h2
          exact ⟨i, swapT m i k, rfl, rfl, by omega, HM3, (swapT_perm (by omega) (by omega)).trans HP.out, by rw [swapT_length]; exact hml, h2, HK3⟩
theorem swapT_drop {l : List (List UInt8)} {i j n : Nat} (hi : i < n) (hj : j < n) : (swapT l i j).drop n = l.drop n := by
  unfold swapT
  rw [List.drop_set_of_lt hj, List.drop_set_of_lt hi]
set_option maxHeartbeats 1600000 in
set_option maxRecDepth 100000 in
theorem hdown_any {b n : Nat} {v : Value} {l : List (List UInt8)} (w : World) (h : HpAt w b v l) (hn : n < l.length) (hd : DownInv l n 0) :
    Calls Tryd.prog 48 #[hv b, .int .i64 0, .int .i64 n] w fun e w' => (∃ g, e = .returned (.bool g)) ∧ (∃ l', HpAt w' b v l' ∧ l'.Perm l ∧ HeapN l' n ∧ l'.drop n = l.drop n) ∧ Keeps (HpS b v) w w' := by
  have hfit := h.fit
  have H := Lib.hid h
  have HU := Lib.hid hd
  clear h hd
  unfold hv
  go_enter Tryd.func48, Tryd.ntmps48
  go_wp2_with fail
  go_loopg [7] (n - 0) (fun gk iv wr => ∃ (k : Nat) (m : List (List UInt8)), gk = n - k ∧ iv = .int .i64 k ∧ k ≤ n ∧ Hid (HpAt wr b v m) ∧ Hid (m.Perm l) ∧ m.length = l.length ∧ Hid (DownInv m n k) ∧ Hid (m.drop n = l.drop n) ∧ Hid (Keeps (HpS b v) w wr))
  case atStart => exact ⟨0, l, rfl, rfl, by omega, H, List.Perm.refl _, rfl, HU, rfl, Keeps.refl _ _⟩
  case round =>
    clear H HU
    obtain ⟨k, m, rfl, rfl, hk, HM, HP, hml, HI, HD, HK⟩ := hrel
    by_cases hleaf : n ≤ 2 * k + 1
    · have q1 : decide ((n : Int) ≤ 2 * (k : Int) + 1) = true := by simp; omega
      have hz := HI.out.leaf hleaf
      have HZ := Lib.hid hz
      clear hz
      go_wp2_with fail
      go_ret
      exact ⟨⟨_, rfl⟩, ⟨m, HM.out, HP.out, HZ.out, HD.out⟩, HK.out⟩
    · obtain ⟨j1, hj1⟩ : ∃ j1, j1 = 2 * k + 1 := ⟨_, rfl⟩
      obtain ⟨j2, hj2⟩ : ∃ j2, j2 = 2 * k + 2 := ⟨_, rfl⟩
      have e1 : 2 * (k : Int) + 1 = (j1 : Int) := by omega
      have e2 : (j1 : Int) + 1 = (j2 : Int) := by omega
      have q1 : decide ((n : Int) ≤ (j1 : Int)) = false := by simp; omega
      have q2 : decide ((j1 : Int) < 0) = false := by simp
      have q3 : j1 < n := by omega
      have q4 : k < j1 := by omega
      have q5 : j1 < j2 := by omega
      have q6 : Hid (j1 = 2 * k + 1 ∧ j2 = 2 * k + 2) := ⟨hj1, hj2⟩
      have q7 : (j2 : Nat) ≤ n := by omega
      clear hj1 hj2
      go_upto_region 6 with (fail)
      go_cut [33] (fun c wx => ∃ g, c = .bool g ∧ Hid (LeastC m n k (if g = true then j2 else j1)) ∧ Hid (HpAt wx b v m) ∧ Hid (Keeps (HpS b v) w wx))
      case first =>
        by_cases hr : j2 < n
        · have q8 : decide ((j2 : Int) < (n : Int)) = true := by simp; omega
          have c0 := HM.out.cell
          have hms := fun N => meth_less N c0
          have HLESS := Lib.hid (hLess_any m v j2 j1 (by omega) (by omega) wr HM.out.sl.rd)
          go_wp2_with fail
          refine HLESS.out.mono ?_
          rintro ed w2 ⟨rfl, nz, hw2⟩
          have hkd : Keeps Non wr w2 := by rw [hw2]; exact (Keeps.refl _ _).drewN _
          have HM2 := Lib.hid (HM.out.non hkd)
          have HK2 : Hid (Keeps (HpS b v) w w2) := HK.out.trans hkd fun _ h => h.elim
          clear hw2 hkd hms HM HK c0
          go_wp2_with fail
          go_meet
          refine ⟨_, rfl, ?_, HM2, HK2⟩
          have h1 := q6.out.1
          have h2 := q6.out.2
          show LeastC _ _ _ _
          cases hl : Op.bytesLess (gT m j2) (gT m j1) with
          | true =>
            rw [if_pos rfl]
            rw [h1, h2] at hl
            rw [h2] at hr ⊢
            exact LeastC.right hr hl
          | false =>
            rw [if_neg (by simp)]
            rw [h1, h2] at hl
            rw [h2] at hr
            rw [h1]
            exact LeastC.left hr hl
        · have q8 : decide ((j2 : Int) < (n : Int)) = false := by simp; omega
          go_wp2_with fail
          go_meet
          refine ⟨false, rfl, ?_, HM, HK⟩
          have h1 := q6.out.1
          have h2 := q6.out.2
          show LeastC _ _ _ _
          rw [if_neg (by simp), h1]
          exact LeastC.one (by omega) (by omega)
      case rest =>
        obtain ⟨g, rfl, HC, HM2, HK2⟩ := hcut
        cases g with
        | true =>
          rw [if_pos rfl] at HC

          have c0 := HM2.out.cell
          have hms := fun N => meth_less N c0
          have HLESS := Lib.hid (hLess_any m v j2 k (by have := HC.out.2.1; omega) (by omega) wc HM2.out.sl.rd)
          go_wp2_with fail
          refine HLESS.out.mono ?_
          rintro ed w2 ⟨rfl, nz, hw2⟩
          have hkd : Keeps Non wc w2 := by rw [hw2]; exact (Keeps.refl _ _).drewN _
          have HM3 := Lib.hid (HM2.out.non hkd)
          have HK3 : Hid (Keeps (HpS b v) w w2) := HK2.out.trans hkd fun _ h => h.elim
          clear hw2 hkd hms HM2 HK2 c0
          cases hl : Op.bytesLess (gT m j2) (gT m k) with
          | false =>
            have HL := Lib.hid hl
            clear hl
            go_wp2_with fail
            go_ret
            exact ⟨⟨_, rfl⟩, ⟨m, HM3.out, HP.out, HI.out.done HC.out HL.out, HD.out⟩, HK3.out⟩
          | true =>
            have HL := Lib.hid hl
            clear hl
            have c0 := HM3.out.cell
            have hms := fun N => meth_swap N c0
            have HSW := Lib.hid (hSwap_any m v k j2 (by omega) (by have := HC.out.2.1; omega) w2 HM3.out.sl)
            go_wp2_with fail
            refine HSW.out.mono ?_
            rintro ed w3 ⟨rfl, hs3, hk3, hz3⟩
            have HM4 : Hid (HpAt w3 b v (swapT m k j2)) := HM3.out.swap (swapT_length _ _ _) hs3 hk3
            have HK4 : Hid (Keeps (HpS b v) w w3) := HK3.out.trans hk3 fun k hk => .inl (.inr hk)
            clear hs3 hk3 hz3 hms c0
            go_wp2_with fail
            go_roundg (n - j2)
            case measure => omega
            case rel =>
              have h2 := HI.out.step (by omega) HC.out HL.out
              have h3 := HC.out.2.1
              refine ⟨j2, swapT m k j2, rfl, by go_num, by omega, HM4, (swapT_perm (by omega) (by omega)).trans HP.out, by rw [swapT_length]; exact hml, h2, ?_, HK4⟩
              show _ = _
              rw [swapT_drop (by omega) (by omega)]
              exact HD.out
  
        | false =>
          rw [if_neg (by simp)] at HC

          have c0 := HM2.out.cell
          have hms := fun N => meth_less N c0
          have HLESS := Lib.hid (hLess_any m v j1 k (by have := HC.out.2.1; omega) (by omega) wc HM2.out.sl.rd)
          go_wp2_with fail
          refine HLESS.out.mono ?_
          rintro ed w2 ⟨rfl, nz, hw2⟩
          have hkd : Keeps Non wc w2 := by rw [hw2]; exact (Keeps.refl _ _).drewN _
          have HM3 := Lib.hid (HM2.out.non hkd)
          have HK3 : Hid (Keeps (HpS b v) w w2) := HK2.out.trans hkd fun _ h => h.elim
          clear hw2 hkd hms HM2 HK2 c0
          cases hl : Op.bytesLess (gT m j1) (gT m k) with
          | false =>
            have HL := Lib.hid hl
            clear hl
            go_wp2_with fail
            go_ret
            exact ⟨⟨_, rfl⟩, ⟨m, HM3.out, HP.out, HI.out.done HC.out HL.out, HD.out⟩, HK3.out⟩
          | true =>
            have HL := Lib.hid hl
            clear hl
            have c0 := HM3.out.cell
            have hms := fun N => meth_swap N c0
            have HSW := Lib.hid (hSwap_any m v k j1 (by omega) (by have := HC.out.2.1; omega) w2 HM3.out.sl)
            go_wp2_with fail
            refine HSW.out.mono ?_
            rintro ed w3 ⟨rfl, hs3, hk3, hz3⟩
            have HM4 : Hid (HpAt w3 b v (swapT m k j1)) := HM3.out.swap (swapT_length _ _ _) hs3 hk3
            have HK4 : Hid (Keeps (HpS b v) w w3) := HK3.out.trans hk3 fun k hk => .inl (.inr hk)
            clear hs3 hk3 hz3 hms c0
            go_wp2_with fail
            go_roundg (n - j1)
            case measure => omega
            case rel =>
              have h2 := HI.out.step (by omega) HC.out HL.out
              have h3 := HC.out.2.1
              refine ⟨j1, swapT m k j1, rfl, by go_num, by omega, HM4, (swapT_perm (by omega) (by omega)).trans HP.out, by rw [swapT_length]; exact hml, h2, ?_, HK4⟩
              show _ = _
              rw [swapT_drop (by omega) (by omega)]
              exact HD.out
  
end Go.Proofs.YtohbjbicmgnblaaDoor
