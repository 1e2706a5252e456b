/- container/heap over store.ready: Push and Pop. -/
import Derived.Test.YtohbjbicmgnblaaDoorChecked
import Derived.Test.YtohbjbicmgnblaaDoorHeapW
namespace Go.Proofs.YtohbjbicmgnblaaDoor
open Go Go.RowKit
set_option linter.unusedVariables false

set_option maxHeartbeats 1600000 in
set_option maxRecDepth 100000 in
theorem heapPush_any {b : Nat} {v : Value} {l : List (List UInt8)} (x : List UInt8) (w : World) (h : HpAt w b v l) (hl : l.length < 1099511627776) (hh : HeapN l l.length) :
    Calls Tryd.prog 23 #[hv b, .iface 9 (sv x)] w fun e w' => e = .returned (.tuple #[]) ∧ (∃ v' l', HpAt w' b v' l' ∧ l'.Perm (l ++ [x]) ∧ HeapN l' l'.length ∧ OwnTo w v v') ∧ Keeps (HpS b v) w w' := by
  have HPU := Lib.hid (hPush_any x w h hl)
  have HH := Lib.hid hh
  have hms := fun N => meth_push N b w
  clear h hh
  unfold hv
  unfold pv sv at HPU
  unfold sv
  go_enter Tryd.func23, Tryd.ntmps23
  go_wp2_with fail
  refine HPU.out.mono ?_
  rintro e w1 ⟨rfl, ⟨v1, h1, ho1⟩, hk1⟩
  have H1 := Lib.hid h1
  have HO1 := Lib.hid ho1
  have HK1 := Lib.hid hk1
  have hln : (l ++ [x]).length = l.length + 1 := by simp
  have c0 := h1.cell
  have hms2 := fun N => meth_len N c0
  have hsl := h1.sl.rd
  have HLN := Lib.hid (hLen_any (l ++ [x]) v1 w1 hsl)
  have HU := Lib.hid (UpInv.snoc HH.out x)
  clear h1 ho1 hk1 hms hsl
  go_wp2_with fail
  refine HLN.out.mono ?_
  rintro e w2 ⟨rfl, rfl⟩
  have e1 : (((l ++ [x]).length : Nat) : Int) - 1 = (l.length : Int) := by rw [hln]; omega
  have HUP := Lib.hid (hup_any w1 H1.out (by rw [hln]; omega) HU.out)
  clear hln hms2 c0
  unfold hv at HUP
  go_wp2_with fail
  refine HUP.out.mono ?_
  rintro e w3 ⟨rfl, ⟨l', h2, hp2, hh2⟩, hk2⟩
  have H2 : Hid (HpAt w3 b v1 l' ∧ l'.Perm (l ++ [x]) ∧ HeapN l' l'.length) := ⟨h2, hp2, hh2⟩
  have HK2 := Lib.hid hk2
  clear h2 hp2 hh2 hk2
  go_wp2_with fail
  go_end0
  refine ⟨rfl, ⟨v1, l', H2.out.1, H2.out.2.1, H2.out.2.2, HO1.out⟩, HK1.out.trans HK2.out fun k hk => ?_⟩
  rcases hk with rfl | hk
  · exact .inl (.inl rfl)
  · rcases HO1.out with h | ⟨q, h, hq⟩
    · rw [h] at hk
      exact .inl (.inr hk)
    · rw [h] at hk
      cases hk
      exact .inr hq
set_option maxHeartbeats 1600000 in
set_option maxRecDepth 100000 in
theorem heapPop_any {b : Nat} {v : Value} {l : List (List UInt8)} (w : World) (h : HpAt w b v l) (hl : 0 < l.length) (hh : HeapN l l.length) :
    Calls Tryd.prog 25 #[hv b] w fun e w' => (∃ x v' l', e = .returned (.iface 9 (sv x)) ∧ HpAt w' b v' l' ∧ (l' ++ [x]).Perm l ∧ HeapN l' l'.length ∧ (∀ y ∈ l, leT x y) ∧ v'.ownBlock = v.ownBlock) ∧ Keeps (HpS b v) w w' := by
  obtain ⟨n, hn⟩ : ∃ n, l.length = n + 1 := ⟨l.length - 1, by omega⟩
  have H := Lib.hid h
  have HH := Lib.hid hh
  have c0 := h.cell
  have hms := fun N => meth_len N c0
  have HLN := Lib.hid (hLen_any l v w h.sl.rd)
  have hfit := h.fit
  clear h hh
  unfold hv
  go_enter Tryd.func25, Tryd.ntmps25
  go_wp2_with fail
  refine HLN.out.mono ?_
  rintro e w2 ⟨rfl, rfl⟩
  have e1 : ((l.length : Nat) : Int) - 1 = (n : Int) := by omega
  have hms2 := fun N => meth_swap N c0
  have HSW := Lib.hid (hSwap_any l v 0 n (by omega) (by omega) w H.out.sl)
  clear hms
  go_wp2_with fail
  refine HSW.out.mono ?_
  rintro e w3 ⟨rfl, hs3, hk3, hz3⟩
  have HM3 : Hid (HpAt w3 b v (swapT l 0 n)) := H.out.swap (swapT_length _ _ _) hs3 hk3
  have HK3 : Hid (Keeps (HpS b v) w w3) := hk3.mono fun k _ hk => .inr hk
  have HDI := Lib.hid (DownInv.start HH.out hn)
  have HDN := Lib.hid (hdown_any w3 HM3.out (by rw [swapT_length]; omega) HDI.out)
  unfold hv at HDN
  clear hs3 hk3 hz3 hms2 c0 HSW
  go_wp2_with fail
  refine HDN.out.mono ?_
  rintro e w4 ⟨⟨g, rfl⟩, ⟨m, h4, hp4, hh4, hd4⟩, hk4⟩
  have hml : m.length = n + 1 := by rw [hp4.length_eq, swapT_length, hn]
  have hmx : m = m.take n ++ [gT l 0] := by
    have h1 : m.drop n = [gT l 0] := by
      rw [hd4, List.drop_eq_getElem_cons (by rw [swapT_length]; omega), List.drop_eq_nil_of_le (by rw [swapT_length]; omega), ← gT_at (by rw [swapT_length]; omega), gT_swap (by omega) (by omega), if_pos rfl]
    rw [← h1, List.take_append_drop]
  obtain ⟨t, ht⟩ : ∃ t, t = m.take n := ⟨_, rfl⟩
  have HT : Hid (HeapN t t.length) := by rw [ht]; exact hh4.take (by omega)
  rw [← ht] at hmx
  have HP4 : Hid ((t ++ [gT l 0]).Perm l) := by
    rw [← hmx]
    exact hp4.trans (swapT_perm (by omega) (by omega))
  rw [hmx] at h4
  have HLE : Hid (∀ y ∈ l, leT (gT l 0) y) := fun y hy => by
    obtain ⟨k, hk, rfl⟩ := List.getElem_of_mem hy
    rw [← gT_at hk]
    exact HH.out.least k hk
  have HK4 : Hid (Keeps (HpS b v) w w4) := HK3.out.trans hk4 fun k hk => .inl hk
  have HPO := Lib.hid (hPop_any w4 h4)
  have hms := fun N => meth_pop N b w4
  unfold pv at HPO
  clear hk4 h4 hp4 hh4 hd4 hmx ht hml HDN HDI HM3 HK3 HLN HH H
  generalize gT l 0 = x at *
  go_wp2_with fail
  refine HPO.out.mono ?_
  rintro e w5 ⟨rfl, ⟨v', h5, hv5⟩, hk5⟩
  have H5 : Hid (HpAt w5 b v' t ∧ v'.ownBlock = v.ownBlock) := ⟨h5, hv5⟩
  have HK5 : Hid (Keeps (HpS b v) w w5) := HK4.out.trans hk5 fun k hk => .inl hk
  clear h5 hv5 hk5 hms
  go_wp2_with fail
  go_ret
  exact ⟨⟨x, v', t, rfl, H5.out.1, HP4.out, HT.out, HLE.out, H5.out.2⟩, HK5.out⟩
end Go.Proofs.YtohbjbicmgnblaaDoor
