/- store.ready under container/heap: its methods. -/
import Derived.Test.YtdkogijdfgfpeaaGreatDoorVClosP
import Derived.Test.YtdkogijdfgfpeaaGreatDoorVMap
import Derived.Handy
import Derived.Test.YtdkogijdfgfpeaaGreatDoorVOwn
set_option linter.unusedVariables false
namespace Go.Proofs.YtdkogijdfgfpeaaGreatDoor
open Go Go.RowKit
abbrev TR : TypeId := 86
structure HpAt (w : World) (b : Nat) (v : Value) (l : List (List UInt8)) : Prop where
 blk : Blk w b #[v] TR
 sl : Sl w 0 9 1 v l.length (svs l)
 fit : l.length ≤ 1099511627776
def HpS (b : Nat) (v : Value) : Nat → Prop := fun k => k = b ∨ v.ownBlock = some k
def OwnTo (w : World) (v v' : Value) : Prop := v'.ownBlock = v.ownBlock ∨ ∃ k, v'.ownBlock = some k ∧ w.heap.size ≤ k
theorem Keeps.of_drew1 {S : Nat → Prop} {a w : World} (h : Keeps S a.drew w) : Keeps S a w := ⟨h.os, h.tape, h.output, h.size, h.block⟩
theorem Sl.neb {w : World} {b : Nat} {c0 : Array Value} {v : Value} {n : Nat} {xs : List Value} (h : Sl w 0 9 1 v n xs) (hb0 : Blk w b c0 TR) : v.ownBlock ≠ some b := by
 intro e
 obtain ⟨h1, ⟨rfl, h3⟩ | ⟨b', off, cap, c, rfl, hB, hb, h2⟩⟩ := h
 ·cases e
 ·cases e
  have := (hb0.inj hb).2
  revert this
  decide
theorem HpAt.ne {w : World} {b : Nat} {v : Value} {l : List (List UInt8)} (h : HpAt w b v l) : v.ownBlock ≠ some b := h.sl.neb h.blk
theorem push_done {w w1 : World} {b : Nat} {v : Value} {l : List (List UInt8)} {x : List UInt8} {ao : Option Addr} {cc : Nat} {o : Obj} (h : HpAt w b v l) (hl : l.length < 1099511627776)
 (hs : Sl w1 0 9 1 (.slice ao (l.length + 1) cc) (l.length + 1) (svs l ++ [.string ⟨x.toArray⟩])) (hb1 : (Value.slice ao (l.length + 1) cc).ownBlock = v.ownBlock ∨ (Value.slice ao (l.length + 1) cc).ownBlock = some (w.alloc o).drew.heap.size)
 (hk : Keeps (OwnOf v) (w.alloc o) w1) (hb : Blk w1 b #[v] TR) :
 (∃ v', HpAt (w1.setCell ⟨b, 0, none⟩ (.slice ao (l.length + 1) cc)) b v' (l ++ [x]) ∧ OwnTo w v v') ∧ Keeps (HpS b v) w (w1.setCell ⟨b, 0, none⟩ (.slice ao (l.length + 1) cc)) := by
 refine ⟨⟨.slice ao (l.length + 1) cc, ⟨hb.set 0 _, ?_, by simp; omega⟩, ?_⟩, ?_⟩
 ·have hne := hs.neb hb
  have h2 : Sl w1 0 9 1 (.slice ao (l.length + 1) cc) (l ++ [x]).length (svs (l ++ [x])) := by simpa [svs, sv] using hs
  exact h2.keep fun b' c hb' _ hblk => hblk.set_ne ⟨b, 0, none⟩ _ fun e => hne (by rw [hb', e])
 ·rcases hb1 with h1 | h1
  ·exact .inl h1
  ·exact .inr ⟨_, h1, by simp [World.drew]⟩
 ·refine Keeps.setCell ?_ _ _ (.inl (.inl rfl))
  exact (((Keeps.refl (HpS b v) w).alloc o).trans hk fun k hk => .inl (.inr hk))
set_option maxHeartbeats 800000 in
set_option maxRecDepth 100000 in
theorem hLen_any (l : List (List UInt8)) (v : Value) (w : World) (hv : Rd w 1 v l.length (svs l)) :
 Calls Tryz.prog 37 #[v] w fun e w' => e = .returned (.int .i64 l.length) ∧ w = w' := by
 obtain ⟨a0, c0, rfl, hc1, hc2⟩ := hv.shape
 clear hv
 go_enter Tryz.func37, Tryz.ntmps37
 go_wp2_with fail
 go_ret
 exact ⟨rfl, rfl⟩
set_option maxHeartbeats 800000 in
set_option maxRecDepth 100000 in
theorem hLess_any (l : List (List UInt8)) (v : Value) (i j : Nat) (hi : i < l.length) (hj : j < l.length) (w : World) (hv : Rd w 1 v l.length (svs l)) :
 Calls Tryz.prog 191 #[v, .int .i64 i, .int .i64 j] w fun e w' => e = .returned (.bool (Op.bytesLess (gT l i) (gT l j))) ∧ ∃ n, w' = w.drewN n := by
 obtain ⟨b, off, cp, rfl, -, h2, h3, hbl, hc, -⟩ := hv.pos (by omega)
 unfold maxLen at h3
 have d0 : w.cell? ⟨b, off + i, none⟩ = some (sv (gT l i)) := by rw [gT_at hi]; exact (hc i (by omega)).trans (svs_get l i hi)
 have d1 : w.cell? ⟨b, off + j, none⟩ = some (sv (gT l j)) := by rw [gT_at hj]; exact (hc j (by omega)).trans (svs_get l j hj)
 unfold sv at d0 d1
 clear hc hv
 generalize gT l i = x at *
 generalize gT l j = y at *
 have q1 : (0 : Int) ≤ (i : Int) := by omega
 have q2 : (i : Int) < (l.length : Int) := by omega
 have q3 : (0 : Int) ≤ (j : Int) := by omega
 have q4 : (j : Int) < (l.length : Int) := by omega
 go_enter Tryz.func191, Tryz.ntmps191
 go_upto_region 1 with (fail)
 go_quiet (fail)
 go_wp2_with fail
 go_ret
 exact ⟨rfl, _, rfl⟩
set_option maxHeartbeats 800000 in
set_option maxRecDepth 100000 in
theorem hSwap_any (l : List (List UInt8)) (v : Value) (i j : Nat) (hi : i < l.length) (hj : j < l.length) (w : World) (hv : Sl w 0 9 1 v l.length (svs l)) :
 Calls Tryz.prog 194 #[v, .int .i64 i, .int .i64 j] w fun e w' => e = .returned (.tuple #[]) ∧ Sl w' 0 9 1 v l.length (svs (swapT l i j)) ∧ Keeps (OwnOf v) w w' ∧ w'.heap.size = w.heap.size := by
 obtain ⟨b, off, cp, rfl, -, h2, h3, hbl, hc, hfz⟩ := hv.pos (by omega)
 unfold maxLen at h3
 have d0 : w.cell? ⟨b, off + i, none⟩ = some (sv (gT l i)) := by rw [gT_at hi]; exact (hc i (by omega)).trans (svs_get l i hi)
 have d1 : w.cell? ⟨b, off + j, none⟩ = some (sv (gT l j)) := by rw [gT_at hj]; exact (hc j (by omega)).trans (svs_get l j hj)
 have f0 := hfz (off + i)
 have f1 := hfz (off + j)
 unfold sv at d0 d1
 clear hc hfz
 have HV := Lib.hid hv
 have hv2 := hv.set i (by omega) (sv (gT l j))
 have hg := hv2.at j (by omega)
 obtain ⟨u, hu⟩ : ∃ u, ((svs l).set i (sv (gT l j)))[j]? = some u := ⟨_, List.getElem?_eq_getElem (by simp [svs]; exact hj)⟩
 have d2 : ((w.setCell ⟨b, off + i, none⟩ (sv (gT l j))).drew).cell? ⟨b, off + j, none⟩ = some u := hg.1.trans hu
 have d2' : (w.setCell ⟨b, off + i, none⟩ (sv (gT l j))).cell? ⟨b, off + j, none⟩ = some u := hg.1.trans hu
 have f2 : ((w.setCell ⟨b, off + i, none⟩ (sv (gT l j))).drew).frozen? ⟨b, off + j, none⟩ = false := hg.2
 have f2' : (w.setCell ⟨b, off + i, none⟩ (sv (gT l j))).frozen? ⟨b, off + j, none⟩ = false := hg.2
 have hv3 := hv2.set j (by omega) (sv (gT l i))
 have hsv : ((svs l).set i (sv (gT l j))).set j (sv (gT l i)) = svs (swapT l i j) := by simp [svs, swapT, List.map_set]
 rw [hsv] at hv3
 have hkk : Keeps (OwnOf (.slice (some ⟨b, off, none⟩) l.length cp)) w ((w.setCell ⟨b, off + i, none⟩ (sv (gT l j))).setCell ⟨b, off + j, none⟩ (sv (gT l i))) := ((Keeps.refl (OwnOf (.slice (some ⟨b, off, none⟩) l.length cp)) w).setCell ⟨b, off + i, none⟩ _ (.inl rfl)).setCell ⟨b, off + j, none⟩ _ (.inl rfl)
 have HV3 := Lib.hid hv3
 have HKK := Lib.hid hkk
 clear hv hv2 hv3 hsv hkk hu hg HV
 unfold sv at d2 d2' f2 f2' HV3 HKK
 have q1 : (0 : Int) ≤ (i : Int) := by omega
 have q2 : (i : Int) < (l.length : Int) := by omega
 have q3 : (0 : Int) ≤ (j : Int) := by omega
 have q4 : (j : Int) < (l.length : Int) := by omega
 generalize (gT l i) = X at *
 generalize (gT l j) = Y at *
 go_enter Tryz.func194, Tryz.ntmps194
 go_region
 go_wp2_with fail
 go_end0
 exact ⟨rfl, HV3.out, HKK.out.drew, by simp [World.setCell, World.drew]⟩
set_option maxHeartbeats 800000 in
set_option maxRecDepth 100000 in
theorem hPop_any {b : Nat} {v : Value} {l : List (List UInt8)} {x : List UInt8} (w : World) (h : HpAt w b v (l ++ [x])) :
 Calls Tryz.prog 192 #[pv b] w fun e w' => e = .returned (.iface 9 (sv x)) ∧ (∃ v', HpAt w' b v' l ∧ v'.ownBlock = v.ownBlock) ∧ Keeps (HpS b v) w w' := by
 have hlen : (l ++ [x]).length = l.length + 1 := by simp
 have hfit := h.fit
 rw [hlen] at hfit
 have hsl := h.sl
 rw [hlen] at hsl
 obtain ⟨bs, off, cp, rfl, -, h2, h3, hbl, hc, hfz⟩ := hsl.pos (by omega)
 unfold maxLen at h3
 have c0 := h.blk.cell 0
 have f0 := h.blk.free 0
 simp only [List.getElem?_toArray, List.getElem?_cons_zero] at c0
 have d0 : w.cell? ⟨bs, off + l.length, none⟩ = some (sv x) := (hc l.length (by omega)).trans (by simp [svs])
 have HSL := Lib.hid (hsl.take (m := l.length) (by omega))
 have hst : (svs (l ++ [x])).take (l.length * 1) = svs l := by simp [svs]
 have HNE : Hid (bs ≠ b) := fun e => h.ne (by rw [← e]; rfl)
 have HB := Lib.hid h.blk
 have HST := Lib.hid hst
 clear h hc hfz hsl hst
 unfold sv at d0 
 unfold pv sv
 have e1 : ((l.length + 1 : Nat) : Int) - 1 = (l.length : Int) := by omega
 go_enter Tryz.func192, Tryz.ntmps192
 go_wp2_with fail
 go_ret
 refine ⟨rfl, ⟨.slice (some ⟨bs, off, none⟩) l.length cp, ⟨?_, ?_, by omega⟩, rfl⟩, ?_⟩
 ·exact HB.out.set 0 _
 ·have := HSL.out
  rw [HST.out] at this
  exact this.keep fun b' c hb' _ hblk => by
   cases hb'
   exact hblk.set_ne ⟨b, 0, none⟩ _ HNE.out
 ·exact (Keeps.refl _ _).setCell _ _ (.inl (.inl rfl))
theorem meth_push (N : Nat) (b : Nat) (w : World) : Sem.run Tryz.prog (method (N + 1) 85 (.pointer (some ⟨b, 0, none⟩)) "Push") w = .ok (193, .pointer (some ⟨b, 0, none⟩)) w := by kernel_rfl
theorem meth_pop (N : Nat) (b : Nat) (w : World) : Sem.run Tryz.prog (method (N + 1) 85 (.pointer (some ⟨b, 0, none⟩)) "Pop") w = .ok (192, .pointer (some ⟨b, 0, none⟩)) w := by kernel_rfl
theorem meth_len0 (N : Nat) (b : Nat) (w : World) : Sem.run Tryz.prog (method (N + 1) 85 (.pointer (some ⟨b, 0, none⟩)) "Len") w = Sem.run Tryz.prog (loadVar 86 ⟨b, 0, none⟩ >>= fun v => Pure.pure (37, v)) w := by kernel_rfl
theorem meth_less0 (N : Nat) (b : Nat) (w : World) : Sem.run Tryz.prog (method (N + 1) 85 (.pointer (some ⟨b, 0, none⟩)) "Less") w = Sem.run Tryz.prog (loadVar 86 ⟨b, 0, none⟩ >>= fun v => Pure.pure (191, v)) w := by kernel_rfl
theorem meth_swap0 (N : Nat) (b : Nat) (w : World) : Sem.run Tryz.prog (method (N + 1) 85 (.pointer (some ⟨b, 0, none⟩)) "Swap") w = Sem.run Tryz.prog (loadVar 86 ⟨b, 0, none⟩ >>= fun v => Pure.pure (194, v)) w := by kernel_rfl
theorem run_loadRdy (b : Nat) (w : World) {v : Value} (h : w.cell? ⟨b, 0, none⟩ = some v) : Sem.run Tryz.prog (loadVar 86 ⟨b, 0, none⟩) w = .ok v w := by
 simp [loadVar, go_sem, h]
theorem meth_len (N : Nat) {b : Nat} {w : World} {v : Value} (h : w.cell? ⟨b, 0, none⟩ = some v) : Sem.run Tryz.prog (method (N + 1) 85 (.pointer (some ⟨b, 0, none⟩)) "Len") w = .ok (37, v) w := by
 rw [meth_len0 N, Sem.run_bind, run_loadRdy b w h]; rfl
theorem meth_less (N : Nat) {b : Nat} {w : World} {v : Value} (h : w.cell? ⟨b, 0, none⟩ = some v) : Sem.run Tryz.prog (method (N + 1) 85 (.pointer (some ⟨b, 0, none⟩)) "Less") w = .ok (191, v) w := by
 rw [meth_less0 N, Sem.run_bind, run_loadRdy b w h]; rfl
theorem meth_swap (N : Nat) {b : Nat} {w : World} {v : Value} (h : w.cell? ⟨b, 0, none⟩ = some v) : Sem.run Tryz.prog (method (N + 1) 85 (.pointer (some ⟨b, 0, none⟩)) "Swap") w = .ok (194, v) w := by
 rw [meth_swap0 N, Sem.run_bind, run_loadRdy b w h]; rfl
set_option maxHeartbeats 800000 in
set_option maxRecDepth 100000 in
theorem hPush_any {b : Nat} {v : Value} {l : List (List UInt8)} (x : List UInt8) (w : World) (h : HpAt w b v l) (hl : l.length < 1099511627776) :
 Calls Tryz.prog 193 #[pv b, .iface 9 (sv x)] w fun e w' => e = .returned (.tuple #[]) ∧ (∃ v', HpAt w' b v' (l ++ [x]) ∧ OwnTo w v v') ∧ Keeps (HpS b v) w w' := by
 obtain ⟨va, vc, rfl, hc1, hc2⟩ := h.sl.shape
 unfold maxLen at hc2
 have c0 := h.blk.cell 0
 have f0 := h.blk.free 0
 simp only [List.getElem?_toArray, List.getElem?_cons_zero] at c0
 have HH := Lib.hid h
 have hblt := h.blk.lt
 clear h
 obtain ⟨i0, hi, hi0, hi1, hi2⟩ := info_parts infoStr
 have hsl := HH.out.sl
 have hta : ∀ w, Sem.run Tryz.prog (Instr.typeAssert (.iface 9 (.string ⟨x.toArray⟩)) 20 9 false) w = .ok (.string ⟨x.toArray⟩) w := fun w => by kernel_rfl
 unfold pv sv
 go_enter Tryz.func193, Tryz.ntmps193
 go_upto_region 0 with (fail)
 go_region_law (refine step_append_own2 rfl _ _ 86 86 rfl 9 i0 _ 1 16 Tryz.underlying86 hi hi0 hi1 hi2 rfl 0 (.slice va l.length vc) _ _ rfl _ rfl 1 [.string ⟨x.toArray⟩] (by simp) (by first | exact hsl.alloc _ | exact hsl) (by first | exact Src.ofSl Tryz.underlying86 (Sl.of_new w 0 (Nat.zero_le _) 9 1 1 [.string ⟨x.toArray⟩] rfl (by simp [maxLen])) (by intro u hu; simp only [List.mem_cons, List.not_mem_nil, or_false] at hu; rcases hu with rfl; rfl)) (by unfold maxLen; omega) (by omega) ?_; intro ao cc w1 hs1 hk1 hkk1 hb1; have HK1 := Lib.hid (Keeps.of_drew1 hkk1); have HS1 := Lib.hid hs1; have HB1 := Lib.hid hb1; have B1 := Lib.hid ((HH.out.blk.alloc (.cells #[.string ⟨x.toArray⟩] 9)).keeps HK1.out (fun e => HH.out.ne e)); have c51 : w1.cell? ⟨b, 0, none⟩ = some (.slice va l.length vc) := B1.out.cell 0; have f51 := B1.out.free 0; clear hs1 hk1 hkk1 hb1)
 all_goals (
  go_wp2_with fail
  go_end0
  exact ⟨rfl, push_done HH.out hl HS1.out HB1.out HK1.out B1.out⟩)
def hv (b : Nat) : Value := .iface 85 (.pointer (some ⟨b, 0, none⟩))
theorem HpAt.cell {w : World} {b : Nat} {v : Value} {l : List (List UInt8)} (h : HpAt w b v l) : w.cell? ⟨b, 0, none⟩ = some v := h.blk.cell 0
theorem HpAt.non {w w' : World} {b : Nat} {v : Value} {l : List (List UInt8)} (h : HpAt w b v l) (k : Keeps Non w w') : HpAt w' b v l :=
 ⟨h.blk.keeps k fun h => h, h.sl.keep fun _ _ _ _ hb => hb.keeps k fun h => h, h.fit⟩
theorem HpAt.swap {w w' : World} {b : Nat} {v : Value} {l m : List (List UInt8)} (h : HpAt w b v l) (hm : m.length = l.length) (hs : Sl w' 0 9 1 v l.length (svs m)) (k : Keeps (OwnOf v) w w') : HpAt w' b v m :=
 ⟨h.blk.keeps k fun e => h.ne e, by rw [hm]; exact hs, by rw [hm]; exact h.fit⟩
set_option maxHeartbeats 1600000 in
set_option maxRecDepth 100000 in
theorem hup_any {b j : Nat} {v : Value} {l : List (List UInt8)} (w : World) (h : HpAt w b v l) (hj : j < l.length) (hu : UpInv l l.length j) :
 Calls Tryz.prog 72 #[hv b, .int .i64 j] w fun e w' => e = .returned (.tuple #[]) ∧ (∃ l', HpAt w' b v l' ∧ l'.Perm l ∧ HeapN l' l'.length) ∧ Keeps (HpS b v) w w' := by
 have hfit := h.fit
 have H := Lib.hid h
 have HU := Lib.hid hu
 clear h hu
 unfold hv
 go_enter Tryz.func72, Tryz.ntmps72
 go_wp2_with fail
 go_loopg [1] (j + 1) (fun gk iv wr => ∃ (k : Nat) (m : List (List UInt8)), gk = k + 1 ∧ iv = .int .i64 k ∧ k < l.length ∧ Hid (HpAt wr b v m) ∧ Hid (m.Perm l) ∧ m.length = l.length ∧ Hid (UpInv m l.length k) ∧ Hid (Keeps (HpS b v) w wr))
 case atStart => exact ⟨j, l, rfl, rfl, hj, H, List.Perm.refl _, rfl, HU, Keeps.refl _ _⟩
 case round =>
  clear H HU hj
  obtain ⟨k, m, rfl, rfl, hk, HM, HP, hml, HI, HK⟩ := hrel
  rcases Nat.eq_zero_or_pos k with h0 | h0
  ·subst h0
   go_wp2_with fail
   go_end0
   have hz := HI.out.zero
   rw [← hml] at hz
   exact ⟨rfl, ⟨m, HM.out, HP.out, hz⟩, HK.out⟩
  ·obtain ⟨i, hi⟩ : ∃ i, i = (k - 1) / 2 := ⟨_, rfl⟩
   have e1 : ((k : Int) - 1) / 2 = (i : Int) := by omega
   have hik : i < k := by omega
   have hb : ((i : Int) == (k : Int)) = false := by rw [beq_eq_false_iff_ne]; omega
   have HI2 := Lib.hid hi
   clear hi
   have c0 := HM.out.cell
   have hms := fun N => meth_less N c0
   have HLESS := Lib.hid (hLess_any m v k i (by omega) (by omega) wr HM.out.sl.rd)
   go_wp2_with fail
   refine HLESS.out.mono ?_
   rintro ed w2 ⟨rfl, nz, hw2⟩
   have hkd : Keeps Non wr w2 := by rw [hw2]; exact (Keeps.refl _ _).drewN _
   have HM2 := Lib.hid (HM.out.non hkd)
   have HK2 : Hid (Keeps (HpS b v) w w2) := HK.out.trans hkd fun _ h => h.elim
   clear hw2 hkd hms HM HK c0
   cases hl : Op.bytesLess (gT m k) (gT m i) with
   | false =>
     have HL := Lib.hid hl
     clear hl
     go_wp2_with fail
     go_end0
     have hz := HI.out.done (by rw [← HI2.out]; exact HL.out)
     rw [← hml] at hz
     exact ⟨rfl, ⟨m, HM2.out, HP.out, hz⟩, HK2.out⟩
   | true =>
     have HL := Lib.hid hl
     clear hl
     have c0 := HM2.out.cell
     have hms := fun N => meth_swap N c0
     have HSW := Lib.hid (hSwap_any m v i k (by omega) (by omega) w2 HM2.out.sl)
     go_wp2_with fail
     refine HSW.out.mono ?_
     rintro ed w3 ⟨rfl, hs3, hk3, hz3⟩
     have HM3 : Hid (HpAt w3 b v (swapT m i k)) := HM2.out.swap (swapT_length _ _ _) hs3 hk3
     have HK3 : Hid (Keeps (HpS b v) w w3) := HK2.out.trans hk3 fun k hk => .inl (.inr hk)
     clear hs3 hk3 hz3 hms c0
     go_wp2_with fail
     go_roundg (i + 1)
     case measure => omega
     case rel =>
      have hst := HI.out
      rw [← hml] at hst
      have h2 := hst.step (by omega) h0 (by rw [← HI2.out]; exact HL.out)
      rw [← HI2.out, hml] at h2
      exact ⟨i, swapT m i k, rfl, rfl, by omega, HM3, (swapT_perm (by omega) (by omega)).trans HP.out, by rw [swapT_length]; exact hml, h2, HK3⟩
theorem swapT_drop {l : List (List UInt8)} {i j n : Nat} (hi : i < n) (hj : j < n) : (swapT l i j).drop n = l.drop n := by
 unfold swapT
 rw [List.drop_set_of_lt hj, List.drop_set_of_lt hi]
set_option maxHeartbeats 1600000 in
set_option maxRecDepth 100000 in
theorem hdown_any {b n : Nat} {v : Value} {l : List (List UInt8)} (w : World) (h : HpAt w b v l) (hn : n < l.length) (hd : DownInv l n 0) :
 Calls Tryz.prog 73 #[hv b, .int .i64 0, .int .i64 n] w fun e w' => (∃ g, e = .returned (.bool g)) ∧ (∃ l', HpAt w' b v l' ∧ l'.Perm l ∧ HeapN l' n ∧ l'.drop n = l.drop n) ∧ Keeps (HpS b v) w w' := by
 have hfit := h.fit
 have H := Lib.hid h
 have HU := Lib.hid hd
 clear h hd
 unfold hv
 go_enter Tryz.func73, Tryz.ntmps73
 go_wp2_with fail
 go_loopg [7] (n - 0) (fun gk iv wr => ∃ (k : Nat) (m : List (List UInt8)), gk = n - k ∧ iv = .int .i64 k ∧ k ≤ n ∧ Hid (HpAt wr b v m) ∧ Hid (m.Perm l) ∧ m.length = l.length ∧ Hid (DownInv m n k) ∧ Hid (m.drop n = l.drop n) ∧ Hid (Keeps (HpS b v) w wr))
 case atStart => exact ⟨0, l, rfl, rfl, by omega, H, List.Perm.refl _, rfl, HU, rfl, Keeps.refl _ _⟩
 case round =>
  clear H HU
  obtain ⟨k, m, rfl, rfl, hk, HM, HP, hml, HI, HD, HK⟩ := hrel
  by_cases hleaf : n ≤ 2 * k + 1
  ·have q1 : decide ((n : Int) ≤ 2 * (k : Int) + 1) = true := by simp; omega
   have hz := HI.out.leaf hleaf
   have HZ := Lib.hid hz
   clear hz
   go_wp2_with fail
   go_ret
   exact ⟨⟨_, rfl⟩, ⟨m, HM.out, HP.out, HZ.out, HD.out⟩, HK.out⟩
  ·obtain ⟨j1, hj1⟩ : ∃ j1, j1 = 2 * k + 1 := ⟨_, rfl⟩
   obtain ⟨j2, hj2⟩ : ∃ j2, j2 = 2 * k + 2 := ⟨_, rfl⟩
   have e1 : 2 * (k : Int) + 1 = (j1 : Int) := by omega
   have e2 : (j1 : Int) + 1 = (j2 : Int) := by omega
   have q1 : decide ((n : Int) ≤ (j1 : Int)) = false := by simp; omega
   have q2 : decide ((j1 : Int) < 0) = false := by simp
   have q3 : j1 < n := by omega
   have q4 : k < j1 := by omega
   have q5 : j1 < j2 := by omega
   have q6 : Hid (j1 = 2 * k + 1 ∧ j2 = 2 * k + 2) := ⟨hj1, hj2⟩
   have q7 : (j2 : Nat) ≤ n := by omega
   clear hj1 hj2
   go_upto_region 6 with (fail)
   go_cut [33] (fun c wx => ∃ g, c = .bool g ∧ Hid (LeastC m n k (if g = true then j2 else j1)) ∧ Hid (HpAt wx b v m) ∧ Hid (Keeps (HpS b v) w wx))
   case first =>
    by_cases hr : j2 < n
    ·have q8 : decide ((j2 : Int) < (n : Int)) = true := by simp; omega
     have c0 := HM.out.cell
     have hms := fun N => meth_less N c0
     have HLESS := Lib.hid (hLess_any m v j2 j1 (by omega) (by omega) wr HM.out.sl.rd)
     go_wp2_with fail
     refine HLESS.out.mono ?_
     rintro ed w2 ⟨rfl, nz, hw2⟩
     have hkd : Keeps Non wr w2 := by rw [hw2]; exact (Keeps.refl _ _).drewN _
     have HM2 := Lib.hid (HM.out.non hkd)
     have HK2 : Hid (Keeps (HpS b v) w w2) := HK.out.trans hkd fun _ h => h.elim
     clear hw2 hkd hms HM HK c0
     go_wp2_with fail
     go_meet
     refine ⟨_, rfl, ?_, HM2, HK2⟩
     have h1 := q6.out.1
     have h2 := q6.out.2
     show LeastC _ _ _ _
     cases hl : Op.bytesLess (gT m j2) (gT m j1) with
     | true =>
       rw [if_pos rfl]
       rw [h1, h2] at hl
       rw [h2] at hr ⊢
       exact LeastC.right hr hl
     | false =>
       rw [if_neg (by simp)]
       rw [h1, h2] at hl
       rw [h2] at hr
       rw [h1]
       exact LeastC.left hr hl
    ·have q8 : decide ((j2 : Int) < (n : Int)) = false := by simp; omega
     go_wp2_with fail
     go_meet
     refine ⟨false, rfl, ?_, HM, HK⟩
     have h1 := q6.out.1
     have h2 := q6.out.2
     show LeastC _ _ _ _
     rw [if_neg (by simp), h1]
     exact LeastC.one (by omega) (by omega)
   case rest =>
    obtain ⟨g, rfl, HC, HM2, HK2⟩ := hcut
    cases g with
    | true =>
      rw [if_pos rfl] at HC
      have c0 := HM2.out.cell
      have hms := fun N => meth_less N c0
      have HLESS := Lib.hid (hLess_any m v j2 k (by have := HC.out.2.1; omega) (by omega) wc HM2.out.sl.rd)
      go_wp2_with fail
      refine HLESS.out.mono ?_
      rintro ed w2 ⟨rfl, nz, hw2⟩
      have hkd : Keeps Non wc w2 := by rw [hw2]; exact (Keeps.refl _ _).drewN _
      have HM3 := Lib.hid (HM2.out.non hkd)
      have HK3 : Hid (Keeps (HpS b v) w w2) := HK2.out.trans hkd fun _ h => h.elim
      clear hw2 hkd hms HM2 HK2 c0
      cases hl : Op.bytesLess (gT m j2) (gT m k) with
      | false =>
        have HL := Lib.hid hl
        clear hl
        go_wp2_with fail
        go_ret
        exact ⟨⟨_, rfl⟩, ⟨m, HM3.out, HP.out, HI.out.done HC.out HL.out, HD.out⟩, HK3.out⟩
      | true =>
        have HL := Lib.hid hl
        clear hl
        have c0 := HM3.out.cell
        have hms := fun N => meth_swap N c0
        have HSW := Lib.hid (hSwap_any m v k j2 (by omega) (by have := HC.out.2.1; omega) w2 HM3.out.sl)
        go_wp2_with fail
        refine HSW.out.mono ?_
        rintro ed w3 ⟨rfl, hs3, hk3, hz3⟩
        have HM4 : Hid (HpAt w3 b v (swapT m k j2)) := HM3.out.swap (swapT_length _ _ _) hs3 hk3
        have HK4 : Hid (Keeps (HpS b v) w w3) := HK3.out.trans hk3 fun k hk => .inl (.inr hk)
        clear hs3 hk3 hz3 hms c0
        go_wp2_with fail
        go_roundg (n - j2)
        case measure => omega
        case rel =>
         have h2 := HI.out.step (by omega) HC.out HL.out
         have h3 := HC.out.2.1
         refine ⟨j2, swapT m k j2, rfl, by go_num, by omega, HM4, (swapT_perm (by omega) (by omega)).trans HP.out, by rw [swapT_length]; exact hml, h2, ?_, HK4⟩
         show _ = _
         rw [swapT_drop (by omega) (by omega)]
         exact HD.out
    | false =>
      rw [if_neg (by simp)] at HC
      have c0 := HM2.out.cell
      have hms := fun N => meth_less N c0
      have HLESS := Lib.hid (hLess_any m v j1 k (by have := HC.out.2.1; omega) (by omega) wc HM2.out.sl.rd)
      go_wp2_with fail
      refine HLESS.out.mono ?_
      rintro ed w2 ⟨rfl, nz, hw2⟩
      have hkd : Keeps Non wc w2 := by rw [hw2]; exact (Keeps.refl _ _).drewN _
      have HM3 := Lib.hid (HM2.out.non hkd)
      have HK3 : Hid (Keeps (HpS b v) w w2) := HK2.out.trans hkd fun _ h => h.elim
      clear hw2 hkd hms HM2 HK2 c0
      cases hl : Op.bytesLess (gT m j1) (gT m k) with
      | false =>
        have HL := Lib.hid hl
        clear hl
        go_wp2_with fail
        go_ret
        exact ⟨⟨_, rfl⟩, ⟨m, HM3.out, HP.out, HI.out.done HC.out HL.out, HD.out⟩, HK3.out⟩
      | true =>
        have HL := Lib.hid hl
        clear hl
        have c0 := HM3.out.cell
        have hms := fun N => meth_swap N c0
        have HSW := Lib.hid (hSwap_any m v k j1 (by omega) (by have := HC.out.2.1; omega) w2 HM3.out.sl)
        go_wp2_with fail
        refine HSW.out.mono ?_
        rintro ed w3 ⟨rfl, hs3, hk3, hz3⟩
        have HM4 : Hid (HpAt w3 b v (swapT m k j1)) := HM3.out.swap (swapT_length _ _ _) hs3 hk3
        have HK4 : Hid (Keeps (HpS b v) w w3) := HK3.out.trans hk3 fun k hk => .inl (.inr hk)
        clear hs3 hk3 hz3 hms c0
        go_wp2_with fail
        go_roundg (n - j1)
        case measure => omega
        case rel =>
         have h2 := HI.out.step (by omega) HC.out HL.out
         have h3 := HC.out.2.1
         refine ⟨j1, swapT m k j1, rfl, by go_num, by omega, HM4, (swapT_perm (by omega) (by omega)).trans HP.out, by rw [swapT_length]; exact hml, h2, ?_, HK4⟩
         show _ = _
         rw [swapT_drop (by omega) (by omega)]
         exact HD.out
set_option maxHeartbeats 1600000 in
set_option maxRecDepth 100000 in
theorem heapPush_any {b : Nat} {v : Value} {l : List (List UInt8)} (x : List UInt8) (w : World) (h : HpAt w b v l) (hl : l.length < 1099511627776) (hh : HeapN l l.length) :
 Calls Tryz.prog 36 #[hv b, .iface 9 (sv x)] w fun e w' => e = .returned (.tuple #[]) ∧ (∃ v' l', HpAt w' b v' l' ∧ l'.Perm (l ++ [x]) ∧ HeapN l' l'.length ∧ OwnTo w v v') ∧ Keeps (HpS b v) w w' := by
 have HPU := Lib.hid (hPush_any x w h hl)
 have HH := Lib.hid hh
 have hms := fun N => meth_push N b w
 clear h hh
 unfold hv
 unfold pv sv at HPU
 unfold sv
 go_enter Tryz.func36, Tryz.ntmps36
 go_wp2_with fail
 refine HPU.out.mono ?_
 rintro e w1 ⟨rfl, ⟨v1, h1, ho1⟩, hk1⟩
 have H1 := Lib.hid h1
 have HO1 := Lib.hid ho1
 have HK1 := Lib.hid hk1
 have hln : (l ++ [x]).length = l.length + 1 := by simp
 have c0 := h1.cell
 have hms2 := fun N => meth_len N c0
 have hsl := h1.sl.rd
 have HLN := Lib.hid (hLen_any (l ++ [x]) v1 w1 hsl)
 have HU := Lib.hid (UpInv.snoc HH.out x)
 clear h1 ho1 hk1 hms hsl
 go_wp2_with fail
 refine HLN.out.mono ?_
 rintro e w2 ⟨rfl, rfl⟩
 have e1 : (((l ++ [x]).length : Nat) : Int) - 1 = (l.length : Int) := by rw [hln]; omega
 have HUP := Lib.hid (hup_any w1 H1.out (by rw [hln]; omega) HU.out)
 clear hln hms2 c0
 unfold hv at HUP
 go_wp2_with fail
 refine HUP.out.mono ?_
 rintro e w3 ⟨rfl, ⟨l', h2, hp2, hh2⟩, hk2⟩
 have H2 : Hid (HpAt w3 b v1 l' ∧ l'.Perm (l ++ [x]) ∧ HeapN l' l'.length) := ⟨h2, hp2, hh2⟩
 have HK2 := Lib.hid hk2
 clear h2 hp2 hh2 hk2
 go_wp2_with fail
 go_end0
 refine ⟨rfl, ⟨v1, l', H2.out.1, H2.out.2.1, H2.out.2.2, HO1.out⟩, HK1.out.trans HK2.out fun k hk => ?_⟩
 rcases hk with rfl | hk
 ·exact .inl (.inl rfl)
 ·rcases HO1.out with h | ⟨q, h, hq⟩
  ·rw [h] at hk
   exact .inl (.inr hk)
  ·rw [h] at hk
   cases hk
   exact .inr hq
set_option maxHeartbeats 1600000 in
set_option maxRecDepth 100000 in
theorem heapPop_any {b : Nat} {v : Value} {l : List (List UInt8)} (w : World) (h : HpAt w b v l) (hl : 0 < l.length) (hh : HeapN l l.length) :
 Calls Tryz.prog 38 #[hv b] w fun e w' => (∃ x v' l', e = .returned (.iface 9 (sv x)) ∧ HpAt w' b v' l' ∧ (l' ++ [x]).Perm l ∧ HeapN l' l'.length ∧ (∀ y ∈ l, leT x y) ∧ v'.ownBlock = v.ownBlock) ∧ Keeps (HpS b v) w w' := by
 obtain ⟨n, hn⟩ : ∃ n, l.length = n + 1 := ⟨l.length - 1, by omega⟩
 have H := Lib.hid h
 have HH := Lib.hid hh
 have c0 := h.cell
 have hms := fun N => meth_len N c0
 have HLN := Lib.hid (hLen_any l v w h.sl.rd)
 have hfit := h.fit
 clear h hh
 unfold hv
 go_enter Tryz.func38, Tryz.ntmps38
 go_wp2_with fail
 refine HLN.out.mono ?_
 rintro e w2 ⟨rfl, rfl⟩
 have e1 : ((l.length : Nat) : Int) - 1 = (n : Int) := by omega
 have hms2 := fun N => meth_swap N c0
 have HSW := Lib.hid (hSwap_any l v 0 n (by omega) (by omega) w H.out.sl)
 clear hms
 go_wp2_with fail
 refine HSW.out.mono ?_
 rintro e w3 ⟨rfl, hs3, hk3, hz3⟩
 have HM3 : Hid (HpAt w3 b v (swapT l 0 n)) := H.out.swap (swapT_length _ _ _) hs3 hk3
 have HK3 : Hid (Keeps (HpS b v) w w3) := hk3.mono fun k _ hk => .inr hk
 have HDI := Lib.hid (DownInv.start HH.out hn)
 have HDN := Lib.hid (hdown_any w3 HM3.out (by rw [swapT_length]; omega) HDI.out)
 unfold hv at HDN
 clear hs3 hk3 hz3 hms2 c0 HSW
 go_wp2_with fail
 refine HDN.out.mono ?_
 rintro e w4 ⟨⟨g, rfl⟩, ⟨m, h4, hp4, hh4, hd4⟩, hk4⟩
 have hml : m.length = n + 1 := by rw [hp4.length_eq, swapT_length, hn]
 have hmx : m = m.take n ++ [gT l 0] := by
  have h1 : m.drop n = [gT l 0] := by
   rw [hd4, List.drop_eq_getElem_cons (by rw [swapT_length]; omega), List.drop_eq_nil_of_le (by rw [swapT_length]; omega), ← gT_at (by rw [swapT_length]; omega), gT_swap (by omega) (by omega), if_pos rfl]
  rw [← h1, List.take_append_drop]
 obtain ⟨t, ht⟩ : ∃ t, t = m.take n := ⟨_, rfl⟩
 have HT : Hid (HeapN t t.length) := by rw [ht]; exact hh4.take (by omega)
 rw [← ht] at hmx
 have HP4 : Hid ((t ++ [gT l 0]).Perm l) := by
  rw [← hmx]
  exact hp4.trans (swapT_perm (by omega) (by omega))
 rw [hmx] at h4
 have HLE : Hid (∀ y ∈ l, leT (gT l 0) y) := fun y hy => by
  obtain ⟨k, hk, rfl⟩ := List.getElem_of_mem hy
  rw [← gT_at hk]
  exact HH.out.least k hk
 have HK4 : Hid (Keeps (HpS b v) w w4) := HK3.out.trans hk4 fun k hk => .inl hk
 have HPO := Lib.hid (hPop_any w4 h4)
 have hms := fun N => meth_pop N b w4
 unfold pv at HPO
 clear hk4 h4 hp4 hh4 hd4 hmx ht hml HDN HDI HM3 HK3 HLN HH H
 generalize gT l 0 = x at *
 go_wp2_with fail
 refine HPO.out.mono ?_
 rintro e w5 ⟨rfl, ⟨v', h5, hv5⟩, hk5⟩
 have H5 : Hid (HpAt w5 b v' t ∧ v'.ownBlock = v.ownBlock) := ⟨h5, hv5⟩
 have HK5 : Hid (Keeps (HpS b v) w w5) := HK4.out.trans hk5 fun k hk => .inl hk
 clear h5 hv5 hk5 hms
 go_wp2_with fail
 go_ret
 exact ⟨⟨x, v', t, rfl, H5.out.1, HP4.out, HT.out, HLE.out, H5.out.2⟩, HK5.out⟩
end Go.Proofs.YtdkogijdfgfpeaaGreatDoor
