/- store.ready under container/heap: its methods. -/
import Derived.Test.YtohbjbicmgnblaaDoorChecked
import Derived.Test.YtohbjbicmgnblaaDoorHeapP
import Derived.Test.YtohbjbicmgnblaaDoorSMem
import Derived.Handy
import Derived.Test.YtohbjbicmgnblaaDoorOwn
namespace Go.Proofs.YtohbjbicmgnblaaDoor
open Go Go.RowKit
set_option linter.unusedVariables false

abbrev TR : TypeId := 62
/-- block b holds a slice of texts: the list l -/
structure HpAt (w : World) (b : Nat) (v : Value) (l : List (List UInt8)) : Prop where
  blk : Blk w b #[v] TR
  sl : Sl w 0 9 1 v l.length (svs l)
  fit : l.length ≤ 1099511627776
/-- the blocks that turn -/
def HpS (b : Nat) (v : Value) : Nat → Prop := fun k => k = b ∨ v.ownBlock = some k
/-- what comes of a slice's own block -/
def OwnTo (w : World) (v v' : Value) : Prop := v'.ownBlock = v.ownBlock ∨ ∃ k, v'.ownBlock = some k ∧ w.heap.size ≤ k
theorem Keeps.of_drew1 {S : Nat → Prop} {a w : World} (h : Keeps S a.drew w) : Keeps S a w := ⟨h.os, h.tape, h.output, h.size, h.block⟩
theorem Sl.neb {w : World} {b : Nat} {c0 : Array Value} {v : Value} {n : Nat} {xs : List Value} (h : Sl w 0 9 1 v n xs) (hb0 : Blk w b c0 TR) : v.ownBlock ≠ some b := by
  intro e
  obtain ⟨h1, ⟨rfl, h3⟩ | ⟨b', off, cap, c, rfl, hB, hb, h2⟩⟩ := h
  · cases e
  · cases e
    have := (hb0.inj hb).2
    revert this
    decide
theorem HpAt.ne {w : World} {b : Nat} {v : Value} {l : List (List UInt8)} (h : HpAt w b v l) : v.ownBlock ≠ some b := h.sl.neb h.blk
theorem push_done {w w1 : World} {b : Nat} {v : Value} {l : List (List UInt8)} {x : List UInt8} {ao : Option Addr} {cc : Nat} {o : Obj} (h : HpAt w b v l) (hl : l.length < 1099511627776)
    (hs : Sl w1 0 9 1 (.slice ao (l.length + 1) cc) (l.length + 1) (svs l ++ [.string ⟨x.toArray⟩])) (hb1 : (Value.slice ao (l.length + 1) cc).ownBlock = v.ownBlock ∨ (Value.slice ao (l.length + 1) cc).ownBlock = some (w.alloc o).drew.heap.size)
    (hk : Keeps (OwnOf v) (w.alloc o) w1) (hb : Blk w1 b #[v] TR) :
    (∃ v', HpAt (w1.setCell ⟨b, 0, none⟩ (.slice ao (l.length + 1) cc)) b v' (l ++ [x]) ∧ OwnTo w v v') ∧ Keeps (HpS b v) w (w1.setCell ⟨b, 0, none⟩ (.slice ao (l.length + 1) cc)) := by
  refine ⟨⟨.slice ao (l.length + 1) cc, ⟨hb.set 0 _, ?_, by simp; omega⟩, ?_⟩, ?_⟩
  · have hne := hs.neb hb
    have h2 : Sl w1 0 9 1 (.slice ao (l.length + 1) cc) (l ++ [x]).length (svs (l ++ [x])) := by simpa [svs, sv] using hs
    exact h2.keep fun b' c hb' _ hblk => hblk.set_ne ⟨b, 0, none⟩ _ fun e => hne (by rw [hb', e])
  · rcases hb1 with h1 | h1
    · exact .inl h1
    · exact .inr ⟨_, h1, by simp [World.drew]⟩
  · refine Keeps.setCell ?_ _ _ (.inl (.inl rfl))
    exact (((Keeps.refl (HpS b v) w).alloc o).trans hk fun k hk => .inl (.inr hk))
theorem infoRdy : Tryd.prog.underlying 62 = some (.slice 9) := Tryd.underlying62
set_option maxHeartbeats 800000 in
set_option maxRecDepth 100000 in
theorem hLen_any (l : List (List UInt8)) (v : Value) (w : World) (hv : Rd w 1 v l.length (svs l)) :
    Calls Tryd.prog 24 #[v] w fun e w' => e = .returned (.int .i64 l.length) ∧ w = w' := by
  obtain ⟨a0, c0, rfl, hc1, hc2⟩ := hv.shape
  clear hv
  go_enter Tryd.func24, Tryd.ntmps24
  go_wp2_with fail
  go_ret
  exact ⟨rfl, rfl⟩
set_option maxHeartbeats 800000 in
set_option maxRecDepth 100000 in
theorem hLess_any (l : List (List UInt8)) (v : Value) (i j : Nat) (hi : i < l.length) (hj : j < l.length) (w : World) (hv : Rd w 1 v l.length (svs l)) :
    Calls Tryd.prog 86 #[v, .int .i64 i, .int .i64 j] w fun e w' => e = .returned (.bool (Op.bytesLess (gT l i) (gT l j))) ∧ ∃ n, w' = w.drewN n := by
  obtain ⟨b, off, cp, rfl, -, h2, h3, hbl, hc, -⟩ := hv.pos (by omega)
  unfold maxLen at h3
  have d0 : w.cell? ⟨b, off + i, none⟩ = some (sv (gT l i)) := by rw [gT_at hi]; exact (hc i (by omega)).trans (svs_get l i hi)
  have d1 : w.cell? ⟨b, off + j, none⟩ = some (sv (gT l j)) := by rw [gT_at hj]; exact (hc j (by omega)).trans (svs_get l j hj)
  unfold sv at d0 d1
  clear hc hv
  generalize gT l i = x at *
  generalize gT l j = y at *
  have q1 : (0 : Int) ≤ (i : Int) := by omega
  have q2 : (i : Int) < (l.length : Int) := by omega
  have q3 : (0 : Int) ≤ (j : Int) := by omega
  have q4 : (j : Int) < (l.length : Int) := by omega
  go_enter Tryd.func86, Tryd.ntmps86
  go_upto_region 1 with (fail)
  go_quiet (fail)
  go_wp2_with fail
  go_ret
  exact ⟨rfl, _, rfl⟩
set_option maxHeartbeats 800000 in
set_option maxRecDepth 100000 in
theorem hSwap_any (l : List (List UInt8)) (v : Value) (i j : Nat) (hi : i < l.length) (hj : j < l.length) (w : World) (hv : Sl w 0 9 1 v l.length (svs l)) :
    Calls Tryd.prog 89 #[v, .int .i64 i, .int .i64 j] w fun e w' => e = .returned (.tuple #[]) ∧ Sl w' 0 9 1 v l.length (svs (swapT l i j)) ∧ Keeps (OwnOf v) w w' ∧ w'.heap.size = w.heap.size := by
  obtain ⟨b, off, cp, rfl, -, h2, h3, hbl, hc, hfz⟩ := hv.pos (by omega)
  unfold maxLen at h3
  have d0 : w.cell? ⟨b, off + i, none⟩ = some (sv (gT l i)) := by rw [gT_at hi]; exact (hc i (by omega)).trans (svs_get l i hi)
  have d1 : w.cell? ⟨b, off + j, none⟩ = some (sv (gT l j)) := by rw [gT_at hj]; exact (hc j (by omega)).trans (svs_get l j hj)
  have f0 := hfz (off + i)
  have f1 := hfz (off + j)
  unfold sv at d0 d1
  clear hc hfz
  have HV := Lib.hid hv
  have hv2 := hv.set i (by omega) (sv (gT l j))
  have hg := hv2.at j (by omega)
  obtain ⟨u, hu⟩ : ∃ u, ((svs l).set i (sv (gT l j)))[j]? = some u := ⟨_, List.getElem?_eq_getElem (by simp [svs]; exact hj)⟩
  have d2 : ((w.setCell ⟨b, off + i, none⟩ (sv (gT l j))).drew).cell? ⟨b, off + j, none⟩ = some u := hg.1.trans hu
  have d2' : (w.setCell ⟨b, off + i, none⟩ (sv (gT l j))).cell? ⟨b, off + j, none⟩ = some u := hg.1.trans hu
  have f2 : ((w.setCell ⟨b, off + i, none⟩ (sv (gT l j))).drew).frozen? ⟨b, off + j, none⟩ = false := hg.2
  have f2' : (w.setCell ⟨b, off + i, none⟩ (sv (gT l j))).frozen? ⟨b, off + j, none⟩ = false := hg.2
  have hv3 := hv2.set j (by omega) (sv (gT l i))
  have hsv : ((svs l).set i (sv (gT l j))).set j (sv (gT l i)) = svs (swapT l i j) := by simp [svs, swapT, List.map_set]
  rw [hsv] at hv3
  have hkk : Keeps (OwnOf (.slice (some ⟨b, off, none⟩) l.length cp)) w ((w.setCell ⟨b, off + i, none⟩ (sv (gT l j))).setCell ⟨b, off + j, none⟩ (sv (gT l i))) := ((Keeps.refl (OwnOf (.slice (some ⟨b, off, none⟩) l.length cp)) w).setCell ⟨b, off + i, none⟩ _ (.inl rfl)).setCell ⟨b, off + j, none⟩ _ (.inl rfl)
  have HV3 := Lib.hid hv3
  have HKK := Lib.hid hkk
  clear hv hv2 hv3 hsv hkk hu hg HV
  unfold sv at d2 d2' f2 f2' HV3 HKK
  have q1 : (0 : Int) ≤ (i : Int) := by omega
  have q2 : (i : Int) < (l.length : Int) := by omega
  have q3 : (0 : Int) ≤ (j : Int) := by omega
  have q4 : (j : Int) < (l.length : Int) := by omega
  generalize (gT l i) = X at *
  generalize (gT l j) = Y at *
  go_enter Tryd.func89, Tryd.ntmps89
  go_region
  go_wp2_with fail
  go_end0
  exact ⟨rfl, HV3.out, HKK.out.drew, by simp [World.setCell, World.drew]⟩
set_option maxHeartbeats 800000 in
set_option maxRecDepth 100000 in
theorem hPop_any {b : Nat} {v : Value} {l : List (List UInt8)} {x : List UInt8} (w : World) (h : HpAt w b v (l ++ [x])) :
    Calls Tryd.prog 87 #[pv b] w fun e w' => e = .returned (.iface 9 (sv x)) ∧ (∃ v', HpAt w' b v' l ∧ v'.ownBlock = v.ownBlock) ∧ Keeps (HpS b v) w w' := by
  have hlen : (l ++ [x]).length = l.length + 1 := by simp
  have hfit := h.fit
  rw [hlen] at hfit
  have hsl := h.sl
  rw [hlen] at hsl
  obtain ⟨bs, off, cp, rfl, -, h2, h3, hbl, hc, hfz⟩ := hsl.pos (by omega)
  unfold maxLen at h3
  have c0 := h.blk.cell 0
  have f0 := h.blk.free 0
  simp only [List.getElem?_toArray, List.getElem?_cons_zero] at c0
  have d0 : w.cell? ⟨bs, off + l.length, none⟩ = some (sv x) := (hc l.length (by omega)).trans (by simp [svs])
  have HSL := Lib.hid (hsl.take (m := l.length) (by omega))
  have hst : (svs (l ++ [x])).take (l.length * 1) = svs l := by simp [svs]
  have HNE : Hid (bs ≠ b) := fun e => h.ne (by rw [← e]; rfl)
  have HB := Lib.hid h.blk
  have HST := Lib.hid hst
  clear h hc hfz hsl hst
  unfold sv at d0 
  unfold pv sv
  have e1 : ((l.length + 1 : Nat) : Int) - 1 = (l.length : Int) := by omega
  go_enter Tryd.func87, Tryd.ntmps87
  go_wp2_with fail
  go_ret
  refine ⟨rfl, ⟨.slice (some ⟨bs, off, none⟩) l.length cp, ⟨?_, ?_, by omega⟩, rfl⟩, ?_⟩
  · exact HB.out.set 0 _
  · have := HSL.out
    rw [HST.out] at this
    exact this.keep fun b' c hb' _ hblk => by
      cases hb'
      exact hblk.set_ne ⟨b, 0, none⟩ _ HNE.out
  · exact (Keeps.refl _ _).setCell _ _ (.inl (.inl rfl))
theorem meth_push (N : Nat) (b : Nat) (w : World) : Sem.run Tryd.prog (method (N + 1) 61 (.pointer (some ⟨b, 0, none⟩)) "Push") w = .ok (88, .pointer (some ⟨b, 0, none⟩)) w := by kernel_rfl
theorem meth_pop (N : Nat) (b : Nat) (w : World) : Sem.run Tryd.prog (method (N + 1) 61 (.pointer (some ⟨b, 0, none⟩)) "Pop") w = .ok (87, .pointer (some ⟨b, 0, none⟩)) w := by kernel_rfl
theorem meth_len0 (N : Nat) (b : Nat) (w : World) : Sem.run Tryd.prog (method (N + 1) 61 (.pointer (some ⟨b, 0, none⟩)) "Len") w = Sem.run Tryd.prog (loadVar 62 ⟨b, 0, none⟩ >>= fun v => Pure.pure (24, v)) w := by kernel_rfl
theorem meth_less0 (N : Nat) (b : Nat) (w : World) : Sem.run Tryd.prog (method (N + 1) 61 (.pointer (some ⟨b, 0, none⟩)) "Less") w = Sem.run Tryd.prog (loadVar 62 ⟨b, 0, none⟩ >>= fun v => Pure.pure (86, v)) w := by kernel_rfl
theorem meth_swap0 (N : Nat) (b : Nat) (w : World) : Sem.run Tryd.prog (method (N + 1) 61 (.pointer (some ⟨b, 0, none⟩)) "Swap") w = Sem.run Tryd.prog (loadVar 62 ⟨b, 0, none⟩ >>= fun v => Pure.pure (89, v)) w := by kernel_rfl
theorem run_loadRdy (b : Nat) (w : World) {v : Value} (h : w.cell? ⟨b, 0, none⟩ = some v) : Sem.run Tryd.prog (loadVar 62 ⟨b, 0, none⟩) w = .ok v w := by
  simp [loadVar, go_sem, h]
theorem meth_len (N : Nat) {b : Nat} {w : World} {v : Value} (h : w.cell? ⟨b, 0, none⟩ = some v) : Sem.run Tryd.prog (method (N + 1) 61 (.pointer (some ⟨b, 0, none⟩)) "Len") w = .ok (24, v) w := by
  rw [meth_len0 N, Sem.run_bind, run_loadRdy b w h]; rfl
theorem meth_less (N : Nat) {b : Nat} {w : World} {v : Value} (h : w.cell? ⟨b, 0, none⟩ = some v) : Sem.run Tryd.prog (method (N + 1) 61 (.pointer (some ⟨b, 0, none⟩)) "Less") w = .ok (86, v) w := by
  rw [meth_less0 N, Sem.run_bind, run_loadRdy b w h]; rfl
theorem meth_swap (N : Nat) {b : Nat} {w : World} {v : Value} (h : w.cell? ⟨b, 0, none⟩ = some v) : Sem.run Tryd.prog (method (N + 1) 61 (.pointer (some ⟨b, 0, none⟩)) "Swap") w = .ok (89, v) w := by
  rw [meth_swap0 N, Sem.run_bind, run_loadRdy b w h]; rfl
set_option maxHeartbeats 800000 in
set_option maxRecDepth 100000 in
theorem hPush_any {b : Nat} {v : Value} {l : List (List UInt8)} (x : List UInt8) (w : World) (h : HpAt w b v l) (hl : l.length < 1099511627776) :
    Calls Tryd.prog 88 #[pv b, .iface 9 (sv x)] w fun e w' => e = .returned (.tuple #[]) ∧ (∃ v', HpAt w' b v' (l ++ [x]) ∧ OwnTo w v v') ∧ Keeps (HpS b v) w w' := by
  obtain ⟨va, vc, rfl, hc1, hc2⟩ := h.sl.shape
  unfold maxLen at hc2
  have c0 := h.blk.cell 0
  have f0 := h.blk.free 0
  simp only [List.getElem?_toArray, List.getElem?_cons_zero] at c0
  have HH := Lib.hid h
  have hblt := h.blk.lt
  clear h
  obtain ⟨i0, hi, hi0, hi1, hi2⟩ := info_parts infoStr
  have hsl := HH.out.sl
  have hta : ∀ w, Sem.run Tryd.prog (Instr.typeAssert (.iface 9 (.string ⟨x.toArray⟩)) 20 9 false) w = .ok (.string ⟨x.toArray⟩) w := fun w => by kernel_rfl
  unfold pv sv
  go_enter Tryd.func88, Tryd.ntmps88
  go_upto_region 0 with (fail)
  go_region_law (refine step_append_own2 rfl _ _ 62 62 rfl 9 i0 _ 1 16 Tryd.underlying62 hi hi0 hi1 hi2 rfl 0 (.slice va l.length vc) _ _ rfl _ rfl 1 [.string ⟨x.toArray⟩] (by simp) (by first | exact hsl.alloc _ | exact hsl) (by first | exact Src.ofSl Tryd.underlying62 (Sl.of_new w 0 (Nat.zero_le _) 9 1 1 [.string ⟨x.toArray⟩] rfl (by simp [maxLen])) (by intro u hu; simp only [List.mem_cons, List.not_mem_nil, or_false] at hu; rcases hu with rfl; rfl)) (by unfold maxLen; omega) (by omega) ?_; intro ao cc w1 hs1 hk1 hkk1 hb1; have HK1 := Lib.hid (Keeps.of_drew1 hkk1); have HS1 := Lib.hid hs1; have HB1 := Lib.hid hb1; have B1 := Lib.hid ((HH.out.blk.alloc (.cells #[.string ⟨x.toArray⟩] 9)).keeps HK1.out (fun e => HH.out.ne e)); have c51 : w1.cell? ⟨b, 0, none⟩ = some (.slice va l.length vc) := B1.out.cell 0; have f51 := B1.out.free 0; clear hs1 hk1 hkk1 hb1)
  all_goals (
    go_wp2_with fail
    go_end0
    exact ⟨rfl, push_done HH.out hl HS1.out HB1.out HK1.out B1.out⟩)
end Go.Proofs.YtohbjbicmgnblaaDoor
