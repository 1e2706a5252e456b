/- (*Store).Closure. -/
import Derived.Test.YtdkogijdfgfpeaaGreatDoorVClosP
import Derived.Test.YtdkogijdfgfpeaaGreatDoorVReachW
import Derived.Test.YtdkogijdfgfpeaaGreatDoorVHeap
import Derived.WalkMore
import Derived.Laws.EntriesVeiled
set_option linter.unusedVariables false
namespace Go.Proofs.YtdkogijdfgfpeaaGreatDoor
open Go Go.RowKit
structure RootsSt (L : Ents) (roots : List (List UInt8)) (N : MapL) (k : Nat) : Prop where
 ents : ∀ j, InM N j → ∃ e ∈ L, e.path = j ∧ getM N j = some (ivn (cntE e)) ∧ ∀ r ∈ e.refs, InM N r
 done : ∀ r ∈ roots.take k, InM N r
 least : ∀ X, ShutX L X → (∀ r ∈ roots.take k, X r) → ∀ j, InM N j → X j
theorem RootsSt.start (L : Ents) (roots : List (List UInt8)) : RootsSt L roots [] 0 := by
 refine ⟨fun j hj => ?_, by simp, fun X _ _ j hj => ?_⟩ <;> obtain ⟨v, h⟩ := hj <;> cases h
theorem RootsSt.step {L : Ents} {roots : List (List UInt8)} {N N' : MapL} {k : Nat} {r : List UInt8} (h : RootsSt L roots N k) (hr : roots[k]? = some r) (hg : Grew L r N N') : RootsSt L roots N' (k + 1) := by
 have ht : roots.take (k + 1) = roots.take k ++ [r] := by rw [List.take_add_one, hr]; rfl
 have hin : ∀ j, InM N j → InM N' j := fun j ⟨v, hv⟩ => ⟨v, hg.old j v hv⟩
 refine ⟨fun j hj => ?_, fun q hq => ?_, fun X hs hX j hj => ?_⟩
 ·by_cases hj0 : InM N j
  ·obtain ⟨e, he, hep, hv, hre⟩ := h.ents j hj0
   exact ⟨e, he, hep, hg.old j _ hv, fun r hr => hin r (hre r hr)⟩
  ·exact hg.new j hj0 hj
 ·rw [ht] at hq
  rcases List.mem_append.1 hq with hq | hq
  ·exact hin q (h.done q hq)
  ·rw [List.mem_singleton.1 hq]
   exact hg.it
 ·rw [ht] at hX
  rcases hg.least X hs (hX r (by simp)) j hj with h1 | h1
  ·exact h.least X hs (fun q hq => hX q (List.mem_append.2 (.inl hq))) j h1
  ·exact h1
structure ReachOf (L : Ents) (roots K : List (List UInt8)) : Prop where
 keys : KeysOk L K
 has : ∀ r ∈ roots, r ∈ K
 least : ∀ X, ShutX L X → (∀ r ∈ roots, X r) → ∀ k ∈ K, X k
 once : K.Nodup
theorem RootsSt.reach {L : Ents} {roots : List (List UInt8)} {N : MapL} {k : Nat} (h : RootsSt L roots N k) (hk : k = roots.length) (hn : (N.map Prod.fst).Nodup) : ReachOf L roots (N.map Prod.fst) := by
 subst hk
 have h1 := h.done
 have h2 := h.least
 rw [List.take_length] at h1 h2
 refine ⟨fun j hj => ?_, fun r hr => inM_keys.1 (h1 r hr), fun X hs hX j hj => h2 X hs hX j (inM_keys.2 hj), hn⟩
 obtain ⟨e, he, hep, -, hr⟩ := h.ents j (inM_keys.2 hj)
 exact ⟨e, he, hep, fun r hr2 => inM_keys.1 (hr r hr2)⟩
theorem RootsSt.map {L : Ents} {roots : List (List UInt8)} {N : MapL} {k : Nat} (h : RootsSt L roots N k) (hok : StoreOk L) : MapTo L N (N.map Prod.fst) (cntO []) := by
 refine ⟨rfl, fun e he hk => ?_⟩
 obtain ⟨e', he', hep, hv, -⟩ := h.ents _ (inM_keys.2 hk)
 have := hok.uniq he' he hep
 subst this
 rw [hv, cntO_nil]
theorem HpAt.keepc {S : Nat → Prop} {w w' : World} {b : Nat} {v : Value} {l : List (List UInt8)} (h : HpAt w b v l) (k : Keeps S w w') (hs : ∀ j c T fr, w.heap[j]? = some (.cells c T fr) → ¬ S j) : HpAt w' b v l :=
 ⟨h.blk.keeps k (hs b _ _ _ h.blk), h.sl.keep fun b' c _ _ hb => hb.keeps k (hs b' _ _ _ hb), h.fit⟩
theorem HpAt.cells {w : World} {b : Nat} {v : Value} {l : List (List UInt8)} (h : HpAt w b v l) {k : Nat} (hk : HpS b v k) : ∃ c T fr, w.heap[k]? = some (.cells c T fr) := by
 rcases hk with rfl | hk
 ·exact ⟨_, _, _, h.blk⟩
 ·obtain ⟨h1, ⟨e, h3⟩ | ⟨b', off, cap, c, e, hB, hb, h2⟩⟩ := h.sl
  ·rw [e] at hk; cases hk
  ·rw [e] at hk
   cases hk
   exact ⟨_, _, _, hb⟩
theorem MapIt.notcells {w : World} {r b : Nat} {m : MapL} {todo : List (List UInt8)} (h : MapIt w r b m todo) {k : Nat} {c : Array Value} {T : TypeId} {fr : Nat × Nat} (hk : w.heap[k]? = some (.cells c T fr)) : k ≠ r := by
 obtain ⟨es, clock, since, seen, c0, hb, hm, hr, -⟩ := h
 intro e
 rw [e, hr] at hk
 cases hk
theorem MapIt.heap {w w' : World} {r b hb : Nat} {m : MapL} {todo l : List (List UInt8)} {v : Value} (h : MapIt w r b m todo) (hh : HpAt w hb v l) (k : Keeps (HpS hb v) w w') : MapIt w' r b m todo :=
 h.keeps k (fun e => by obtain ⟨c, T, fr, hc⟩ := hh.cells e; exact h.map.notcells hc rfl) (fun e => by obtain ⟨c, T, fr, hc⟩ := hh.cells e; exact h.notcells hc rfl)
theorem Sl.cells {w : World} {B : Nat} {E : TypeId} {size : Nat} {v : Value} {n : Nat} {xs : List Value} (h : Sl w B E size v n xs) {b : Nat} (hb : v.ownBlock = some b) : ∃ c, Blk w b c E := by
 obtain ⟨h1, ⟨rfl, h3⟩ | ⟨b', off, cap, c, rfl, hB, hbk, h2⟩⟩ := h
 ·cases hb
 ·cases hb
  exact ⟨c, hbk⟩
theorem Sl.nebB {w : World} {B b : Nat} {c0 : Array Value} {v : Value} {n : Nat} {xs : List Value} (h : Sl w B 9 1 v n xs) (hb0 : Blk w b c0 TR) : v.ownBlock ≠ some b := by
 intro e
 obtain ⟨c, hc⟩ := h.cells e
 have := (hb0.inj hc).2
 revert this
 decide
theorem HpAt.keepo {S : Nat → Prop} {w w' : World} {b : Nat} {v : Value} {l : List (List UInt8)} (h : HpAt w b v l) (k : Keeps S w w') (h1 : ¬ S b) (h2 : ∀ j, v.ownBlock = some j → ¬ S j) : HpAt w' b v l :=
 ⟨h.blk.keeps k h1, h.sl.keep fun b' c hb' _ hb => hb.keeps k (h2 b' hb'), h.fit⟩
structure Apart (w wA : World) (nb hb : Nat) (M : MapL) (h out : List (List UInt8)) (v ov : Value) : Prop where
 map : MapAt w nb M
 heap : HpAt w hb v h
 good : HeapN h h.length
 told : Sl w wA.heap.size 9 1 ov out.length (svs out)
 apart : ∀ b, ov.ownBlock = some b → v.ownBlock ≠ some b
 own : ∀ b, v.ownBlock = some b → wA.heap.size ≤ b
 keeps : Keeps (One nb) wA w
 hbk : wA.heap.size ≤ hb
theorem Apart.tell {w w1 wA : World} {nb hb : Nat} {M : MapL} {h out : List (List UInt8)} {v ov nv : Value} {x : List UInt8} {o : Obj} (a : Apart w wA nb hb M h out v ov) (hs : Sl w1 wA.heap.size 9 1 nv (out.length + 1) (svs out ++ [sv x])) (k : Keeps (OwnOf ov) (w.alloc o) w1)
 (hb1 : nv.ownBlock = ov.ownBlock ∨ nv.ownBlock = some (w.heap.size + 1)) : Apart w1 wA nb hb M h (out ++ [x]) v nv := by
 have hk : Keeps (OwnOf ov) w w1 := ((Keeps.refl (OwnOf ov) w).alloc o).trans k fun j hj => .inl hj
 refine ⟨a.map.keeps hk fun e => ?_, a.heap.keepo hk (fun e => a.told.nebB a.heap.blk e) fun j hj e => a.apart j e hj, a.good, by simpa [svs] using hs, fun b hb2 hv => ?_, a.own, a.keeps.trans hk fun j hj => .inr (a.told.own j hj).1, a.hbk⟩
 ·obtain ⟨c, hc⟩ := a.told.cells e
  exact a.map.notcells hc rfl
 ·rcases hb1 with h1 | h1
  ·rw [h1] at hb2
   exact a.apart b hb2 hv
  ·rw [h1] at hb2
   cases hb2
   have := (a.heap.sl.own _ hv).2
   omega
theorem Apart.step {w w1 wA : World} {nb hb ir : Nat} {M : MapL} {h out todo : List (List UInt8)} {v ov : Value} (a : Apart w wA nb hb M h out v ov) (hit : MapIt w ir nb M todo) (k : Keeps (One ir) w w1) (hi : wA.heap.size ≤ ir) : Apart w1 wA nb hb M h out v ov :=
 ⟨a.map.keeps k fun e => hit.ne e.symm, a.heap.keepc k fun j c T fr hc e => hit.notcells hc e, a.good, a.told.keep fun b c hb _ hbk => hbk.keeps k fun e => hit.notcells hbk e, a.apart, a.own, a.keeps.trans k fun j hj => .inr (by cases hj; exact hi), a.hbk⟩
theorem Apart.non {w w1 wA : World} {nb hb : Nat} {M : MapL} {h out : List (List UInt8)} {v ov : Value} (a : Apart w wA nb hb M h out v ov) (k : Keeps Non w w1) : Apart w1 wA nb hb M h out v ov :=
 ⟨a.map.keeps k fun e => e, a.heap.non k, a.good, a.told.keep fun b c hb _ hbk => hbk.keeps k fun e => e, a.apart, a.own, a.keeps.trans k fun j hj => hj.elim, a.hbk⟩
theorem Apart.put {w w1 wA : World} {nb hb : Nat} {M M1 : MapL} {h out : List (List UInt8)} {v ov : Value} (a : Apart w wA nb hb M h out v ov) (hm : MapAt w1 nb M1) (k : Keeps (One nb) w w1) : Apart w1 wA nb hb M1 h out v ov :=
 ⟨hm, a.heap.keepc k fun j c T fr hc e => a.map.notcells hc e, a.good, a.told.keep fun b c hb _ hbk => hbk.keeps k fun e => a.map.notcells hbk e, a.apart, a.own, a.keeps.trans k fun j hj => .inl hj, a.hbk⟩
theorem Apart.turn {w w1 wA : World} {nb hb : Nat} {M : MapL} {h h1 out : List (List UInt8)} {v v1 ov : Value} (a : Apart w wA nb hb M h out v ov) (hh : HpAt w1 hb v1 h1) (hn : HeapN h1 h1.length) (k : Keeps (HpS hb v) w w1) (ho : OwnTo w v v1) : Apart w1 wA nb hb M h1 out v1 ov := by
 refine ⟨a.map.keeps k fun e => ?_, hh, hn, a.told.keep fun b c hb _ hbk => hbk.keeps k fun e => ?_, fun b hb2 hv => ?_, fun b hb2 => ?_, a.keeps.trans k fun j hj => .inr ?_, a.hbk⟩
 ·obtain ⟨c, T, fr, hc⟩ := a.heap.cells e
  exact a.map.notcells hc rfl
 ·rcases e with rfl | e
  ·exact a.told.nebB a.heap.blk hb
  ·exact a.apart b hb e
 ·rcases ho with h2 | ⟨j, h2, hj⟩
  ·rw [h2] at hv
   exact a.apart b hb2 hv
  ·rw [h2] at hv
   cases hv
   have := (a.told.own _ hb2).2
   omega
 ·rcases ho with h2 | ⟨j, h2, hj⟩
  ·rw [h2] at hb2
   exact a.own b hb2
  ·rw [h2] at hb2
   cases hb2
   exact Nat.le_trans a.keeps.size hj
 ·rcases hj with rfl | hj
  ·exact a.hbk
  ·exact a.own j hj
def ClosPost (w : World) (L : Ents) (roots : List (List UInt8)) (ed : Ending) (w' : World) : Prop :=
 ((∃ r ∈ roots, findE L r = none) ∧ ed = .returned (.tuple #[.slice none 0 0, .int .i64 15]) ∧ Keeps Non w w') ∨
 ((∀ r ∈ roots, (findE L r).isSome = true) ∧ ∃ K v, ReachOf L roots K ∧ ed = .returned (.tuple #[v, .int .i64 0]) ∧ Sl w' w.heap.size 9 1 v (closL L K).length (svs (closL L K)) ∧ Keeps Non w w')
set_option maxHeartbeats 3200000 in
set_option maxRecDepth 100000 in
theorem closure_any {F : Nat → Prop} {s : Nat} {L : Ents} (w : World) (h : StoreAt w F s L) (roots : List (List UInt8)) (vr : Value) (hr : Rd w 1 vr roots.length (svs roots)) (hrl : roots.length ≤ 1099511627776) (hrs : ∀ r ∈ roots, r.length ≤ 1099511627776) :
 Calls Tryz.prog 18 #[pv s, vr] w (ClosPost w L roots) := by
 have HS := Lib.hid h
 have HR := Lib.hid hr
 have HRS := Lib.hid hrs
 obtain ⟨va, vc, rfl, hc1, hc2⟩ := hr.shape
 unfold maxLen at hc2
 have hmm := @run_makeMap Tryz.prog
 clear h hr hrs
 unfold pv
 go_enter Tryz.func18, Tryz.ntmps18
 go_upto_region 3 with (fail)
 obtain ⟨W0, hW0⟩ : ∃ W0, W0 = ((((w.alloc (.cells #[.pointer (some ⟨s, 0, none⟩)] 34)).alloc (.map #[] 0)).alloc (.cells #[.map (some (w.heap.size + 1))] 76)).alloc (.cells #[.nilFunc] 77)) := ⟨_, rfl⟩
 rw [← hW0]
 have hk0 : Keeps Non w W0 := by rw [hW0]; exact ((((Keeps.refl _ _).alloc _).alloc _).alloc _).alloc _
 have hbs : Blk W0 w.heap.size #[pv s] 34 := by rw [hW0]; exact (((Blk.new w _ _).alloc _).alloc _).alloc _
 have hbm : MapAt W0 (w.heap.size + 1) [] := by
  have h1 := MapAt.made (w.alloc (.cells #[.pointer (some ⟨s, 0, none⟩)] 34))
  rw [hW0]
  have h2 : ((w.alloc (.cells #[.pointer (some ⟨s, 0, none⟩)] 34))).heap.size = w.heap.size + 1 := by simp
  rw [h2] at h1
  exact h1.keeps (((Keeps.refl Non _).alloc _).alloc _) (fun h => h)
 have hbn : Blk W0 (w.heap.size + 1 + 1) #[.map (some (w.heap.size + 1))] 76 := by
  have h1 := (Blk.new ((w.alloc (.cells #[.pointer (some ⟨s, 0, none⟩)] 34)).alloc (.map #[] 0)) #[.map (some (w.heap.size + 1))] 76).alloc (.cells #[.nilFunc] 77)
  rw [hW0]
  simpa using h1
 have hbr : Blk W0 (w.heap.size + 1 + 1 + 1) #[.nilFunc] 77 := by
  have h1 := Blk.new (((w.alloc (.cells #[.pointer (some ⟨s, 0, none⟩)] 34)).alloc (.map #[] 0)).alloc (.cells #[.map (some (w.heap.size + 1))] 76)) #[.nilFunc] 77
  rw [hW0]
  simpa using h1
 obtain ⟨cS, hcS⟩ : ∃ cS, cS = w.heap.size := ⟨_, rfl⟩
 obtain ⟨nb, hnb⟩ : ∃ nb, nb = w.heap.size + 1 := ⟨_, rfl⟩
 obtain ⟨cN, hcN⟩ : ∃ cN, cN = w.heap.size + 1 + 1 := ⟨_, rfl⟩
 obtain ⟨cR, hcR⟩ : ∃ cR, cR = w.heap.size + 1 + 1 + 1 := ⟨_, rfl⟩
 rw [← hcR] at hbr
 rw [← hcN, ← hnb] at hbn
 rw [← hnb] at hbm
 rw [← hcS] at hbs
 rw [← hcR, ← hcN, ← hnb, ← hcS]
 have c0 := hbr.cell 0
 have f0 := hbr.free 0
 simp only [List.getElem?_toArray, List.getElem?_cons_zero] at c0
 have HNB : Hid (w.heap.size ≤ nb ∧ w.heap.size ≤ cR ∧ cS ≠ cR ∧ cN ≠ cR) := ⟨by omega, by omega, by omega, by omega⟩
 have HK0 := Lib.hid hk0
 have HBS := Lib.hid hbs
 have HBM := Lib.hid hbm
 have HBN := Lib.hid hbn
 have HBR := Lib.hid hbr
 clear hk0 hbs hbm hbn hbr hW0 hcS hnb hcN hcR hmm
 go_upto_region 4 with (fail)
 obtain ⟨W1, hW1⟩ : ∃ W1, W1 = W0.setCell ⟨cR, 0, none⟩ (.func (.func 35) #[] #[.pointer (some ⟨cN, 0, none⟩), .pointer (some ⟨cS, 0, none⟩), .pointer (some ⟨cR, 0, none⟩)]) := ⟨_, rfl⟩
 rw [← hW1]
 have HK1 : Hid (Keeps Non w W1) := by show Keeps Non w W1; rw [hW1]; exact HK0.out.setCell _ _ (.inr HNB.out.2.1)
 have HS1 : Hid (StoreAt W1 F s L) := HS.out.non HK1.out
 have HM1 : Hid (MapAt W1 nb []) := by
  show MapAt W1 nb []
  rw [hW1]
  exact HBM.out.keeps ((Keeps.refl (One cR) W0).setCell ⟨cR, 0, none⟩ _ (.inl rfl)) fun e => HBM.out.notcells HBR.out e.symm
 have HE1 : Hid (Env W1 F s cN cS cR nb) := by
  show Env W1 F s cN cS cR nb
  rw [hW1]
  exact ⟨HBN.out.set_ne _ _ HNB.out.2.2.2, HBS.out.set_ne _ _ HNB.out.2.2.1, HBR.out.set 0 _, fun h => by have := HS.out.lt nb h; have := HNB.out.1; omega⟩
 have HR1 := Lib.hid (HR.out.non HK1.out)
 have HNB1 : Hid (w.heap.size ≤ nb) := HNB.out.1
 have HTU : Hid (Tryz.prog.underlying 76 = some (.map 9 3)) := Tryz.underlying76
 have HTE : Hid (Tryz.prog.underlying 82 = some (.map 9 81)) := Tryz.underlying82
 clear hW1 c0 f0 HK0 HBS HBM HBN HBR HNB HR HS
 go_wp2_with fail
 go_loopg [20] roots.length (fun gk iv wr => ∃ (k : Nat) (N : MapL), gk = roots.length - k ∧ k ≤ roots.length ∧ iv = .int .i64 k ∧ Hid (MapAt wr nb N) ∧ Hid (RootsSt L roots N k) ∧ Hid (∀ r ∈ roots.take k, (findE L r).isSome = true) ∧ Hid (Keeps (One nb) W1 wr))
 case atStart => exact ⟨0, [], rfl, Nat.zero_le _, rfl, HM1, RootsSt.start L roots, by show ∀ r ∈ _, _; simp, Keeps.refl _ _⟩
 case round =>
  obtain ⟨k, N, rfl, hk, rfl, HM2, HRO, HFS, HK2⟩ := hrel
  have HS2 : Hid (StoreAt wr F s L) := HS1.out.keeps HK2.out fun b hb e2 => HE1.out.far (by cases e2; exact hb)
  have HE2 : Hid (Env wr F s cN cS cR nb) := HE1.out.one HM1.out HK2.out
  have HKW2 : Hid (Keeps Non w wr) := HK1.out.trans HK2.out fun k hk => .inr (by cases hk; exact HNB1.out)
  by_cases hlt : k < roots.length
  ·have HV2 : Hid (Rd wr 1 (.slice va roots.length vc) roots.length (svs roots)) := HR1.out.keepc HK2.out fun b c T fr _ hc e2 => HM1.out.notcells hc e2
   have cs2 := HE2.out.s.cell 0
   have cr2 := HE2.out.r.cell 0
   obtain ⟨mb, m, g1, g2, g3, g4, g5, g6⟩ := HS2.out.map
   have ds2 := g2.cell 0
   simp only [List.getElem?_toArray, List.getElem?_cons_zero] at cs2 cr2 ds2
   unfold rf at cr2
   unfold pv at cs2
   have HMB := Lib.hid g3
   obtain ⟨b, off, cp, hsh, -, -, -, hbl, hc, -⟩ := HV2.out.pos (by omega)
   cases hsh
   have d0 : wr.cell? ⟨b, off + k, none⟩ = some (sv roots[k]) := (hc k (by omega)).trans (svs_get roots k hlt)
   have HX : Hid (roots[k]? = some roots[k] ∧ roots[k] ∈ roots ∧ roots[k].length ≤ 1099511627776) := ⟨List.getElem?_eq_getElem hlt, List.getElem_mem _, HRS.out _ (List.getElem_mem _)⟩
   clear hc
   generalize roots[k] = x at *
   unfold sv at d0
   rcases StoreAt.look g3 g5 g6 x with ⟨hf, hg⟩ | ⟨e, q, hf, hel, hep, hg, hE⟩
   ·have HVAL : Hid ((getM m x).getD (.pointer none) = .pointer none) := by show _ = _; rw [hg]; rfl
    have HFN := Lib.hid hf
    clear hf hg g1 g2 g3 g4 g5 g6
    go_wp2_with (first | (at_lookup; refine wpl_look _ rfl _ _ _ rfl _ _ HTE.out Tryz.underlying9 (.pointer none) (Tryz.zeroValue81 _) mb m rfl HMB.out x rfl HX.out.2.2 ?_; rw [HVAL.out]))
    refine bodyPost_ret (v := .tuple #[.slice none 0 0, .int .i64 15]) (by simp [results, Tryz.results18, go_sem]) rfl ?_
    exact .inl ⟨⟨x, HX.out.2.1, HFN.out⟩, rfl, HKW2.out⟩
   ·have HVAL : Hid ((getM m x).getD (.pointer none) = .pointer (some ⟨q, 0, none⟩)) := by show _ = _; rw [hg]; rfl
    have HFN : Hid ((findE L x).isSome = true) := by show _ = _; rw [hf]; rfl
    have HRE := Lib.hid (reach_any (freeN L N) e wr N (Nat.le_refl _) hel HS2.out HE2.out HM2.out)
    subst hep
    clear hf hg g1 g2 g3 g4 g5 g6 hE hel
    go_wp2_with (first | (at_lookup; refine wpl_look _ rfl _ _ _ rfl _ _ HTE.out Tryz.underlying9 (.pointer none) (Tryz.zeroValue81 _) mb m rfl HMB.out e.path rfl HX.out.2.2 ?_; rw [HVAL.out]))
    refine HRE.out.mono ?_
    rintro ed w4 ⟨rfl, N4, hm4, hg4, hk4⟩
    have HM4 := Lib.hid hm4
    have HG4 := Lib.hid (HRO.out.step HX.out.1 hg4)
    have HK4 : Hid (Keeps (One nb) W1 w4) := HK2.out.trans hk4 fun k hk => .inl hk
    clear hm4 hg4 hk4 cr2 cs2 ds2 d0
    go_wp2_with fail
    go_roundg (roots.length - (k + 1))
    case measure => omega
    case rel =>
     refine ⟨k + 1, N4, rfl, by omega, by go_num, HM4, HG4, ?_, HK4⟩
     show ∀ r ∈ _, _
     intro r hr
     rw [List.take_add_one, HX.out.1, List.mem_append] at hr
     rcases hr with hr | hr
     ·exact HFS.out r hr
     ·simp only [Option.toList_some, List.mem_singleton] at hr
      rw [hr]
      exact HFN.out
  ·have hk2 : k = roots.length := by omega
   subst hk2
   have HALL : Hid (∀ r ∈ roots, (findE L r).isSome = true) := by
    have h1 := HFS.out
    rw [List.take_length] at h1
    exact h1
   have HRC := Lib.hid (HRO.out.reach rfl HM2.out.nodup)
   have HMT := Lib.hid (HRO.out.map HS2.out.ok)
   clear HFS HRO hlt HM1 HE1 HS1 HR1 HK2 HK1
   go_upto_region 12 with (fail)
   generalize wr = wA at *
   obtain ⟨W5, hW5⟩ : ∃ W5, W5 = (wA.alloc (.cells #[] 9)).alloc (.cells #[.slice (some ⟨wA.heap.size, 0, none⟩) 0 0] 86) := ⟨_, rfl⟩
   obtain ⟨hb, hhb⟩ : ∃ hb, hb = wA.heap.size + 1 := ⟨_, rfl⟩
   obtain ⟨sb, hsb⟩ : ∃ sb, sb = wA.heap.size := ⟨_, rfl⟩
   rw [← hW5, ← hhb]
   have HK5 : Hid (Keeps Non wA W5) := by show Keeps Non wA W5; rw [hW5]; exact ((Keeps.refl _ _).alloc _).alloc _
   have HH5 : Hid (HpAt W5 hb (.slice (some ⟨sb, 0, none⟩) 0 0) []) := by
    show HpAt W5 hb _ []
    rw [hW5, hhb, hsb]
    refine ⟨?_, ?_, by simp⟩
    ·have h1 := Blk.new (wA.alloc (.cells #[] 9)) #[.slice (some ⟨wA.heap.size, 0, none⟩) 0 0] TR
     simpa using h1
    ·exact (Sl.of_new wA 0 (Nat.zero_le _) 9 1 0 [] rfl (by simp [maxLen])).alloc _
   have HO5 : Hid (∀ b, (Value.slice (some ⟨sb, 0, none⟩) 0 0).ownBlock = some b → wA.heap.size ≤ b) := fun b hb => by cases hb; exact Nat.le_of_eq hsb.symm
   have HM5 := Lib.hid (HM2.out.keeps HK5.out fun h => h)
   have HE5 : Hid (Env W5 F s cN cS cR nb) := HE2.out.keeps HK5.out fun _ _ _ _ _ _ h => h
   have cn5 := HE5.out.n.cell 0
   simp only [List.getElem?_toArray, List.getElem?_cons_zero] at cn5
   have HHB : Hid (wA.heap.size ≤ hb) := by show _ ≤ _; omega
   clear hW5 hhb hsb
   go_wp2_with (first | (at_range; refine wpl_range _ rfl _ _ rfl _ _ HTU.out nb N rfl HM5.out ?_; intro w6 hit6 hk6 hs6))
   obtain ⟨ir, hir⟩ : ∃ ir, ir = W5.heap.size := ⟨_, rfl⟩
   rw [← hir] at hit6
   rw [← hir]
   have HIT6 := Lib.hid hit6
   have HK6 : Hid (Keeps Non wA w6) := HK5.out.trans hk6 fun _ h => h.elim
   have HH6 := Lib.hid (HH5.out.non hk6)
   have HIB : Hid (wA.heap.size ≤ ir) := by rw [hir]; exact HK5.out.size
   have HKL : Hid ((N.map Prod.fst).length ≤ 10) := Nat.le_trans (HRC.out.keys.len HRC.out.once) HS2.out.ok.ten
   clear hit6 hk6 hs6 hir HM5 HE5 HK5 HH5 cn5
   go_frame
   go_loopg [] (N.map Prod.fst).length (fun gk wx => ∃ (todo h : List (List UInt8)) (v : Value), gk = todo.length ∧ Hid (MapIt wx ir nb N todo) ∧ Hid (HpAt wx hb v h) ∧ Hid (HeapN h h.length) ∧ Hid (FirstSt L (N.map Prod.fst) N todo h) ∧ Hid (∀ b, v.ownBlock = some b → wA.heap.size ≤ b) ∧ Hid (Keeps Non wA wx))
   case atStart => exact ⟨_, [], _, rfl, HIT6, HH6, fun k hk => absurd hk (by simp), FirstSt.start HMT.out, HO5, HK6⟩
   case round =>
    obtain ⟨todo, h, v, rfl, HIT, HH, HHN, HFI, HOW, HKW⟩ := hrel
    by_cases hemp : todo = []
    ·subst hemp
     have HTE2 := Lib.hid HFI.out.done
     have HM9 := Lib.hid HIT.out.map
     clear HFI HIT6 HH6 HO5 HMT
     go_wp2_with (first | (at_next; refine wpl_next _ rfl _ rfl ir nb N [] rfl HIT.out (fun _ => ?_) (fun k v w' hk => absurd hk (by simp))))
     have HAP : Hid (Apart wr wA nb hb N h [] v (.slice none 0 0)) := by
      refine ⟨HM9.out, HH.out, HHN.out, Sl.nil _ _ _ _, ?_, HOW.out, HKW.out.mono fun _ _ h => h.elim, HHB.out⟩
      intro b hb
      cases hb
     clear HIT HKW HK6 HIB HH HHN HOW HM9
     go_loopg [13] (L.length + 1) (fun gk ov wx => ∃ (M : MapL) (out h : List (List UInt8)) (v : Value), gk = L.length + 1 - out.length ∧ Hid (TellSt L (N.map Prod.fst) M out h) ∧ Hid (Apart wx wA nb hb M h out v ov))
     case atStart => exact ⟨N, [], h, v, rfl, HTE2, HAP⟩
     case round =>
      clear HTE2 HAP
      obtain ⟨M, out, h, v, rfl, HT, HA⟩ := hrel
      obtain ⟨oa, oc, rfl, ho1, ho2⟩ := HA.out.told.shape
      have ch := HA.out.heap.cell
      have HLN := Lib.hid (hLen_any h v wr HA.out.heap.sl.rd)
      rcases List.eq_nil_or_concat h with rfl | ⟨h0, y0, hh0⟩
      ·have HOUT := Lib.hid HT.out.done
       go_wp2_with fail
       refine HLN.out.mono ?_
       rintro ed w7 ⟨rfl, rfl⟩
       go_wp2_with fail
       refine bodyPost_ret (v := .tuple #[.slice oa out.length oc, .int .i64 0]) (by simp [results, Tryz.results18, go_sem]) rfl ?_
       have hsv := HA.out.told.mono HKW2.out.size
       rw [HOUT.out] at hsv
       have he : Value.slice oa out.length oc = Value.slice oa (closL L (N.map Prod.fst)).length oc := by rw [← HOUT.out]
       rw [he]
       exact .inr ⟨HALL.out, _, _, HRC.out, rfl, hsv, HKW2.out.trans HA.out.keeps fun k hk => .inr (by cases hk; exact HNB1.out)⟩
      ·have hpos : 0 < h.length := by rw [hh0]; simp
       have hd : decide ((0 : Int) < (h.length : Int)) = true := by simp; omega
       have HPO := Lib.hid (heapPop_any wr HA.out.heap hpos HA.out.good)
       unfold hv at HPO
       clear hh0
       go_wp2_with fail
       refine HLN.out.mono ?_
       rintro ed w7 ⟨rfl, rfl⟩
       go_wp2_with fail
       refine HPO.out.mono ?_
       rintro ed w7 ⟨⟨x, v7, h7, rfl, hh7, hp7, hn7, hl7, hv7⟩, hk7⟩
       have HRS7 := Lib.hid (HT.out.pop HS2.out.ok HRC.out.keys hp7 hl7)
       have HA7 := Lib.hid (HA.out.turn hh7 hn7 hk7 (.inl hv7))
       have HXL : Hid (x.length ≤ 1099511627776) := by
        obtain ⟨e, he, hep, -⟩ := HRC.out.keys x (HRS7.out.told.all x (by simp))
        rw [← hep]
        exact HS2.out.len he
       have hol : out.length ≤ 11 := by have := toldc_len HT.out.told; have := HS2.out.ok.ten; omega
       have hta : ∀ w, Sem.run Tryz.prog (Instr.typeAssert (.iface 9 (.string ⟨x.toArray⟩)) 20 9 false) w = .ok (.string ⟨x.toArray⟩) w := fun w => by kernel_rfl
       obtain ⟨i0, hi, hi0, hi1, hi2⟩ := info_parts infoStr
       have hsv7 := HA7.out.told
       have hsz7 := HA7.out.keeps.size
       unfold sv
       clear hh7 hp7 hn7 hl7 hv7 hk7 HPO HA HT ch HLN hd hpos
       go_upto_region 20 with (fail)
       clear hta
       go_upto_region 21 with (at_builtin; refine wpList_append_own2 rfl _ _ 26 26 rfl 9 i0 _ 1 16 Tryz.underlying26 hi hi0 hi1 hi2 rfl wA.heap.size _ _ _ rfl _ rfl 1 (svs [x]) ?c1 (hsv7.alloc _) ?c2 ?c3 ?c4 ?_)
       case c1 => simp; omega
       case c2 => exact Src.ofSl Tryz.underlying26 (Sl.of_new w7 0 (Nat.zero_le _) 9 1 1 [.string ⟨x.toArray⟩] rfl (by simp [maxLen])) (by intro u hu; simp only [svs, sv, List.map, List.mem_cons, List.not_mem_nil, or_false] at hu; subst hu; rfl)
       case c3 => unfold maxLen; omega
       case c4 => omega
       intro ao cc w8 hs8 hk8 hkk8 hb8
       have HA8 := Lib.hid (HA7.out.tell hs8 hkk8 hb8)
       have HE8 := Lib.hid (HE2.out.one HM2.out HA8.out.keeps)
       have HM8 := Lib.hid HA8.out.map
       have cn8 := HE8.out.n.cell 0
       simp only [List.getElem?_toArray, List.getElem?_cons_zero] at cn8
       clear hs8 hk8 hkk8 hb8 HA7 hsv7 hsz7 hi hi0 hi1 hi2
       go_upto_region 21 with (fail)
       go_wp2_with (first | (at_range; refine wpl_range _ rfl _ _ rfl _ _ HTU.out nb M rfl HM8.out ?_; intro w9 hit9 hk9 hs9))
       go_frame
       obtain ⟨ir2, hir2⟩ : ∃ ir2, ir2 = w8.heap.size := ⟨_, rfl⟩
       rw [← hir2] at hit9
       rw [← hir2]
       have HIB2 : Hid (wA.heap.size ≤ ir2) := by rw [hir2]; exact HA8.out.keeps.size
       rw [HRS7.out.map.keys] at hit9
       have HIT9 := Lib.hid hit9
       have HA9 := Lib.hid (HA8.out.non hk9)
       clear hit9 hk9 hs9 hir2 HA8 HE8 HM8 cn8
       go_loopg [] (N.map Prod.fst).length (fun gk wx => ∃ (M : MapL) (todo h : List (List UInt8)) (v : Value), gk = todo.length ∧ Hid (RoundSt L (N.map Prod.fst) M out x todo h) ∧ Hid (MapIt wx ir2 nb M todo) ∧ Hid (∀ y ∈ todo, y ∈ N.map Prod.fst) ∧ Hid (Apart wx wA nb hb M h (out ++ [x]) v (.slice ao (out.length + 1) cc)))
       case atStart => exact ⟨M, _, h7, v7, rfl, HRS7, HIT9, fun y hy => hy, HA9⟩
       case round =>
        clear HRS7 HIT9 HA9
        obtain ⟨M, todo, h, v, rfl, HR, HIT, HTK, HA⟩ := hrel
        by_cases hemp : todo = []
        ·subst hemp
         have HT := Lib.hid HR.out.done
         have hms : L.length + 1 - (out ++ [x]).length < L.length + 1 - out.length := by
          have := toldc_len HR.out.told
          rw [List.length_append, List.length_singleton] at this ⊢
          omega
         clear HR HTK
         go_wp2_with (first | (at_next; refine wpl_next _ rfl _ rfl ir2 nb M [] rfl HIT.out (fun _ => ?_) (fun k v w' hk => absurd hk (by simp))))
         go_roundg (L.length + 1 - (out ++ [x]).length)
         case measure => exact hms
         case rel => exact ⟨M, out ++ [x], h, v, rfl, HT, HA⟩
        ·go_upto_region 23 with (first | (at_next; refine wpl_next _ rfl _ rfl ir2 nb M todo rfl HIT.out (fun h => absurd h hemp) ?_; intro k v9 w9 hkt hv9 hit9 hkp9 hsz9 hen9))
         obtain ⟨e, hel, rfl, -⟩ := HRC.out.keys k (HTK.out k hkt)
         have hek := HTK.out e.path hkt
         have hkl : e.path.length ≤ 1099511627776 := HS2.out.len hel
         have hlt9 := filter_less hkt
         have HA9 := Lib.hid (HA.out.step HIT.out hkp9 HIB2.out)
         have HIT9 := Lib.hid hit9
         have HTK9 : Hid (∀ y ∈ todo.filter fun z => z != e.path, y ∈ N.map Prod.fst) := fun y hy => HTK.out y (List.mem_filter.1 hy).1
         unfold sv at hen9
         by_cases hx : x = e.path
         ·have hb0 : (!e.path == x) = false := by rw [hx]; simp
          have HR9 := Lib.hid (HR.out.pass HS2.out.ok hel (.inr hx))
          clear hx HR HIT HTK HA hit9 hkp9 hsz9 hv9 hkt hel hek
          go_wp2_with fail
          go_roundg (todo.filter fun z => z != e.path).length
          case measure => exact hlt9
          case rel => exact ⟨M, _, h, v, rfl, HR9, HIT9, HTK9, HA9⟩
         ·have hb0 : (!e.path == x) = true := by
           have hx2 : ¬ e.path = x := fun e2 => hx e2.symm
           simpa using hx2
          have HS9 : Hid (StoreAt w9 F s L) := HS2.out.keeps HA9.out.keeps fun b hb e2 => HE2.out.far (by cases e2; exact hb)
          have HE9 : Hid (Env w9 F s cN cS cR nb) := HE2.out.one HM2.out HA9.out.keeps
          have cn9 := HE9.out.n.cell 0
          have cs9 := HE9.out.s.cell 0
          obtain ⟨mb, m, q, vt, vq, g1, g2, g3, g4, g5, g6, g7⟩ := HS9.out.ent hel
          obtain ⟨qa, qc, rfl, -, -⟩ := g5.shape
          have ds9 := g1.cell 0
          have dq9 := g4.cell 2
          simp only [List.getElem?_toArray, List.getElem?_cons_zero, List.getElem?_cons_succ] at cn9 cs9 ds9 dq9
          unfold pv at cs9
          have HMB := Lib.hid g2
          have HCON0 := con_any e.refs _ ⟨x.toArray⟩ w9 g5
          have HVAL : Hid ((getM m e.path).getD (.pointer none) = .pointer (some ⟨q, 0, none⟩)) := by show _ = _; rw [g3]; rfl
          have HX : Hid (x ≠ e.path) := hx
          have HEL := Lib.hid hel
          have HEK := Lib.hid hek
          have HKT := Lib.hid hkt
          clear g1 g2 g3 g4 g5 g6 g7 hx HIT HTK HA hit9 hkp9 hsz9 hv9 hkt hel hek
          by_cases hin : x ∈ e.refs
          ·have HCON : Hid (Calls Tryz.prog 39 #[.slice qa e.refs.length qc, .string ⟨x.toArray⟩] w9 fun e w' => e = .returned (.bool true) ∧ w9 = w') := HCON0.mono (by rintro ed w' ⟨rfl, rfl⟩; exact ⟨bool_ret (by simpa using hin), rfl⟩)
           have HIN := Lib.hid hin
           clear HCON0 hin
           go_upto_region 24 with (fail)
           clear hen9
           go_upto_region 25 with (first | (at_lookup; refine wpl_lookw _ rfl _ _ _ rfl _ _ HTE.out Tryz.underlying9 (.pointer none) (Tryz.zeroValue81 _) mb m rfl HMB.out e.path rfl hkl ?_; rw [HVAL.out]))
           refine HCON.out.mono ?_
           rintro ed w10 ⟨rfl, rfl⟩
           go_upto_region 25 with (fail)
           obtain ⟨c, hc⟩ : ∃ c, c = cntO (out ++ [x]) e := ⟨_, rfl⟩
           have hcl : c ≤ 1099511627776 := by rw [hc]; exact Nat.le_trans (cntO_le _ _) (HS2.out.fit e HEL.out).refs
           obtain ⟨c1, hc1d⟩ : ∃ c1, c1 = c + 1 := ⟨_, rfl⟩
           have q1 : (c1 : Int) - 1 = (c : Int) := by omega
           have HV1 : Hid ((getM M e.path).getD (.int .i64 0) = .int .i64 c1 ∧ (getM M e.path).isSome = true) := by
            show _ ∧ _
            rw [HR.out.val HS2.out.ok HEL.out HEK.out HKT.out HIN.out HX.out, ← hc, ← hc1d]
            exact ⟨rfl, rfl⟩
           have HC := Lib.hid hc
           have HM9 := Lib.hid HIT9.out.map
           clear hc hc1d HMB HVAL HCON ds9 dq9 cs9
           go_upto_region 26 with (first | (at_lookup; refine wpl_look _ rfl _ _ _ rfl _ _ HTU.out Tryz.underlying9 (.int .i64 0) (Tryz.zeroValue3 _) nb M rfl HM9.out e.path rfl hkl ?_; rw [HV1.out.1]) | (at_mapUpdate; refine wpl_storei _ rfl _ _ _ _ rfl _ _ HTU.out Tryz.underlying9 ir2 nb M _ rfl HIT9.out e.path rfl hkl (.int .i64 c) rfl HV1.out.2 ?_; intro w10 hit10 hk10 hs10))
           have hivn : (Value.int .i64 c) = ivn (cntO (out ++ [x]) e) := by rw [← HC.out]; rfl
           rw [hivn] at hit10
           have HIT10 := Lib.hid hit10
           have HM10 := Lib.hid hit10.map
           have HA10 := Lib.hid (HA9.out.put hit10.map hk10)
           have HE10 := Lib.hid (HE2.out.one HM2.out HA10.out.keeps)
           have cn10 := HE10.out.n.cell 0
           simp only [List.getElem?_toArray, List.getElem?_cons_zero] at cn10
           have HV2 : Hid ((getM (putM M e.path (ivn (cntO (out ++ [x]) e))) e.path).getD (.int .i64 0) = .int .i64 c) := by
            show _ = _
            rw [getM_put, if_pos rfl, ← hivn]
            rfl
           clear hit10 hk10 hs10 HV1 HM9 HIT9 HA9 cn9 HS9 HE9 hivn q1
           by_cases hz : c = 0
           ·have hb1 : ((c : Int) == 0) = true := by rw [hz]; rfl
            have HZ : Hid (cntO (out ++ [x]) e = 0) := by rw [← HC.out]; exact hz
            have HPU := Lib.hid (heapPush_any e.path w10 HA10.out.heap (by have h1 := HR.out.heap.len (K := N.map Prod.fst) (fun y hy => HR.out.map.mem hy.2); have h2 := HKL.out; omega) HA10.out.good)
            unfold hv sv at HPU
            clear hz
            go_wp2_with (first | (at_lookup; refine wpl_look _ rfl _ _ _ rfl _ _ HTU.out Tryz.underlying9 (.int .i64 0) (Tryz.zeroValue3 _) nb _ rfl HM10.out e.path rfl hkl ?_; rw [HV2.out]))
            refine HPU.out.mono ?_
            rintro ed w11 ⟨rfl, ⟨v11, h11, hh11, hp11, hn11, ho11⟩, hk11⟩
            have HA11 := Lib.hid (HA10.out.turn hh11 hn11 hk11 ho11)
            have HIT11 := Lib.hid (HIT10.out.heap HA10.out.heap hk11)
            have HR11 := Lib.hid (HR.out.push HS2.out.ok HEL.out HEK.out HKT.out HIN.out HX.out HZ.out hp11)
            clear hh11 hp11 hn11 ho11 hk11 cn10 HPU HR
            go_wp2_with fail
            go_roundg (todo.filter fun z => z != e.path).length
            case measure => exact hlt9
            case rel => exact ⟨_, _, h11, v11, rfl, HR11, HIT11, HTK9, HA11⟩
           ·have hb1 : ((c : Int) == 0) = false := by rw [beq_eq_false_iff_ne]; omega
            have HZ : Hid (cntO (out ++ [x]) e ≠ 0) := by rw [← HC.out]; exact hz
            have HR11 := Lib.hid (HR.out.less HS2.out.ok HEL.out HEK.out HKT.out HIN.out HX.out HZ.out)
            clear hz HR
            go_wp2_with (first | (at_lookup; refine wpl_look _ rfl _ _ _ rfl _ _ HTU.out Tryz.underlying9 (.int .i64 0) (Tryz.zeroValue3 _) nb _ rfl HM10.out e.path rfl hkl ?_; rw [HV2.out]))
            go_roundg (todo.filter fun z => z != e.path).length
            case measure => exact hlt9
            case rel => exact ⟨_, _, h, v, rfl, HR11, HIT10, HTK9, HA10⟩
          ·have HCON : Hid (Calls Tryz.prog 39 #[.slice qa e.refs.length qc, .string ⟨x.toArray⟩] w9 fun e w' => e = .returned (.bool false) ∧ w9 = w') := HCON0.mono (by rintro ed w' ⟨rfl, rfl⟩; exact ⟨bool_ret (by simpa using hin), rfl⟩)
           have HR9 := Lib.hid (HR.out.pass HS2.out.ok HEL.out (.inl hin))
           clear HCON0 hin HR
           go_upto_region 24 with (fail)
           clear hen9
           go_wp2_with (first | (at_lookup; refine wpl_lookw _ rfl _ _ _ rfl _ _ HTE.out Tryz.underlying9 (.pointer none) (Tryz.zeroValue81 _) mb m rfl HMB.out e.path rfl hkl ?_; rw [HVAL.out]))
           refine HCON.out.mono ?_
           rintro ed w10 ⟨rfl, rfl⟩
           clear cn9 cs9 ds9 dq9
           go_wp2_with fail
           go_roundg (todo.filter fun z => z != e.path).length
           case measure => exact hlt9
           case rel => exact ⟨M, _, h, v, rfl, HR9, HIT9, HTK9, HA9⟩
    ·go_upto_region 14 with (first | (at_next; refine wpl_next _ rfl _ rfl ir nb N todo rfl HIT.out (fun h => absurd h hemp) ?_; intro k v7 w7 hkt hv7 hit7 hkp7 hsz7 hen7))
     obtain ⟨e, hel, hep, -⟩ := HRC.out.keys k (inM_keys.1 ⟨v7, hv7⟩)
     have hvl := HFI.out.map.vals e hel (by rw [hep]; exact inM_keys.1 ⟨v7, hv7⟩)
     rw [hep, hv7, Option.some.injEq] at hvl
     obtain ⟨n, hn⟩ : ∃ n, n = cntO [] e := ⟨_, rfl⟩
     have hnl : n ≤ 1099511627776 := by rw [hn]; exact Nat.le_trans (cntO_le _ _) (HS2.out.fit e hel).refs
     rw [← hn] at hvl
     have hkl : k.length ≤ 1099511627776 := by rw [← hep]; exact HS2.out.len hel
     subst hvl
     have HIT7 := Lib.hid hit7
     have HH7 := Lib.hid (HH.out.keepc hkp7 fun j c T fr hc e2 => HIT.out.notcells hc e2)
     have HK7 : Hid (Keeps Non wA w7) := HKW.out.trans hkp7 fun j hj => .inr (by cases hj; exact HIB.out)
     have HKT := Lib.hid hkt
     have HV7 := Lib.hid hv7
     unfold ivn sv at hen7
     clear hkt hv7 hit7 hkp7 hsz7 hn hel hep HIT HKW HH
     by_cases hz : n = 0
     ·subst hz
      have HPU := Lib.hid (heapPush_any k w7 HH7.out (by have h1 := HFI.out.heap.len (K := N.map Prod.fst) (fun y hy => HFI.out.map.mem hy.2); have h2 := HKL.out; omega) HHN.out)
      unfold hv sv at HPU
      go_wp2_with fail
      refine HPU.out.mono ?_
      rintro ed w8 ⟨rfl, ⟨v8, h8, hh8, hp8, hn8, ho8⟩, hk8⟩
      have HFI8 := Lib.hid (HFI.out.push HKT.out HV7.out hp8)
      have HH8 := Lib.hid hh8
      have HN8 := Lib.hid hn8
      have HIT8 := Lib.hid (HIT7.out.heap HH7.out hk8)
      have HO8 : Hid (∀ b, v8.ownBlock = some b → wA.heap.size ≤ b) := fun b hb2 => by
       rcases ho8 with h | ⟨j, h, hj⟩
       ·rw [h] at hb2
        exact HOW.out b hb2
       ·rw [h] at hb2
        cases hb2
        exact Nat.le_trans HK7.out.size hj
      have HK8 : Hid (Keeps Non wA w8) := HK7.out.trans hk8 fun j hj => .inr (by
       rcases hj with rfl | hj
       ·exact HHB.out
       ·exact HOW.out j hj)
      have hlt8 := filter_less HKT.out
      clear hh8 hp8 hn8 ho8 hk8 hen7 HPU HFI
      go_wp2_with fail
      go_roundg (todo.filter fun x => x != k).length
      case measure => exact hlt8
      case rel => exact ⟨_, h8, v8, rfl, HIT8, HH8, HN8, HFI8, HO8, HK8⟩
     ·have hb0 : ((n : Int) == 0) = false := by rw [beq_eq_false_iff_ne]; omega
      have HFI8 := Lib.hid (HFI.out.pass HV7.out hz)
      have hlt8 := filter_less HKT.out
      clear hz HFI
      go_wp2_with fail
      go_roundg (todo.filter fun x => x != k).length
      case measure => exact hlt8
      case rel => exact ⟨_, h, v, rfl, HIT7, HH7, HHN, HFI8, HOW, HK7⟩
end Go.Proofs.YtdkogijdfgfpeaaGreatDoor
