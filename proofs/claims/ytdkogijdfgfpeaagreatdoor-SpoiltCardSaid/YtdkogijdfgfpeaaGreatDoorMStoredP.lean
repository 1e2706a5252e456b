/- Plain: the stores that narkeep.stored makes. -/
import Derived.Test.YtdkogijdfgfpeaaGreatDoorMGrow
import Derived.Test.YtdkogijdfgfpeaaGreatDoorMClosP
import Derived.Test.YtdkogijdfgfpeaaGreatDoorMInsert
import Derived.Test.YtdkogijdfgfpeaaGreatDoorMClosW
import Derived.Lib.MinMax
set_option linter.unusedVariables false
namespace Go.Proofs.YtdkogijdfgfpeaaGreatDoor
open Go Go.RowKit
def nm (c : UInt8) : List UInt8 := [c, 45, 49]
def fb (j : Nat) : UInt8 := UInt8.ofNat (97 + (7 * j + 3) % 26)
def namesOf (n : Nat) : List (List UInt8) := (List.range n).map fun j => nm (fb j)
theorem namesOf_succ (n : Nat) : namesOf (n + 1) = namesOf n ++ [nm (fb n)] := by simp [namesOf, List.range_succ]
theorem namesOf_len (n : Nat) : (namesOf n).length = n := by simp [namesOf]
theorem namesOf_at {n j : Nat} (h : j < n) : (namesOf n)[j]? = some (nm (fb j)) := by simp [namesOf, h]
theorem namesOf_mem {n : Nat} {s : List UInt8} : s ∈ namesOf n ↔ ∃ j, j < n ∧ s = nm (fb j) := by
 simp only [namesOf, List.mem_map, List.mem_range]
 exact ⟨fun ⟨j, h1, h2⟩ => ⟨j, h1, h2.symm⟩, fun ⟨j, h1, h2⟩ => ⟨j, h1, h2.symm⟩⟩
theorem nm_inj {a b : UInt8} (h : nm a = nm b) : a = b := by
 unfold nm at h
 exact (List.cons.inj h).1
theorem fb_nat (j : Nat) : (fb j).toNat = 97 + (7 * j + 3) % 26 := by
 unfold fb
 rw [UInt8.toNat_ofNat']
 omega
theorem fb_inj {j k : Nat} (hj : j < 10) (hk : k < 10) (h : fb j = fb k) : j = k := by
 have h1 := congrArg UInt8.toNat h
 rw [fb_nat, fb_nat] at h1
 omega
theorem nm_less {a b : UInt8} (h : a < b) : Op.bytesLess (nm a) (nm b) = true := by
 rw [bytesLess_lt, decide_eq_true_eq]
 exact List.cons_lt_cons_iff.2 (.inl h)
theorem nm_path {j : Nat} (hj : j < 10) : pathB (nm (fb j)) = true := by
 have : ∀ j, j < 10 → pathB (nm (fb j)) = true := by decide
 exact this j hj
theorem rising_nm : ∀ {cs : List UInt8}, cs.Pairwise (· < ·) → risingB (cs.map nm) = true
 | [], _ => rfl
 | [a], _ => rfl
 | a :: b :: r, h => by
   obtain ⟨h1, h2⟩ := List.pairwise_cons.1 h
   show (Op.bytesLess (nm a) (nm b) && risingB ((b :: r).map nm)) = true
   rw [nm_less (h1 b (by simp)), rising_nm h2]
   rfl
structure Filling (n : Nat) (RR : List (List (List UInt8))) (L : Ents) : Prop where
 rr : RR.length = n
 ll : L.length = n
 ten : n ≤ 10
 ents : ∀ e ∈ L, ∃ i, i < n ∧ e.path = nm (fb i) ∧ RR[i]? = some e.refs
 back : ∀ i, i < n → ∃ e ∈ L, e.path = nm (fb i) ∧ RR[i]? = some e.refs
 refs : ∀ i rs, RR[i]? = some rs → ∀ r ∈ rs, ∃ j, j ≤ i ∧ r = nm (fb j)
theorem Filling.nil : Filling 0 [] [] := ⟨rfl, rfl, by omega, by simp, fun i hi => by omega, by simp⟩
theorem Filling.step {n : Nat} {RR : List (List (List UInt8))} {L : Ents} (h : Filling n RR L) (hn : n < 10) {l : List Node} (hw : wrongL l = -1) {cs : List UInt8} (hp : cs.Pairwise (· < ·)) (hm : ∀ a ∈ cs, ∃ j, j ≤ n ∧ a = fb j) :
 insE L (nm (fb n)) l (cs.map nm) = (0, putE L ⟨nm (fb n), l, cs.map nm⟩) ∧ Filling (n + 1) (RR ++ [cs.map nm]) (putE L ⟨nm (fb n), l, cs.map nm⟩) := by
 have hf : findE L (nm (fb n)) = none := findE_none.2 fun e he hep => by
  obtain ⟨i, hi, hip, -⟩ := h.ents e he
  have := fb_inj (by omega) hn (nm_inj (hip.symm.trans hep))
  omega
 have hok : InsOk L (nm (fb n)) l (cs.map nm) := ⟨nm_path hn, hw, rising_nm hp, fun r hr => by
  obtain ⟨a, ha, rfl⟩ := List.mem_map.1 hr
  obtain ⟨j, hj, rfl⟩ := hm a ha
  by_cases hjn : j = n
  ·exact .inl (by rw [hjn])
  ·right
   obtain ⟨e, he, hep, -⟩ := h.back j (by omega)
   exact findE_isSome.2 ⟨e, he, hep⟩⟩
 refine ⟨by rw [insE_e hok, hf, if_neg (by have := h.ll; omega)], by simp [h.rr], by rw [putE_length, h.ll], by omega, fun e he => ?_, fun i hi => ?_, fun i rs hrs r hr => ?_⟩
 ·rcases putE_mem.1 he with rfl | he
  ·exact ⟨n, by omega, rfl, by rw [List.getElem?_append_right (by rw [h.rr]; omega), h.rr]; simp⟩
  ·obtain ⟨i, hi, hip, hir⟩ := h.ents e he
   exact ⟨i, by omega, hip, by rw [List.getElem?_append_left (by rw [h.rr]; omega)]; exact hir⟩
 ·by_cases hin : i = n
  ·subst hin
   exact ⟨_, putE_mem.2 (.inl rfl), rfl, by rw [List.getElem?_append_right (by rw [h.rr]; omega), h.rr]; simp⟩
  ·obtain ⟨e, he, hep, her⟩ := h.back i (by omega)
   exact ⟨e, putE_mem.2 (.inr he), hep, by rw [List.getElem?_append_left (by rw [h.rr]; omega)]; exact her⟩
 ·by_cases hin : i < RR.length
  ·rw [List.getElem?_append_left hin] at hrs
   exact h.refs i rs hrs r hr
  ·rw [List.getElem?_append_right (by omega)] at hrs
   have hi0 : i - RR.length = 0 := by
    cases hd : i - RR.length with
    | zero => rfl
    | succ d => rw [hd] at hrs; simp at hrs
   rw [hi0] at hrs
   simp only [List.getElem?_cons_zero, Option.some.injEq] at hrs
   subst hrs
   obtain ⟨a, ha, rfl⟩ := List.mem_map.1 hr
   obtain ⟨j, hj, rfl⟩ := hm a ha
   exact ⟨j, by have := h.rr; omega, rfl⟩
theorem Filling.acyc {n : Nat} {RR : List (List (List UInt8))} {L : Ents} (h : Filling n RR L) : Acyc L fun p => (idxL (namesOf n) p).toNat := by
 intro e he r hr
 obtain ⟨i, hi, hip, hir⟩ := h.ents e he
 obtain ⟨j, hj, rfl⟩ := h.refs i _ hir r hr
 have hidx : ∀ k, k < n → idxL (namesOf n) (nm (fb k)) = k := fun k hk => by
  obtain ⟨q, hq1, hq2, hq3⟩ := idxL_at (l := namesOf n) (s := nm (fb k)) (namesOf_mem.2 ⟨k, hk, rfl⟩)
  rw [namesOf_len] at hq2
  rw [namesOf_at hq2, Option.some.injEq] at hq3
  have := fb_inj (by have := h.ten; omega) (by have := h.ten; omega) (nm_inj hq3)
  rw [hq1, this]
 by_cases hij : j = i
 ·left
  rw [hip, hij]
 ·right
  show (idxL (namesOf n) (nm (fb j))).toNat < (idxL (namesOf n) e.path).toNat
  rw [hip, hidx i hi, hidx j (by omega)]
  omega
structure Letters (n c k : Nat) (cs : List UInt8) : Prop where
 rise : cs.Pairwise (· < ·)
 le : ∀ a ∈ cs, a.toNat ≤ c
 at' : ∀ a ∈ cs, a.toNat = c → ∃ j, j < k ∧ a = fb j
 mem : ∀ a ∈ cs, ∃ j, j ≤ n ∧ a = fb j
theorem Letters.start (n c : Nat) : Letters n c 0 [] := ⟨List.Pairwise.nil, by simp, by simp, by simp⟩
theorem Letters.pass {n c k : Nat} {cs : List UInt8} (h : Letters n c k cs) : Letters n c (k + 1) cs := ⟨h.rise, h.le, fun a ha hc => by
 obtain ⟨j, hj, he⟩ := h.at' a ha hc
 exact ⟨j, by omega, he⟩, h.mem⟩
theorem Letters.push {n c k : Nat} {cs : List UInt8} (h : Letters n c k cs) (hn : n < 10) (hk : k ≤ n) (hc : (fb k).toNat = c) : Letters n c (k + 1) (cs ++ [fb k]) := by
 refine ⟨?_, fun a ha => ?_, fun a ha hac => ?_, fun a ha => ?_⟩
 ·rw [List.pairwise_append]
  refine ⟨h.rise, List.pairwise_singleton _ _, fun a ha b hb => ?_⟩
  rw [List.mem_singleton] at hb
  subst hb
  have h1 := h.le a ha
  rw [UInt8.lt_iff_toNat_lt, hc]
  refine Nat.lt_of_le_of_ne h1 fun e => ?_
  obtain ⟨j, hj, he⟩ := h.at' a ha e
  have := fb_inj (by omega) (by omega) (UInt8.toNat_inj.1 (by rw [← he, e, hc]) : fb j = fb k)
  omega
 ·rcases List.mem_append.1 ha with ha | ha
  ·exact h.le a ha
  ·rw [List.mem_singleton.1 ha, hc]
   exact Nat.le_refl _
 ·rcases List.mem_append.1 ha with ha | ha
  ·obtain ⟨j, hj, he⟩ := h.at' a ha hac
   exact ⟨j, by omega, he⟩
  ·exact ⟨k, by omega, List.mem_singleton.1 ha⟩
 ·rcases List.mem_append.1 ha with ha | ha
  ·exact h.mem a ha
  ·exact ⟨k, hk, List.mem_singleton.1 ha⟩
theorem Letters.next {n c k : Nat} {cs : List UInt8} (h : Letters n c k cs) : Letters n (c + 1) 0 cs := ⟨h.rise, fun a ha => by have := h.le a ha; omega, fun a ha hac => by have := h.le a ha; omega, h.mem⟩
theorem Sl.nebT {w : World} {B b : Nat} {E T : TypeId} {size : Nat} {c0 : Array Value} {v : Value} {n : Nat} {xs : List Value} (h : Sl w B E size v n xs) (hb0 : Blk w b c0 T) (hne : T ≠ E) : v.ownBlock ≠ some b := fun e => by
 obtain ⟨c, hc⟩ := h.cells e
 exact hne (hb0.inj hc).2
structure Pend (w wr : World) (F : Nat → Prop) (vn v : Value) (r : List (List UInt8)) : Prop where
 sl : Sl wr w.heap.size 9 1 v r.length (svs r)
 own : ∀ b, v.ownBlock = some b → ¬ F b ∧ vn.ownBlock ≠ some b
structure SSt (w wr : World) (F : Nat → Prop) (st xb : Nat) (L : Ents) (NL : List (List UInt8)) (RR : List (List (List UInt8))) (vn vr : Value) (xs : List Value) : Prop where
 store : StoreAt wr F st L
 box : Blk wr xb #[pv st] 36
 names : Sl wr w.heap.size 9 1 vn NL.length (svs NL)
 outer : Sl wr w.heap.size 26 1 vr RR.length xs
 items : ∀ (i : Nat) (v : Value) (r : List (List UInt8)), xs[i]? = some v → RR[i]? = some r → Pend w wr F vn v r
 keeps : Keeps Non w wr
 fown : ∀ k, F k → w.heap.size ≤ k
 xown : w.heap.size ≤ xb ∧ ¬ F xb
 nF : ∀ b, vn.ownBlock = some b → ¬ F b
 rF : ∀ b, vr.ownBlock = some b → ¬ F b
section
variable {w wr w1 : World} {F F' : Nat → Prop} {st xb : Nat} {L L' : Ents} {NL r : List (List UInt8)} {RR : List (List (List UInt8))} {vn vr v : Value} {xs : List Value}
theorem Pend.keeps {S : Nat → Prop} (h : Pend w wr F vn v r) (k : Keeps S wr w1) (hs : ∀ b, v.ownBlock = some b → ¬ S b) : Pend w w1 F vn v r := ⟨h.sl.keep fun b c hb _ hbk => hbk.keeps k (hs b hb), h.own⟩
theorem Pend.non (h : Pend w wr F vn v r) (k : Keeps Non wr w1) : Pend w w1 F vn v r := h.keeps k fun _ _ h => h
theorem SSt.non (h : SSt w wr F st xb L NL RR vn vr xs) (k : Keeps Non wr w1) : SSt w w1 F st xb L NL RR vn vr xs :=
 ⟨h.store.non k, h.box.keeps k fun h => h, h.names.keep fun b c _ _ hb => hb.keeps k fun h => h, h.outer.keep fun b c _ _ hb => hb.keeps k fun h => h, fun i v r hx hr => (h.items i v r hx hr).non k, h.keeps.trans k fun _ h => h.elim, h.fown, h.xown, h.nF, h.rF⟩
theorem SSt.pend (h : SSt w wr F st xb L NL RR vn vr xs) (k : Keeps Non wr w1) (hs : Sl w1 wr.heap.size 9 1 v r.length (svs r)) : Pend w w1 F vn v r := by
 refine ⟨hs.mono h.keeps.size, fun b hb => ?_⟩
 have h1 := (hs.own b hb).1
 refine ⟨fun hF => ?_, fun hn => ?_⟩
 ·have := h.store.lt b hF; omega
 ·have := (h.names.own b hn).2; omega
theorem Pend.ins (h : Pend w wr F vn v r) (hF : ∀ k, F' k → F k ∨ (wr.heap.size ≤ k ∧ k < w1.heap.size)) (k : Keeps F wr w1) : Pend w w1 F' vn v r :=
 ⟨h.sl.keep fun b c hb _ hbk => hbk.keeps k (h.own b hb).1, fun b hb => ⟨fun hb2 => by
  rcases hF b hb2 with h2 | h2
  ·exact (h.own b hb).1 h2
  ·have := (h.sl.own b hb).2
   omega, (h.own b hb).2⟩⟩
theorem SSt.ins (h : SSt w wr F st xb L NL RR vn vr xs) (hs : StoreAt w1 F' st L') (hF : ∀ k, F' k → F k ∨ (wr.heap.size ≤ k ∧ k < w1.heap.size)) (k : Keeps F wr w1) : SSt w w1 F' st xb L' NL RR vn vr xs := by
 have hout : ∀ b, b < wr.heap.size → ¬ F b → ¬ F' b := fun b hb hn hb2 => by
  rcases hF b hb2 with h2 | h2
  ·exact hn h2
  ·omega
 refine ⟨hs, h.box.keeps k h.xown.2, h.names.keep fun b c hb _ hbk => hbk.keeps k (h.nF b hb), h.outer.keep fun b c hb _ hbk => hbk.keeps k (h.rF b hb), fun i v r hx hr => (h.items i v r hx hr).ins hF k, h.keeps.trans k fun j hj => .inr (h.fown j hj), fun j hj => ?_, ⟨h.xown.1, hout _ h.box.lt h.xown.2⟩, fun b hb => hout b (h.names.own b hb).2 (h.nF b hb), fun b hb => hout b (h.outer.own b hb).2 (h.rF b hb)⟩
 rcases hF j hj with h2 | h2
 ·exact h.fown j h2
 ·exact Nat.le_trans h.keeps.size h2.1
theorem SSt.name {nv p : Value} {x : List UInt8} {o : Obj} {s : List (List UInt8)} (h : SSt w wr F st xb L NL RR vn vr xs) (hp : Pend w wr F vn p s) (hs : Sl w1 w.heap.size 9 1 nv (NL.length + 1) (svs NL ++ [sv x])) (k : Keeps (OwnOf vn) (wr.alloc o) w1)
 (hb1 : nv.ownBlock = vn.ownBlock ∨ nv.ownBlock = some (wr.heap.size + 1)) : SSt w w1 F st xb L (NL ++ [x]) RR nv vr xs ∧ Pend w w1 F nv p s := by
 have hk : Keeps (OwnOf vn) wr w1 := ((Keeps.refl (OwnOf vn) wr).alloc o).trans k fun j hj => .inl hj
 have hpend : ∀ {v r}, Pend w wr F vn v r → Pend w w1 F nv v r := fun {v r} hp => by
  have h1 := hp.keeps hk fun b hb e => (hp.own b hb).2 e
  refine ⟨h1.sl, fun b hb => ⟨(hp.own b hb).1, fun e => ?_⟩⟩
  rcases hb1 with h2 | h2
  ·rw [h2] at e
   exact (hp.own b hb).2 e
  ·rw [h2] at e
   cases e
   have := (hp.sl.own _ hb).2
   omega
 refine ⟨⟨h.store.keeps hk fun b hb e => h.nF b e hb, h.box.keeps hk fun e => h.names.nebT h.box (by decide) e, by simpa [svs] using hs, h.outer.keep fun b c hb _ hbk => hbk.keeps hk fun e => h.names.nebT hbk (by decide) e, fun i v r hx hr => hpend (h.items i v r hx hr), h.keeps.trans hk fun j hj => .inr (h.names.own j hj).1, h.fown, h.xown, fun b hb hF => ?_, h.rF⟩, hpend hp⟩
 rcases hb1 with h2 | h2
 ·rw [h2] at hb
  exact h.nF b hb hF
 ·rw [h2] at hb
  cases hb
  have := h.store.lt _ hF
  omega
theorem SSt.ref {nv : Value} {o : Obj} (h : SSt w wr F st xb L NL RR vn vr xs) (hp : Pend w wr F vn v r) (hs : Sl w1 w.heap.size 26 1 nv (RR.length + 1) (xs ++ [v])) (k : Keeps (OwnOf vr) (wr.alloc o) w1)
 (hb1 : nv.ownBlock = vr.ownBlock ∨ nv.ownBlock = some (wr.heap.size + 1)) : SSt w w1 F st xb L NL (RR ++ [r]) vn nv (xs ++ [v]) := by
 have hk : Keeps (OwnOf vr) wr w1 := ((Keeps.refl (OwnOf vr) wr).alloc o).trans k fun j hj => .inl hj
 have hxl : xs.length = RR.length := by have := h.outer.len; omega
 have hpend : ∀ {v r}, Pend w wr F vn v r → Pend w w1 F vn v r := fun {v r} hp => by
  refine hp.keeps hk fun b hb e => ?_
  obtain ⟨c, hc⟩ := hp.sl.cells hb
  exact h.outer.nebT hc (by decide) e
 refine ⟨h.store.keeps hk fun b hb e => h.rF b e hb, h.box.keeps hk fun e => h.outer.nebT h.box (by decide) e, h.names.keep fun b c hb _ hbk => hbk.keeps hk fun e => h.outer.nebT hbk (by decide) e, by simpa using hs, fun i v' r' hx hr => ?_, h.keeps.trans hk fun j hj => .inr (h.outer.own j hj).1, h.fown, h.xown, h.nF, fun b hb hF => ?_⟩
 ·by_cases hi : i < xs.length
  ·rw [List.getElem?_append_left hi] at hx
   rw [List.getElem?_append_left (by omega)] at hr
   exact hpend (h.items i v' r' hx hr)
  ·have hi2 : i = xs.length := by
    have : i < (xs ++ [v]).length := (List.getElem?_eq_some_iff.1 hx).1
    simp at this
    omega
   rw [hi2, List.getElem?_append_right (Nat.le_refl _), Nat.sub_self] at hx
   rw [hi2, hxl, List.getElem?_append_right (Nat.le_refl _), Nat.sub_self] at hr
   simp only [List.getElem?_cons_zero, Option.some.injEq] at hx hr
   subst hx hr
   exact hpend hp
 ·rcases hb1 with h2 | h2
  ·rw [h2] at hb
   exact h.rF b hb hF
  ·rw [h2] at hb
   cases hb
   have := h.store.lt _ hF
   omega
end
theorem infoStrs : (Tryz.prog.info? 26).map (fun i => (i.zero, i.size, i.bytes)) = some (some (.slice none 0 0), 1, 24) := by kernel_rfl
def TreeG (l : List Node) : Prop := ∀ d : List UInt8, 2 < d.length → l ≠ [⟨[], 1, d⟩]
def StoredPost (w : World) (e : Ending) (w' : World) : Prop := ∃ (n xb st : Nat) (F : Nat → Prop) (L : Ents) (RR : List (List (List UInt8))) (vn vr : Value) (xs : List Value),
 e = .returned (.tuple #[pv xb, vn, vr, .bool true]) ∧ 0 < n ∧ Filling n RR L ∧ SSt w w' F st xb L (namesOf n) RR vn vr xs ∧ ∀ e ∈ L, TreeG e.tree
set_option maxHeartbeats 4000000 in
set_option maxRecDepth 100000 in
theorem stored_any (s : ByteArray) (w : World) (hs : s.size ≤ 1000000) (h2 : 2 ≤ s.size) (hT : Tabs w) :
 Calls Tryz.prog 16 #[.string s] w (StoredPost w) := by
 have kc := fun (w : World) (n : Int) => run_string_one (P := Tryz.prog) 45 5 Tryz.underlying45 Tryz.underlying5 9 Tryz.underlying9 5 w n
 have HT := Lib.hid hT
 clear hT
 go_enter Tryz.func16, Tryz.ntmps16
 go_wp2_with fail
 refine (newStore_any w HT.out.top).mono ?_
 rintro e w1 ⟨xb, st, F0, rfl, hx1, hx2, hst, hF0, hx3, hk1⟩
 have HSS : Hid (SSt w w1 F0 st xb [] [] [] (.slice none 0 0) (.slice none 0 0) []) := by
  refine ⟨hst, hx2, Sl.nil _ _ _ _, Sl.nil _ _ _ _, by simp, hk1, hF0, ⟨hx1, hx3⟩, ?_, ?_⟩ <;> intro b hb <;> cases hb
 clear hx1 hx2 hst hF0 hx3 hk1
 unfold pv
 go_wp2_with fail
 go_loopg [7, 8, 9] 11 (fun gk vn vr iv wr => ∃ (n i : Nat) (F : Nat → Prop) (L : Ents) (RR : List (List (List UInt8))) (xs : List Value), gk = 11 - n ∧ n ≤ 10 ∧ Hid (i = 2 * n) ∧ i ≤ s.size ∧ iv = .int .i64 i ∧ Hid (Filling n RR L) ∧ Hid (SSt w wr F st xb L (namesOf n) RR vn vr xs) ∧ Hid (∀ e ∈ L, TreeG e.tree))
 case atStart => exact ⟨0, 0, F0, [], [], [], rfl, by omega, rfl, by omega, rfl, Filling.nil, HSS, (fun e he => nomatch he)⟩
 case round =>
  clear HSS
  obtain ⟨n, i, F, L, RR, xs, rfl, hn10, hi2, his, rfl, HFI, HS, HTG⟩ := hrel
  obtain ⟨na, nc, rfl, hn1, hn2⟩ := HS.out.names.shape
  rw [namesOf_len] at hn1
  have hnl := namesOf_len n
  rw [hnl] at HS ⊢
  by_cases h1 : i + 1 < s.size
  ·have e1 : IntKind.i64.wrap ((i : Int) + 1) = (i : Int) + 1 := IntWalk.i64_in _ (by omega)
   have d1 : decide ((i : Int) + 1 < (s.size : Int)) = true := by simp; omega
   by_cases h10 : n < 10
   ·have d2 : decide ((n : Int) < 10) = true := by simp; omega
    go_upto_region 9 with (fail)
    obtain ⟨y, hy⟩ : ∃ y : Nat, ((7 : Int) * (n : Int) + 3) % 26 = (y : Int) := ⟨(7 * n + 3) % 26, by omega⟩
    have hy2 : y ≤ 25 := by omega
    have HY : Hid (y = (7 * n + 3) % 26) := by show _ = _; omega
    have e3 : IntKind.i64.wrap (7 * (n : Int)) = 7 * (n : Int) := IntWalk.i64_in _ (by omega)
    have e4 : IntKind.i64.wrap (7 * (n : Int) + 3) = 7 * (n : Int) + 3 := IntWalk.i64_in _ (by omega)
    have e5 : IntKind.i64.wrap (97 + (y : Int)) = 97 + (y : Int) := IntWalk.i64_in _ (by omega)
    have e9 : ((97 : Int) + (y : Int)).toNat = 97 + y := by omega
    go_upto_region 10 with (fail)
    have HNM : (⟨#[97 + UInt8.ofNat y]⟩ : ByteArray) ++ ⟨#[45, 49]⟩ = ⟨#[fb n, 45, 49]⟩ := by
     have h1 : (97 : UInt8) + UInt8.ofNat y = fb n := by
      unfold fb
      rw [← HY.out, UInt8.ofNat_add]
      rfl
     rw [h1]
     rfl
    rw [HNM]
    have HK2 : Keeps Non wr (wr.alloc (.cells #[.int .u8 (97 + (y : Int))] 5)) := (Keeps.refl _ _).alloc _
    obtain ⟨W2, hW2⟩ : ∃ W2, W2 = wr.alloc (.cells #[.int .u8 (97 + (y : Int))] 5) := ⟨_, rfl⟩
    rw [← hW2] at HK2
    rw [← hW2]
    have HS2 := Lib.hid (HS.out.non HK2)
    clear HNM HK2 hW2 HY hy hy2 e3 e4 e5 e9 kc HS
    go_wp2_with fail
    go_loopg [11, 12] 26 (fun gk vr' cv wx => ∃ (c : Nat) (cs : List UInt8), gk = 123 - c ∧ 97 ≤ c ∧ c ≤ 123 ∧ cv = .int .u8 c ∧ Hid (Letters n c 0 cs) ∧ Hid (Sl wx W2.heap.size 9 1 vr' cs.length (svs (cs.map nm))) ∧ Hid (Keeps Non W2 wx))
    case atStart => exact ⟨97, [], rfl, by omega, by omega, rfl, Letters.start _ _, Sl.nil _ _ _ _, Keeps.refl _ _⟩
    case round =>
     obtain ⟨c, cs, rfl, hc97, hc123, rfl, HL, HR, HK⟩ := hrel
     by_cases hc : c ≤ 122
     ·have d3 : decide ((c : Int) ≤ 122) = true := by simp; omega
      go_upto_region 14 with (fail)
      go_wp2_with fail
      go_loopg [11, 46] n (fun gk vr' iv wx => ∃ (k : Nat) (cs : List UInt8), gk = n - k ∧ k ≤ n ∧ iv = .int .i64 k ∧ Hid (Letters n c k cs) ∧ Hid (Sl wx W2.heap.size 9 1 vr' cs.length (svs (cs.map nm))) ∧ Hid (Keeps Non W2 wx))
      case atStart => exact ⟨0, cs, rfl, by omega, rfl, HL, HR, HK⟩
      case round =>
       clear HL HR HK
       obtain ⟨k, cs, rfl, hkn, rfl, HL, HR, HK⟩ := hrel
       obtain ⟨ra, rc, rfl, hrc1, hrc2⟩ := HR.out.shape
       by_cases hlt : k < n
       ·have HSX := Lib.hid (HS2.out.non HK.out)
        have hnm := HSX.out.names
        rw [hnl] at hnm
        obtain ⟨b', o', c', hsh, -, -, -, hltb, hcc, -⟩ := hnm.pos (by omega)
        cases hsh
        have d0 : wr.cell? ⟨b', o' + k, none⟩ = some (sv (nm (fb k))) := (hcc k (by omega)).trans (by simp [svs, namesOf_at hlt])
        unfold sv nm at d0
        clear hcc HSX hnm
        obtain ⟨f, hf⟩ : ∃ f, f = (fb k).toNat := ⟨_, rfl⟩
        have q0 : ((⟨#[fb k, 45, 49]⟩ : ByteArray)[0]'(Nat.zero_lt_succ 2)).toNat = f := hf.symm
        by_cases hfc : f = c
        ·have hb0 : ((f : Int) == (c : Int)) = true := by rw [hfc]; simp
         go_upto_region 17 with (fail)
         go_upto_if 64 with (fail)
         obtain ⟨i0, hi, hi0, hi1, hi2'⟩ := info_parts infoStr
         have hsl := HR.out
         have hsz := HK.out.size
         have hcl : cs.length ≤ 10 := by
          have h3 := nodup_len (cs.map nm) (namesOf (n + 1)) (List.Pairwise.map nm (fun a b h e => h (nm_inj e)) (HL.out.rise.imp fun h => fun e => by rw [e] at h; exact absurd h (UInt8.lt_irrefl _))) fun x hx => by
           obtain ⟨a, ha, rfl⟩ := List.mem_map.1 hx
           obtain ⟨j, hj, rfl⟩ := HL.out.mem a ha
           exact namesOf_mem.2 ⟨j, by omega, rfl⟩
          rw [List.length_map, namesOf_len] at h3
          omega
         go_upto_region 18 with (fail)
         ·go_wp2_with (at_builtin; refine wpList_append_own2 rfl _ _ 26 26 rfl 9 i0 _ 1 16 Tryz.underlying26 hi hi0 hi1 hi2' rfl W2.heap.size _ _ _ rfl _ rfl 1 (svs [nm (fb k)]) ?c1 (hsl.alloc _) ?c2 ?c3 ?c4 ?_)
          case c1 => simp; omega
          case c2 => exact Src.ofSl Tryz.underlying26 (Sl.of_new wr 0 (Nat.zero_le _) 9 1 1 [.string ⟨#[fb k, 45, 49]⟩] rfl (by simp [maxLen])) (by intro u hu; simp only [svs, sv, List.map, List.mem_cons, List.not_mem_nil, or_false] at hu; subst hu; rfl)
          case c3 => unfold maxLen; omega
          case c4 => omega
          intro ao cc w8 hs8 hk8 hkk8 hb8
          have HL8 := Lib.hid (HL.out.push h10 hkn (hf.symm.trans hfc))
          have HR8 : Hid (Sl w8 W2.heap.size 9 1 (.slice ao (cs.length + 1) cc) (cs ++ [fb k]).length (svs ((cs ++ [fb k]).map nm))) := by
           show Sl _ _ _ _ _ _ _
           simpa [svs] using hs8
          have HK8 : Hid (Keeps Non W2 w8) := (HK.out.alloc _).trans hkk8 fun j hj => .inr (hsl.own j hj).1
          clear hs8 hk8 hkk8 hb8 hsl HL HR HK hi hi0 hi1 hi2'
          go_wp2_with fail
          go_roundg (n - (k + 1))
          case measure => omega
          case rel => exact ⟨k + 1, cs ++ [fb k], rfl, by omega, by go_num, HL8, HR8, HK8⟩
         ·go_roundg (n - (k + 1))
          case measure => omega
          case rel => exact ⟨k + 1, cs, rfl, by omega, by go_num, HL.out.pass, HR, HK⟩
        ·have hb0 : ((f : Int) == (c : Int)) = false := by rw [beq_eq_false_iff_ne]; omega
         go_wp2_with fail
         go_roundg (n - (k + 1))
         case measure => omega
         case rel => exact ⟨k + 1, cs, rfl, by omega, by go_num, HL.out.pass, HR, HK⟩
       ·have hk2 : n = k := by omega
        subst hk2
        go_upto_region 20 with (fail)
        obtain ⟨f, hf⟩ : ∃ f, f = (fb n).toNat := ⟨_, rfl⟩
        have q0 : ((⟨#[fb n, 45, 49]⟩ : ByteArray)[0]'(Nat.zero_lt_succ 2)).toNat = f := hf.symm
        by_cases hfc : f = c
        ·have hb0 : ((f : Int) == (c : Int)) = true := by rw [hfc]; simp
         have e2 : (0 : Int) ≤ (i : Int) + 1 := by omega
         have e3 : ((i : Int) + 1).toNat = i + 1 := by omega
         have e4 : (i : Int) + 1 < (s.size : Int) := by omega
         obtain ⟨i0, hi, hi0, hi1, hi2'⟩ := info_parts infoStr
         have hsl := HR.out
         have hsz := HK.out.size
         have hcl : cs.length ≤ 11 := by
          have h3 := nodup_len (cs.map nm) (namesOf (n + 1)) (List.Pairwise.map nm (fun a b h e => h (nm_inj e)) (HL.out.rise.imp fun h => fun e => by rw [e] at h; exact absurd h (UInt8.lt_irrefl _))) fun x hx => by
           obtain ⟨a, ha, rfl⟩ := List.mem_map.1 hx
           obtain ⟨j, hj, rfl⟩ := HL.out.mem a ha
           exact namesOf_mem.2 ⟨j, by omega, rfl⟩
          rw [List.length_map, namesOf_len] at h3
          omega
         go_upto_region 21 with (fail)
         ·go_wp2_with (at_builtin; refine wpList_append_own2 rfl _ _ 26 26 rfl 9 i0 _ 1 16 Tryz.underlying26 hi hi0 hi1 hi2' rfl W2.heap.size _ _ _ rfl _ rfl 1 (svs [nm (fb n)]) ?c1 (hsl.alloc _) ?c2 ?c3 ?c4 ?_)
          case c1 => simp; omega
          case c2 => exact Src.ofSl Tryz.underlying26 (Sl.of_new wr 0 (Nat.zero_le _) 9 1 1 [.string ⟨#[fb n, 45, 49]⟩] rfl (by simp [maxLen])) (by intro u hu; simp only [svs, sv, List.map, List.mem_cons, List.not_mem_nil, or_false] at hu; subst hu; rfl)
          case c3 => unfold maxLen; omega
          case c4 => omega
          intro ao cc w8 hs8 hk8 hkk8 hb8
          have HL8 := Lib.hid (HL.out.push h10 (Nat.le_refl n) (hf.symm.trans hfc)).next
          have HR8 : Hid (Sl w8 W2.heap.size 9 1 (.slice ao (cs.length + 1) cc) (cs ++ [fb n]).length (svs ((cs ++ [fb n]).map nm))) := by
           show Sl _ _ _ _ _ _ _
           simpa [svs] using hs8
          have HK8 : Hid (Keeps Non W2 w8) := (HK.out.alloc _).trans hkk8 fun j hj => .inr (hsl.own j hj).1
          clear hs8 hk8 hkk8 hb8 hsl HL HR HK hi hi0 hi1 hi2' hf hfc
          go_wp2_with fail
          go_roundg (123 - (c + 1))
          case measure => omega
          case rel => exact ⟨c + 1, cs ++ [fb n], rfl, by omega, by omega, by go_num, HL8, HR8, HK8⟩
         ·go_wp2_with fail
          go_roundg (123 - (c + 1))
          case measure => omega
          case rel => exact ⟨c + 1, cs, rfl, by omega, by omega, by go_num, HL.out.next, HR, HK⟩
        ·have hb0 : ((f : Int) == (c : Int)) = false := by rw [beq_eq_false_iff_ne]; omega
         go_wp2_with fail
         go_roundg (123 - (c + 1))
         case measure => omega
         case rel => exact ⟨c + 1, cs, rfl, by omega, by omega, by go_num, HL.out.next, HR, HK⟩
     ·have d3 : decide ((c : Int) ≤ 122) = false := by simp; omega
      go_upto_region 22 with (fail)
      obtain ⟨ra, rc, rfl, hrc1, hrc2⟩ := HR.out.shape
      have HS3 := Lib.hid (HS2.out.non HK.out)
      have cx := HS3.out.box.cell 0
      simp only [List.getElem?_toArray, List.getElem?_cons_zero] at cx
      unfold pv at cx
      have hcl : cs.length ≤ 11 := by
       have h3 := nodup_len (cs.map nm) (namesOf (n + 1)) (List.Pairwise.map nm (fun a b h e => h (nm_inj e)) (HL.out.rise.imp fun h => fun e => by rw [e] at h; exact absurd h (UInt8.lt_irrefl _))) fun x hx => by
        obtain ⟨a, ha, rfl⟩ := List.mem_map.1 hx
        obtain ⟨j, hj, rfl⟩ := HL.out.mem a ha
        exact namesOf_mem.2 ⟨j, by omega, rfl⟩
       rw [List.length_map, namesOf_len] at h3
       omega
      have HINS : Hid (∀ (wx : World) (vg : Value) (lg : List Node), Grown lg → Rd wx 3 vg lg.length (nodeCells lg) → Keeps Non wr wx → Calls Tryz.prog 24 #[.pointer (some ⟨st, 0, none⟩), .string ⟨#[fb n, 45, 49]⟩, vg, .slice ra cs.length rc] wx fun ed w' =>
       (ed = .returned (.int .i64 0) ∧ (∃ F', StoreAt w' F' st (putE L ⟨nm (fb n), lg, cs.map nm⟩) ∧ ∀ k, F' k → F k ∨ (wx.heap.size ≤ k ∧ k < w'.heap.size)) ∧ Keeps F wx w')) := fun wx vg lg hg hrd hk => by
       have h1 := (HFI.out.step h10 hg.good HL.out.rise HL.out.mem).1
       have h2 := insert_any wx (HS3.out.store.non hk) (HT.out.keeps (HS3.out.keeps.trans hk fun _ h => h.elim)) ⟨#[fb n, 45, 49]⟩ (by show 3 ≤ _; omega) lg vg hrd hg.small.1 (by have := hg.small.2; omega) (cs.map nm) (.slice ra cs.length rc) (by rw [List.length_map]; exact HR.out.rd.non hk) (by rw [List.length_map]; omega) (fun r hr => by
        obtain ⟨a, ha, rfl⟩ := List.mem_map.1 hr
        show 3 ≤ _
        omega)
       have h3 : (⟨#[fb n, 45, 49]⟩ : ByteArray).data.toList = nm (fb n) := rfl
       rw [h3, h1] at h2
       exact h2
      have HPE : Hid (Pend w wr F (.slice na n nc) (.slice ra cs.length rc) (cs.map nm)) := HS2.out.pend HK.out (by rw [List.length_map]; exact HR.out)
      go_cut [108] (fun v wx => v = .bool false ∧ ∃ (F' : Nat → Prop) (lg : List Node), Grown lg ∧ Hid (SSt w wx F' st xb (putE L ⟨nm (fb n), lg, cs.map nm⟩) (namesOf n) RR (.slice na n nc) u8 xs) ∧ Hid (Pend w wx F' (.slice na n nc) (.slice ra cs.length rc) (cs.map nm)))
      case first =>
       have e2 : (0 : Int) ≤ (i : Int) + 1 := by omega
       have e3 : ((i : Int) + 1).toNat = i + 1 := by omega
       have e4 : (i : Int) + 1 < (s.size : Int) := by omega
       obtain ⟨d, hd⟩ : ∃ d : Nat, ((s[i + 1].toNat : Int) % 30) = (d : Int) := ⟨s[i + 1].toNat % 30, by omega⟩
       have hd29 : d ≤ 29 := by omega
       have hdt : (s[i + 1].toNat : Int).tmod 30 = (d : Int) := by rw [Int.tmod_eq_emod_of_nonneg (by omega)]; exact hd
       have e11 : IntKind.i64.wrap (d : Int) = (d : Int) := IntWalk.i64_in _ (by omega)
       have e5 : IntKind.i64.wrap ((i : Int) + (d : Int)) = (i : Int) + (d : Int) := IntWalk.i64_in _ (by omega)
       obtain ⟨m, hm⟩ : ∃ m : Nat, min (s.size : Int) ((i : Int) + (d : Int)) = (m : Int) := ⟨min s.size (i + d), by omega⟩
       have hm1 : i ≤ m := by omega
       have hm2 : m ≤ s.size := by omega
       have e6 : (i : Int) ≤ (m : Int) := by omega
       have e7 : (m : Int) ≤ (s.size : Int) := by omega
       have e8 : IntKind.i64.wrap (m : Int) = (m : Int) := IntWalk.i64_in _ (by omega)
       have e9 : IntKind.i64.wrap (i : Int) = (i : Int) := IntWalk.i64_in _ (by omega)
       have e10 : (0 : Int) ≤ (i : Int) := by omega
       have HG : Hid (∀ k : Nat, Calls Tryz.prog 34 #[.string (s.extract i m)] (wr.drewN k) (GrownPost (wr.drewN k))) := fun k => grown_any _ _ (by rw [ByteArray.size_extract]; omega)
       go_region_with (first
        | (go_at_call 34; refine (HG.out _).mono ?_; rintro ed w9 ⟨vg, lg, rfl, hg9, hs9, hk9⟩; obtain ⟨ga, gc, rfl, -, -⟩ := hs9.shape; have cx9 : w9.cell? ⟨xb, 0, none⟩ = some (.pointer (some ⟨st, 0, none⟩)) := (HS3.out.box.keeps hk9.of_drewN (fun h => h)).cell 0)
        | (go_at_call 24; refine (HINS.out _ _ _ hg9 (by first | exact hs9.rd | exact hs9.rd.non ((Keeps.refl _ _).drewN _)) (by first | exact hk9.of_drewN | exact hk9.of_drewN.drewN _)).mono ?_; rintro ed w10 ⟨rfl, hst10, hk10⟩))
       all_goals (go_wp2_with fail)
       all_goals go_meet
       all_goals (
        have hk9' : Keeps Non wr w9 := hk9.of_drewN
        obtain ⟨F', hst, hF'⟩ := hst10
        have h5 := HS3.out.non hk9'
        have h6 := HPE.out.non hk9'
        exact ⟨rfl, F', lg, hg9, h5.ins hst hF' hk10, h6.ins hF' hk10⟩)
      case rest =>
       obtain ⟨rfl, F', lg, hg, HS9, HP9⟩ := hcut
       obtain ⟨va, vc, rfl, -, -⟩ := HS9.out.outer.shape
       have HFN := Lib.hid (HFI.out.step h10 hg.good HL.out.rise HL.out.mem).2
       have hrr : RR.length ≤ 10 := by rw [HFI.out.rr]; omega
       obtain ⟨i0, hi, hi0, hi1, hi2'⟩ := info_parts infoStr
       obtain ⟨i1, hj, hj0, hj1, hj2⟩ := info_parts infoStrs
       have hsl := HS9.out.names
       rw [hnl] at hsl
       have hsz := HS9.out.keeps.size
       have HTG2 : Hid (∀ e ∈ putE L ⟨nm (fb n), lg, cs.map nm⟩, TreeG e.tree) := fun e he => by
        rcases putE_mem.1 he with rfl | he
        ·exact hg.root
        ·exact HTG.out e he
       clear HFI HINS HS3 HS2 HL HR HK HPE hg cx
       go_wp2_with (at_builtin; refine wpList_append_own2 rfl _ _ 26 26 rfl 9 i0 _ 1 16 Tryz.underlying26 hi hi0 hi1 hi2' rfl w.heap.size _ _ _ rfl _ rfl 1 (svs [nm (fb n)]) ?c1 (hsl.alloc _) ?c2 ?c3 ?c4 ?_)
       case c1 => simp; omega
       case c2 => exact Src.ofSl Tryz.underlying26 (Sl.of_new wc 0 (Nat.zero_le _) 9 1 1 [.string ⟨#[fb n, 45, 49]⟩] rfl (by simp [maxLen])) (by intro u hu; simp only [svs, sv, List.map, List.mem_cons, List.not_mem_nil, or_false] at hu; subst hu; rfl)
       case c3 => unfold maxLen; omega
       case c4 => omega
       intro ao cc w8 hs8 hk8 hkk8 hb8
       have hboth := HS9.out.name (x := nm (fb n)) HP9.out (by rw [hnl]; exact hs8) hkk8 (by simpa using hb8)
       have HS8 := Lib.hid hboth.1
       have HP8 := Lib.hid hboth.2
       clear hboth hs8 hk8 hkk8 hb8 hsl hsz HS9 HP9 hi hi0 hi1 hi2'
       have hsl := HS8.out.outer
       have hsz := HS8.out.keeps.size
       go_wp2_with (at_builtin; refine wpList_append_own2 rfl _ _ 27 27 rfl 26 i1 _ 1 24 Tryz.underlying27 hj hj0 hj1 hj2 rfl w.heap.size _ _ _ rfl _ rfl 1 [.slice ra cs.length rc] ?c1 (hsl.alloc _) ?c2 ?c3 ?c4 ?_)
       case c1 => simp; omega
       case c2 => exact Src.ofSl Tryz.underlying27 (Sl.of_new w8 0 (Nat.zero_le _) 26 1 1 [.slice ra cs.length rc] rfl (by simp [maxLen])) (by intro u hu; simp only [List.mem_cons, List.not_mem_nil, or_false] at hu; subst hu; rfl)
       case c3 => unfold maxLen; omega
       case c4 => omega
       intro bo bc w9 hs9 hk9 hkk9 hb9
       have HS10 := Lib.hid (HS8.out.ref HP8.out hs9 hkk9 (by simpa using hb9))
       rw [← namesOf_succ] at HS10
       have HI : Hid (i + 2 = 2 * (n + 1)) := by have := hi2.out; show _ = _; omega
       clear hs9 hk9 hkk9 hb9 hsl hsz HS8 HP8 hj hj0 hj1 hj2
       go_wp2_with fail
       go_roundg (11 - (n + 1))
       case measure => omega
       case rel => exact ⟨n + 1, i + 2, F', _, _, _, rfl, by omega, HI, by omega, by go_num, HFN, HS10, HTG2⟩
   ·have d2 : decide ((n : Int) < 10) = false := by simp; omega
    have h0 : Hid (0 < n) := by show _ < _; omega
    obtain ⟨va, vc, rfl, -, -⟩ := HS.out.outer.shape
    go_wp2_with fail
    refine bodyPost_ret (v := .tuple #[.pointer (some ⟨xb, 0, none⟩), .slice na n nc, .slice va RR.length vc, .bool true]) (by simp [results, Tryz.results16, go_sem]) rfl ?_
    exact ⟨n, xb, st, F, L, RR, _, _, xs, rfl, h0.out, HFI.out, HS.out, HTG.out⟩
  ·have d1 : decide ((i : Int) + 1 < (s.size : Int)) = false := by simp; omega
   have h0 : Hid (0 < n) := by have := hi2.out; show _ < _; omega
   obtain ⟨va, vc, rfl, -, -⟩ := HS.out.outer.shape
   go_wp2_with fail
   refine bodyPost_ret (v := .tuple #[.pointer (some ⟨xb, 0, none⟩), .slice na n nc, .slice va RR.length vc, .bool true]) (by simp [results, Tryz.results16, go_sem]) rfl ?_
   exact ⟨n, xb, st, F, L, RR, _, _, xs, rfl, h0.out, HFI.out, HS.out, HTG.out⟩
end Go.Proofs.YtdkogijdfgfpeaaGreatDoor
