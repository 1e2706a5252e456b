/- narkeep.stored: what lies in memory. -/
import Derived.Test.YtohbjbicmgnblaaDoorChecked
import Derived.Test.YtohbjbicmgnblaaDoorStoredP
import Derived.Test.YtohbjbicmgnblaaDoorClosW
namespace Go.Proofs.YtohbjbicmgnblaaDoor
open Go Go.RowKit
set_option linter.unusedVariables false

theorem Sl.nebT {w : World} {B b : Nat} {E T : TypeId} {size : Nat} {c0 : Array Value} {v : Value} {n : Nat} {xs : List Value} (h : Sl w B E size v n xs) (hb0 : Blk w b c0 T) (hne : T ≠ E) : v.ownBlock ≠ some b := fun e => by
  obtain ⟨c, hc⟩ := h.cells e
  exact hne (hb0.inj hc).2
/-- a list of references that lies apart from the store and the names -/
structure Pend (w wr : World) (F : Nat → Prop) (vn v : Value) (r : List (List UInt8)) : Prop where
  sl : Sl wr w.heap.size 9 1 v r.length (svs r)
  own : ∀ b, v.ownBlock = some b → ¬ F b ∧ vn.ownBlock ≠ some b
/-- a store with its names and their references -/
structure SSt (w wr : World) (F : Nat → Prop) (st xb : Nat) (L : Ents) (NL : List (List UInt8)) (RR : List (List (List UInt8))) (vn vr : Value) (xs : List Value) : Prop where
  store : StoreAt wr F st L
  box : Blk wr xb #[pv st] 40
  names : Sl wr w.heap.size 9 1 vn NL.length (svs NL)
  outer : Sl wr w.heap.size 31 1 vr RR.length xs
  items : ∀ (i : Nat) (v : Value) (r : List (List UInt8)), xs[i]? = some v → RR[i]? = some r → Pend w wr F vn v r
  keeps : Keeps Non w wr
  fown : ∀ k, F k → w.heap.size ≤ k
  xown : w.heap.size ≤ xb ∧ ¬ F xb
  nF : ∀ b, vn.ownBlock = some b → ¬ F b
  rF : ∀ b, vr.ownBlock = some b → ¬ F b
section
variable {w wr w1 : World} {F F' : Nat → Prop} {st xb : Nat} {L L' : Ents} {NL r : List (List UInt8)} {RR : List (List (List UInt8))} {vn vr v : Value} {xs : List Value}
theorem Pend.keeps {S : Nat → Prop} (h : Pend w wr F vn v r) (k : Keeps S wr w1) (hs : ∀ b, v.ownBlock = some b → ¬ S b) : Pend w w1 F vn v r := ⟨h.sl.keep fun b c hb _ hbk => hbk.keeps k (hs b hb), h.own⟩
theorem Pend.non (h : Pend w wr F vn v r) (k : Keeps Non wr w1) : Pend w w1 F vn v r := h.keeps k fun _ _ h => h
theorem SSt.non (h : SSt w wr F st xb L NL RR vn vr xs) (k : Keeps Non wr w1) : SSt w w1 F st xb L NL RR vn vr xs :=
  ⟨h.store.non k, h.box.keeps k fun h => h, h.names.keep fun b c _ _ hb => hb.keeps k fun h => h, h.outer.keep fun b c _ _ hb => hb.keeps k fun h => h, fun i v r hx hr => (h.items i v r hx hr).non k, h.keeps.trans k fun _ h => h.elim, h.fown, h.xown, h.nF, h.rF⟩
/-- a list that has just been made -/
theorem SSt.pend (h : SSt w wr F st xb L NL RR vn vr xs) (k : Keeps Non wr w1) (hs : Sl w1 wr.heap.size 9 1 v r.length (svs r)) : Pend w w1 F vn v r := by
  refine ⟨hs.mono h.keeps.size, fun b hb => ?_⟩
  have h1 := (hs.own b hb).1
  refine ⟨fun hF => ?_, fun hn => ?_⟩
  · have := h.store.lt b hF; omega
  · have := (h.names.own b hn).2; omega
theorem Pend.ins (h : Pend w wr F vn v r) (hF : ∀ k, F' k → F k ∨ (wr.heap.size ≤ k ∧ k < w1.heap.size)) (k : Keeps F wr w1) : Pend w w1 F' vn v r :=
  ⟨h.sl.keep fun b c hb _ hbk => hbk.keeps k (h.own b hb).1, fun b hb => ⟨fun hb2 => by
    rcases hF b hb2 with h2 | h2
    · exact (h.own b hb).1 h2
    · have := (h.sl.own b hb).2
      omega, (h.own b hb).2⟩⟩
/-- the store has turned -/
theorem SSt.ins (h : SSt w wr F st xb L NL RR vn vr xs) (hs : StoreAt w1 F' st L') (hF : ∀ k, F' k → F k ∨ (wr.heap.size ≤ k ∧ k < w1.heap.size)) (k : Keeps F wr w1) : SSt w w1 F' st xb L' NL RR vn vr xs := by
  have hout : ∀ b, b < wr.heap.size → ¬ F b → ¬ F' b := fun b hb hn hb2 => by
    rcases hF b hb2 with h2 | h2
    · exact hn h2
    · omega
  refine ⟨hs, h.box.keeps k h.xown.2, h.names.keep fun b c hb _ hbk => hbk.keeps k (h.nF b hb), h.outer.keep fun b c hb _ hbk => hbk.keeps k (h.rF b hb), fun i v r hx hr => (h.items i v r hx hr).ins hF k, h.keeps.trans k fun j hj => .inr (h.fown j hj), fun j hj => ?_, ⟨h.xown.1, hout _ h.box.lt h.xown.2⟩, fun b hb => hout b (h.names.own b hb).2 (h.nF b hb), fun b hb => hout b (h.outer.own b hb).2 (h.rF b hb)⟩
  rcases hF j hj with h2 | h2
  · exact h.fown j h2
  · exact Nat.le_trans h.keeps.size h2.1
/-- a name more -/
theorem SSt.name {nv p : Value} {x : List UInt8} {o : Obj} {s : List (List UInt8)} (h : SSt w wr F st xb L NL RR vn vr xs) (hp : Pend w wr F vn p s) (hs : Sl w1 w.heap.size 9 1 nv (NL.length + 1) (svs NL ++ [sv x])) (k : Keeps (OwnOf vn) (wr.alloc o) w1)
    (hb1 : nv.ownBlock = vn.ownBlock ∨ nv.ownBlock = some (wr.heap.size + 1)) : SSt w w1 F st xb L (NL ++ [x]) RR nv vr xs ∧ Pend w w1 F nv p s := by
  have hk : Keeps (OwnOf vn) wr w1 := ((Keeps.refl (OwnOf vn) wr).alloc o).trans k fun j hj => .inl hj
  have hpend : ∀ {v r}, Pend w wr F vn v r → Pend w w1 F nv v r := fun {v r} hp => by
    have h1 := hp.keeps hk fun b hb e => (hp.own b hb).2 e
    refine ⟨h1.sl, fun b hb => ⟨(hp.own b hb).1, fun e => ?_⟩⟩
    rcases hb1 with h2 | h2
    · rw [h2] at e
      exact (hp.own b hb).2 e
    · rw [h2] at e
      cases e
      have := (hp.sl.own _ hb).2
      omega
  refine ⟨⟨h.store.keeps hk fun b hb e => h.nF b e hb, h.box.keeps hk fun e => h.names.nebT h.box (by decide) e, by simpa [svs] using hs, h.outer.keep fun b c hb _ hbk => hbk.keeps hk fun e => h.names.nebT hbk (by decide) e, fun i v r hx hr => hpend (h.items i v r hx hr), h.keeps.trans hk fun j hj => .inr (h.names.own j hj).1, h.fown, h.xown, fun b hb hF => ?_, h.rF⟩, hpend hp⟩
  rcases hb1 with h2 | h2
  · rw [h2] at hb
    exact h.nF b hb hF
  · rw [h2] at hb
    cases hb
    have := h.store.lt _ hF
    omega
/-- a list of references more -/
theorem SSt.ref {nv : Value} {o : Obj} (h : SSt w wr F st xb L NL RR vn vr xs) (hp : Pend w wr F vn v r) (hs : Sl w1 w.heap.size 31 1 nv (RR.length + 1) (xs ++ [v])) (k : Keeps (OwnOf vr) (wr.alloc o) w1)
    (hb1 : nv.ownBlock = vr.ownBlock ∨ nv.ownBlock = some (wr.heap.size + 1)) : SSt w w1 F st xb L NL (RR ++ [r]) vn nv (xs ++ [v]) := by
  have hk : Keeps (OwnOf vr) wr w1 := ((Keeps.refl (OwnOf vr) wr).alloc o).trans k fun j hj => .inl hj
  have hxl : xs.length = RR.length := by have := h.outer.len; omega
  have hpend : ∀ {v r}, Pend w wr F vn v r → Pend w w1 F vn v r := fun {v r} hp => by
    refine hp.keeps hk fun b hb e => ?_
    obtain ⟨c, hc⟩ := hp.sl.cells hb
    exact h.outer.nebT hc (by decide) e
  refine ⟨h.store.keeps hk fun b hb e => h.rF b e hb, h.box.keeps hk fun e => h.outer.nebT h.box (by decide) e, h.names.keep fun b c hb _ hbk => hbk.keeps hk fun e => h.outer.nebT hbk (by decide) e, by simpa using hs, fun i v' r' hx hr => ?_, h.keeps.trans hk fun j hj => .inr (h.outer.own j hj).1, h.fown, h.xown, h.nF, fun b hb hF => ?_⟩
  · by_cases hi : i < xs.length
    · rw [List.getElem?_append_left hi] at hx
      rw [List.getElem?_append_left (by omega)] at hr
      exact hpend (h.items i v' r' hx hr)
    · have hi2 : i = xs.length := by
        have : i < (xs ++ [v]).length := (List.getElem?_eq_some_iff.1 hx).1
        simp at this
        omega
      rw [hi2, List.getElem?_append_right (Nat.le_refl _), Nat.sub_self] at hx
      rw [hi2, hxl, List.getElem?_append_right (Nat.le_refl _), Nat.sub_self] at hr
      simp only [List.getElem?_cons_zero, Option.some.injEq] at hx hr
      subst hx hr
      exact hpend hp
  · rcases hb1 with h2 | h2
    · rw [h2] at hb
      exact h.rF b hb hF
    · rw [h2] at hb
      cases hb
      have := h.store.lt _ hF
      omega
end
end Go.Proofs.YtohbjbicmgnblaaDoor
