/- Memory, told block by block: what a world keeps, what a block holds, what a slice holds; append, store and slicing over these. No program in sight. -/
import Derived.Test.YtdkogijdfgfpeaaGreatDoorChecked
import Derived.WalkKit
import Derived.WalkSpells
import Derived.WalkLawsBesides
import Derived.Deep.AppendSrc
import Derived.Deep.Draws
import Derived.Laws.BytesArg
set_option linter.unusedVariables false
namespace Go.Proofs.YtdkogijdfgfpeaaGreatDoor
open Go Go.RowKit
structure Keeps (S : Nat → Prop) (w w' : World) : Prop where
 os : w'.os = w.os
 tape : w'.tape = w.tape
 output : w'.output = w.output
 size : w.heap.size ≤ w'.heap.size
 block : ∀ k, k < w.heap.size → ¬ S k → w'.heap[k]? = w.heap[k]?
def Non : Nat → Prop := fun _ => False
def One (b : Nat) : Nat → Prop := fun k => k = b
def OwnOf (v : Value) : Nat → Prop := fun k => v.ownBlock = some k
theorem Keeps.refl (S : Nat → Prop) (w : World) : Keeps S w w := ⟨rfl, rfl, rfl, Nat.le_refl _, fun _ _ _ => rfl⟩
theorem Keeps.trans {S S' : Nat → Prop} {a b c : World} (h : Keeps S a b) (k : Keeps S' b c) (hs : ∀ k, S' k → S k ∨ a.heap.size ≤ k) : Keeps S a c :=
 ⟨k.os.trans h.os, k.tape.trans h.tape, k.output.trans h.output, Nat.le_trans h.size k.size, fun i hi hn =>
  (k.block i (Nat.lt_of_lt_of_le hi h.size) (fun hS => by rcases hs i hS with h1 | h1; exact hn h1; omega)).trans (h.block i hi hn)⟩
theorem Keeps.mono {S S' : Nat → Prop} {a b : World} (h : Keeps S a b) (hs : ∀ k, k < a.heap.size → S k → S' k) : Keeps S' a b :=
 ⟨h.os, h.tape, h.output, h.size, fun k hk hn => h.block k hk (fun hS => hn (hs k hk hS))⟩
theorem Keeps.alloc {S : Nat → Prop} {a w : World} (h : Keeps S a w) (o : Obj) : Keeps S a (w.alloc o) :=
 h.trans (S' := Non) ⟨rfl, rfl, rfl, by simp, fun k hk _ => Below.heap_alloc _ _ _ hk⟩ (fun _ h => h.elim)
theorem Keeps.setCell {S : Nat → Prop} {a w : World} (h : Keeps S a w) (p : Addr) (u : Value) (hp : S p.block ∨ a.heap.size ≤ p.block) : Keeps S a (w.setCell p u) :=
 h.trans (S' := One p.block) ⟨rfl, rfl, rfl, by simp [World.setCell], fun k _ hn => Below.heap_setCell _ _ _ _ hn⟩ (fun k hk => by cases hk; exact hp)
theorem Keeps.drew {S : Nat → Prop} {a w : World} (h : Keeps S a w) : Keeps S a w.drew := ⟨h.os, h.tape, h.output, h.size, h.block⟩
theorem Keeps.drewN {S : Nat → Prop} {a w : World} (h : Keeps S a w) (n : Nat) : Keeps S a (w.drewN n) := ⟨h.os, h.tape, h.output, h.size, h.block⟩
theorem Keeps.of_drewN {S : Nat → Prop} {a w : World} {n : Nat} (h : Keeps S (a.drewN n) w) : Keeps S a w := ⟨h.os, h.tape, h.output, h.size, h.block⟩
theorem Keeps.below {S : Nat → Prop} {a b : World} {B : Nat} (h : Keeps S a b) (hB : B ≤ a.heap.size) (hs : ∀ k, k < B → ¬ S k) : Below B a b :=
 ⟨h.os, h.tape, h.output, h.size, fun k hk => h.block k (by omega) (hs k hk)⟩
theorem Keeps.of_below {S : Nat → Prop} {a b : World} {B : Nat} (h : Below B a b) (hs : ∀ k, k < a.heap.size → ¬ S k → k < B) : Keeps S a b :=
 ⟨h.os, h.tape, h.output, h.size, fun k hk hn => h.block k (hs k hk hn)⟩
def Blk (w : World) (b : Nat) (c : Array Value) (T : TypeId) : Prop := w.heap[b]? = some (.cells c T (0, 0))
theorem Blk.lt {w : World} {b : Nat} {c : Array Value} {T : TypeId} (h : Blk w b c T) : b < w.heap.size := by
 unfold Blk at h
 rcases Nat.lt_or_ge b w.heap.size with h' | h'
 ·exact h'
 ·rw [Array.getElem?_eq_none h'] at h; cases h
theorem Blk.cell {w : World} {b : Nat} {c : Array Value} {T : TypeId} (h : Blk w b c T) (i : Nat) : w.cell? ⟨b, i, none⟩ = c[i]? := by
 unfold Blk at h; simp [World.cell?, h]
theorem Blk.free {w : World} {b : Nat} {c : Array Value} {T : TypeId} (h : Blk w b c T) (i : Nat) : w.frozen? ⟨b, i, none⟩ = false := by
 unfold Blk at h; simp [World.frozen?, h]
theorem Blk.keeps {S : Nat → Prop} {w w' : World} {b : Nat} {c : Array Value} {T : TypeId} (h : Blk w b c T) (k : Keeps S w w') (hn : ¬ S b) : Blk w' b c T :=
 (k.block b h.lt hn).trans h
theorem Blk.below {w w' : World} {B b : Nat} {c : Array Value} {T : TypeId} (h : Blk w b c T) (k : Below B w w') (hn : b < B) : Blk w' b c T :=
 (k.block b hn).trans h
theorem Blk.alloc {w : World} {b : Nat} {c : Array Value} {T : TypeId} (h : Blk w b c T) (o : Obj) : Blk (w.alloc o) b c T :=
 (Below.heap_alloc _ _ _ h.lt).trans h
theorem Blk.new (w : World) (c : Array Value) (T : TypeId) : Blk (w.alloc (.cells c T)) w.heap.size c T := heap_alloc_new w _
theorem Blk.drew {w : World} {b : Nat} {c : Array Value} {T : TypeId} (h : Blk w b c T) : Blk w.drew b c T := h
theorem Blk.drewN {w : World} {b : Nat} {c : Array Value} {T : TypeId} (h : Blk w b c T) (n : Nat) : Blk (w.drewN n) b c T := h
theorem Blk.set {w : World} {b : Nat} {c : Array Value} {T : TypeId} (h : Blk w b c T) (i : Nat) (v : Value) : Blk (w.setCell ⟨b, i, none⟩ v) b (c.setIfInBounds i v) T := by
 unfold Blk at *
 simp [World.setCell, Array.getElem?_modify, h]
theorem Blk.set_ne {w : World} {b : Nat} {c : Array Value} {T : TypeId} (h : Blk w b c T) (p : Addr) (v : Value) (hn : b ≠ p.block) : Blk (w.setCell p v) b c T :=
 (Below.heap_setCell _ _ _ _ hn).trans h
theorem Blk.inj {w : World} {b : Nat} {c c' : Array Value} {T T' : TypeId} (h : Blk w b c T) (h' : Blk w b c' T') : c = c' ∧ T = T' := by
 unfold Blk at *; rw [h] at h'; cases h'; exact ⟨rfl, rfl⟩
theorem Blk.setCells {w : World} {b : Nat} {T : TypeId} : ∀ (vs : List Value) (o : Nat) (w : World) (c : Array Value), Blk w b c T →
 ∃ c', Blk (w.setCells b o vs) b c' T ∧ c'.size = c.size ∧ (∀ j, (j < o ∨ o + vs.length ≤ j) → c'[j]? = c[j]?) ∧ (o + vs.length ≤ c.size → ∀ j, j < vs.length → c'[o + j]? = vs[j]?)
 | [], _, _, c, h => ⟨c, h, rfl, fun _ _ => rfl, fun _ j hj => by simp at hj⟩
 | v :: r, o, w, c, h => by
   obtain ⟨c', h1, h2, h3, h4⟩ := Blk.setCells (w := w) r (o + 1) _ _ (h.set o v)
   refine ⟨c', h1, by simpa using h2, fun j hj => ?_, fun hl j hj => ?_⟩
   ·rw [h3 j (by simp at hj; omega)]
    have : o ≠ j := by simp at hj; omega
    simp [Array.getElem?_setIfInBounds_ne this]
   ·simp only [List.length_cons] at hl hj
    cases j with
    | zero =>
      rw [h3 (o + 0) (by omega)]
      simp [Array.getElem?_setIfInBounds]
      omega
    | succ j =>
      have := h4 (by simp; omega) j (by omega)
      rw [show o + (j + 1) = o + 1 + j by omega, this]
      simp
theorem Keeps.setCells {S : Nat → Prop} {a : World} {b : Nat} (hb : S b ∨ a.heap.size ≤ b) : ∀ (vs : List Value) (o : Nat) (w : World), Keeps S a w → Keeps S a (w.setCells b o vs)
 | [], _, _, h => h
 | _ :: r, o, w, h => Keeps.setCells hb r (o + 1) _ (h.setCell ⟨b, o, none⟩ _ hb)
structure Kp (B : Nat) (Ts : List TypeId) (w w' : World) : Prop where
 os : w'.os = w.os
 tape : w'.tape = w.tape
 output : w'.output = w.output
 size : w.heap.size ≤ w'.heap.size
 block : ∀ k, k < w.heap.size → w'.heap[k]? = w.heap[k]? ∨ (B ≤ k ∧ ∃ c c' T, T ∈ Ts ∧ Blk w k c T ∧ Blk w' k c' T)
theorem Kp.refl (B : Nat) (Ts : List TypeId) (w : World) : Kp B Ts w w := ⟨rfl, rfl, rfl, Nat.le_refl _, fun _ _ => .inl rfl⟩
theorem Kp.trans' {B B' : Nat} {Ts Ts' : List TypeId} {a b c : World} (h : Kp B Ts a b) (k : Kp B' Ts' b c) (hB : a.heap.size ≤ B' ∨ (B ≤ B' ∧ ∀ T ∈ Ts', T ∈ Ts)) : Kp B Ts a c := by
 refine ⟨k.os.trans h.os, k.tape.trans h.tape, k.output.trans h.output, Nat.le_trans h.size k.size, fun i hi => ?_⟩
 have hi' := Nat.lt_of_lt_of_le hi h.size
 rcases k.block i hi' with e | ⟨hb, x, x', T, hT, b1, b2⟩
 ·rcases h.block i hi with e1 | ⟨hb1, y, y', T1, hT1, c1, c2⟩
  ·exact .inl (e.trans e1)
  ·exact .inr ⟨hb1, y, y', T1, hT1, c1, e.trans c2⟩
 ·rcases hB with hB | ⟨hB, hsub⟩
  ·omega
  ·rcases h.block i hi with e1 | ⟨hb1, y, y', T1, hT1, c1, c2⟩
   ·exact .inr ⟨by omega, x, x', T, hsub T hT, e1.symm.trans b1, b2⟩
   ·obtain ⟨-, rfl⟩ := b1.inj c2
    exact .inr ⟨hb1, y, x', T, hT1, c1, b2⟩
theorem Kp.trans {B : Nat} {Ts : List TypeId} {a b c : World} (h : Kp B Ts a b) (k : Kp B Ts b c) : Kp B Ts a c := h.trans' k (.inr ⟨Nat.le_refl _, fun _ h => h⟩)
theorem Kp.mono {B B' : Nat} {Ts Ts' : List TypeId} {a b : World} (h : Kp B' Ts' a b) (hB : a.heap.size ≤ B' ∨ (B ≤ B' ∧ ∀ T ∈ Ts', T ∈ Ts)) : Kp B Ts a b := (Kp.refl B Ts a).trans' h hB
theorem Kp.of_keeps {B : Nat} {Ts : List TypeId} {a b : World} (h : Keeps Non a b) : Kp B Ts a b := ⟨h.os, h.tape, h.output, h.size, fun k hk => .inl (h.block k hk (fun h => h))⟩
theorem Kp.alloc {B : Nat} {Ts : List TypeId} {a w : World} (h : Kp B Ts a w) (o : Obj) : Kp B Ts a (w.alloc o) := h.trans (Kp.of_keeps ((Keeps.refl _ _).alloc o))
theorem Kp.drew {B : Nat} {Ts : List TypeId} {a w : World} (h : Kp B Ts a w) : Kp B Ts a w.drew := ⟨h.os, h.tape, h.output, h.size, h.block⟩
theorem Kp.drewN {B : Nat} {Ts : List TypeId} {a w : World} (h : Kp B Ts a w) (n : Nat) : Kp B Ts a (w.drewN n) := ⟨h.os, h.tape, h.output, h.size, h.block⟩
theorem Kp.of_drewN {B : Nat} {Ts : List TypeId} {a w : World} {n : Nat} (h : Kp B Ts (a.drewN n) w) : Kp B Ts a w := ⟨h.os, h.tape, h.output, h.size, h.block⟩
theorem Kp.set {B : Nat} {Ts : List TypeId} {a w : World} (h : Kp B Ts a w) {b : Nat} {c : Array Value} {T : TypeId} (hb : Blk w b c T) (hB : a.heap.size ≤ b ∨ (B ≤ b ∧ T ∈ Ts)) (i : Nat) (v : Value) : Kp B Ts a (w.setCell ⟨b, i, none⟩ v) := by
 refine h.trans' (B' := b) (Ts' := [T]) ⟨rfl, rfl, rfl, by simp [World.setCell], fun k hk => ?_⟩ (by rcases hB with hB | ⟨hB, hT⟩; exact .inl hB; exact .inr ⟨hB, fun T' h => by simp at h; rw [h]; exact hT⟩)
 by_cases e : k = b
 ·subst e; exact .inr ⟨Nat.le_refl _, c, _, T, by simp, hb, hb.set i v⟩
 ·exact .inl (Below.heap_setCell _ _ _ _ e)
theorem Kp.below {B : Nat} {Ts : List TypeId} {a b : World} (h : Kp B Ts a b) (hB : B ≤ a.heap.size) : Below B a b :=
 ⟨h.os, h.tape, h.output, h.size, fun k hk => by rcases h.block k (by omega) with e | ⟨hb, _⟩; exact e; omega⟩
theorem Kp.keeps {B : Nat} {Ts : List TypeId} {a b : World} (h : Kp B Ts a b) (hB : a.heap.size ≤ B) : Keeps Non a b :=
 ⟨h.os, h.tape, h.output, h.size, fun k hk _ => by rcases h.block k hk with e | ⟨hb, _⟩; exact e; omega⟩
theorem Blk.kp {w w' : World} {b : Nat} {c : Array Value} {T : TypeId} (h : Blk w b c T) {B : Nat} {Ts : List TypeId} (k : Kp B Ts w w') (hn : b < B ∨ T ∉ Ts) : Blk w' b c T := by
 rcases k.block b h.lt with e | ⟨hb, x, x', T', hT, b1, b2⟩
 ·exact e.trans h
 ·obtain ⟨-, rfl⟩ := h.inj b1
  rcases hn with hn | hn
  ·omega
  ·exact absurd hT hn
def sbase : Value → Option Addr
 | .slice a _ _ => a
 | _ => none
def Sl (w : World) (B : Nat) (E : TypeId) (size : Nat) (v : Value) (n : Nat) (xs : List Value) : Prop :=
 xs.length = n * size ∧
 ((v = .slice none 0 0 ∧ n = 0) ∨
  ∃ b off cap c, v = .slice (some ⟨b, off, none⟩) n cap ∧ B ≤ b ∧ Blk w b c E ∧ n ≤ cap ∧ cap ≤ maxLen ∧ off + cap * size ≤ c.size ∧ ∀ j, j < n * size → c[off + j]? = xs[j]?)
theorem Sl.nil (w : World) (B : Nat) (E : TypeId) (size : Nat) : Sl w B E size (.slice none 0 0) 0 [] := ⟨by simp, .inl ⟨rfl, rfl⟩⟩
theorem Sl.len {w : World} {B : Nat} {E : TypeId} {size : Nat} {v : Value} {n : Nat} {xs : List Value} (h : Sl w B E size v n xs) : xs.length = n * size := h.1
theorem Sl.keep {w w' : World} {B : Nat} {E : TypeId} {size : Nat} {v : Value} {n : Nat} {xs : List Value} (h : Sl w B E size v n xs) (k : ∀ b c, v.ownBlock = some b → B ≤ b → Blk w b c E → Blk w' b c E) : Sl w' B E size v n xs := by
 obtain ⟨h1, h2 | ⟨b, off, cap, c, rfl, hB, hb, r⟩⟩ := h
 ·exact ⟨h1, .inl h2⟩
 ·exact ⟨h1, .inr ⟨b, off, cap, c, rfl, hB, k b c rfl hB hb, r⟩⟩
theorem Sl.kp {w w' : World} {B : Nat} {E : TypeId} {size : Nat} {v : Value} {n : Nat} {xs : List Value} (h : Sl w B E size v n xs) {B' : Nat} {Ts : List TypeId} (k : Kp B' Ts w w') (hn : E ∉ Ts ∨ w.heap.size ≤ B') : Sl w' B E size v n xs :=
 h.keep fun b c _ _ hb => hb.kp k (by rcases hn with hn | hn; exact .inr hn; exact .inl (Nat.lt_of_lt_of_le hb.lt hn))
theorem Sl.below {w w' : World} {B : Nat} {E : TypeId} {size : Nat} {v : Value} {n : Nat} {xs : List Value} (h : Sl w B E size v n xs) (k : Below w.heap.size w w') : Sl w' B E size v n xs :=
 h.keep fun b c _ _ hb => hb.below k hb.lt
theorem Sl.shape {w : World} {B : Nat} {E : TypeId} {size : Nat} {v : Value} {n : Nat} {xs : List Value} (h : Sl w B E size v n xs) : ∃ a c, v = .slice a n c ∧ n ≤ c ∧ c ≤ maxLen := by
 obtain ⟨h1, ⟨rfl, rfl⟩ | ⟨b', off, cap, c, rfl, _, hb', h2, h3, r⟩⟩ := h
 ·exact ⟨_, _, rfl, by simp, by simp [maxLen]⟩
 ·exact ⟨_, _, rfl, h2, h3⟩
theorem Sl.mono {w : World} {B B' : Nat} {E : TypeId} {size : Nat} {v : Value} {n : Nat} {xs : List Value} (h : Sl w B E size v n xs) (hB : B' ≤ B) : Sl w B' E size v n xs := by
 obtain ⟨h1, h2 | ⟨b, off, cap, c, rfl, hB', r⟩⟩ := h
 ·exact ⟨h1, .inl h2⟩
 ·exact ⟨h1, .inr ⟨b, off, cap, c, rfl, by omega, r⟩⟩
theorem Sl.pos {w : World} {B : Nat} {E : TypeId} {size : Nat} {v : Value} {n : Nat} {xs : List Value} (h : Sl w B E size v n xs) (hn : 0 < n) :
 ∃ b off cap, v = .slice (some ⟨b, off, none⟩) n cap ∧ B ≤ b ∧ n ≤ cap ∧ cap ≤ maxLen ∧ b < w.heap.size ∧ (∀ j, j < n * size → w.cell? ⟨b, off + j, none⟩ = xs[j]?) ∧ ∀ j, w.frozen? ⟨b, j, none⟩ = false := by
 obtain ⟨h1, ⟨rfl, rfl⟩ | ⟨b', off, cap, c, rfl, hB, hb', h2, h3, h4, h5⟩⟩ := h
 ·omega
 ·exact ⟨_, _, _, rfl, hB, h2, h3, hb'.lt, fun j hj => (hb'.cell _).trans (h5 j hj), hb'.free⟩
theorem Sl.of_new (w : World) (B : Nat) (hB : B ≤ w.heap.size) (E : TypeId) (size n : Nat) (xs : List Value) (hl : xs.length = n * size) (hm : n ≤ maxLen) :
 Sl (w.alloc (.cells xs.toArray E)) B E size (.slice (some ⟨w.heap.size, 0, none⟩) n n) n xs :=
 ⟨hl, .inr ⟨_, _, _, _, rfl, hB, Blk.new w _ _, Nat.le_refl _, hm, by simp [hl], fun j hj => by simp⟩⟩
theorem Sl.drewN {w : World} {B : Nat} {E : TypeId} {size : Nat} {v : Value} {n : Nat} {xs : List Value} (h : Sl w B E size v n xs) (k : Nat) : Sl (w.drewN k) B E size v n xs := h
theorem Sl.alloc {w : World} {B : Nat} {E : TypeId} {size : Nat} {v : Value} {n : Nat} {xs : List Value} (h : Sl w B E size v n xs) (o : Obj) : Sl (w.alloc o) B E size v n xs :=
 h.keep fun _ _ _ _ hb => hb.alloc o
theorem Sl.take {w : World} {B : Nat} {E : TypeId} {size : Nat} {a : Option Addr} {cap n m : Nat} {xs : List Value} (h : Sl w B E size (.slice a n cap) n xs) (hm : m ≤ n) : Sl w B E size (.slice a m cap) m (xs.take (m * size)) := by
 obtain ⟨h1, h2⟩ := h
 have hms : m * size ≤ n * size := Nat.mul_le_mul_right _ hm
 refine ⟨by rw [List.length_take, h1]; omega, ?_⟩
 rcases h2 with ⟨h2, h3⟩ | ⟨b, off, cap', c, hv, hB, hb, h3, h4, h5, h6⟩
 ·cases h2; obtain rfl : m = 0 := by omega
  exact .inl ⟨rfl, rfl⟩
 ·cases hv
  exact .inr ⟨b, off, cap, c, rfl, hB, hb, by omega, h4, h5, fun j hj => by rw [h6 j (by omega), List.getElem?_take]; simp [hj]⟩
theorem Sl.drop {w : World} {B : Nat} {E : TypeId} {size : Nat} {b off cap n m : Nat} {xs : List Value} (h : Sl w B E size (.slice (some ⟨b, off, none⟩) n cap) n xs) (hm : m ≤ n) : Sl w B E size (.slice (some ⟨b, off + m * size, none⟩) (n - m) (cap - m)) (n - m) (xs.drop (m * size)) := by
 obtain ⟨h1, h2⟩ := h
 have hms : m * size ≤ n * size := Nat.mul_le_mul_right _ hm
 refine ⟨by rw [List.length_drop, h1, Nat.sub_mul], ?_⟩
 rcases h2 with ⟨h2, h3⟩ | ⟨b, off, cap', c, hv, hB, hb, h3, h4, h5, h6⟩
 ·cases h2
 ·cases hv
  refine .inr ⟨b, off + m * size, cap - m, c, rfl, hB, hb, by omega, by omega, ?_, fun j hj => ?_⟩
  ·have : m * size ≤ cap * size := Nat.mul_le_mul_right _ (by omega)
   rw [Nat.sub_mul]; omega
  ·rw [Nat.sub_mul] at hj
   rw [show off + m * size + j = off + (m * size + j) by omega, h6 _ (by omega), List.getElem?_drop]
def Rd (w : World) (size : Nat) (v : Value) (n : Nat) (xs : List Value) : Prop :=
 xs.length = n * size ∧
 ((∃ a cap, v = .slice a 0 cap ∧ n = 0 ∧ cap ≤ maxLen) ∨
  ∃ b off cap, v = .slice (some ⟨b, off, none⟩) n cap ∧ n ≤ cap ∧ cap ≤ maxLen ∧ b < w.heap.size ∧ ∀ j, j < n * size → w.cell? ⟨b, off + j, none⟩ = xs[j]?)
theorem Sl.rd {w : World} {B : Nat} {E : TypeId} {size : Nat} {v : Value} {n : Nat} {xs : List Value} (h : Sl w B E size v n xs) : Rd w size v n xs := by
 obtain ⟨h1, ⟨rfl, rfl⟩ | ⟨b', off, cap, c, rfl, hB, hb', h2, h3, h4, h5⟩⟩ := h
 ·exact ⟨h1, .inl ⟨_, _, rfl, rfl, by simp [maxLen]⟩⟩
 ·exact ⟨h1, .inr ⟨_, _, _, rfl, h2, h3, hb'.lt, fun j hj => (hb'.cell _).trans (h5 j hj)⟩⟩
theorem Rd.len {w : World} {size : Nat} {v : Value} {n : Nat} {xs : List Value} (h : Rd w size v n xs) : xs.length = n * size := h.1
theorem Rd.shape {w : World} {size : Nat} {v : Value} {n : Nat} {xs : List Value} (h : Rd w size v n xs) : ∃ a c, v = .slice a n c ∧ n ≤ c ∧ c ≤ maxLen := by
 obtain ⟨h1, ⟨a, cap, rfl, rfl, h3⟩ | ⟨b', off, cap, rfl, h2, h3, _⟩⟩ := h
 ·exact ⟨_, _, rfl, by simp, h3⟩
 ·exact ⟨_, _, rfl, h2, h3⟩
theorem Rd.pos {w : World} {size : Nat} {v : Value} {n : Nat} {xs : List Value} (h : Rd w size v n xs) (hn : 0 < n) :
 ∃ b off cap, v = .slice (some ⟨b, off, none⟩) n cap ∧ 0 ≤ b ∧ n ≤ cap ∧ cap ≤ maxLen ∧ b < w.heap.size ∧ (∀ j, j < n * size → w.cell? ⟨b, off + j, none⟩ = xs[j]?) ∧ True := by
 obtain ⟨h1, ⟨a, cap, rfl, rfl, h3⟩ | ⟨b', off, cap, rfl, h2, h3, h4, h5⟩⟩ := h
 ·omega
 ·exact ⟨_, _, _, rfl, Nat.zero_le _, h2, h3, h4, h5, trivial⟩
theorem Rd.keeps {S : Nat → Prop} {w w' : World} {size : Nat} {v : Value} {n : Nat} {xs : List Value} (h : Rd w size v n xs) (k : Keeps S w w') (hs : ∀ b, v.ownBlock = some b → ¬ S b) : Rd w' size v n xs := by
 obtain ⟨h1, h2 | ⟨b', off, cap, rfl, h2, h3, h4, h5⟩⟩ := h
 ·exact ⟨h1, .inl h2⟩
 ·refine ⟨h1, .inr ⟨_, _, _, rfl, h2, h3, Nat.lt_of_lt_of_le h4 k.size, fun j hj => ?_⟩⟩
  rw [← h5 j hj]
  simp only [World.cell?, k.block b' h4 (hs b' rfl)]
theorem Rd.non {w w' : World} {size : Nat} {v : Value} {n : Nat} {xs : List Value} (h : Rd w size v n xs) (k : Keeps Non w w') : Rd w' size v n xs := h.keeps k fun _ _ h => h
theorem Rd.below {B : Nat} {w w' : World} {size : Nat} {v : Value} {n : Nat} {xs : List Value} (h : Rd w size v n xs) (k : Below B w w') (hs : ∀ b, v.ownBlock = some b → b < B) : Rd w' size v n xs := by
 obtain ⟨h1, h2 | ⟨b', off, cap, rfl, h2, h3, h4, h5⟩⟩ := h
 ·exact ⟨h1, .inl h2⟩
 ·exact ⟨h1, .inr ⟨_, _, _, rfl, h2, h3, Nat.lt_of_lt_of_le h4 k.size, fun j hj => (k.cell (p := ⟨b', off + j, none⟩) (hs b' rfl)).trans (h5 j hj)⟩⟩
theorem Sl.blk {w : World} {B : Nat} {E : TypeId} {size : Nat} {b off cap n : Nat} {xs : List Value} (h : Sl w B E size (.slice (some ⟨b, off, none⟩) n cap) n xs) : ∃ c, Blk w b c E ∧ B ≤ b := by
 obtain ⟨h1, ⟨h2, h3⟩ | ⟨b, off, cap', c, hv, hB, hb, _⟩⟩ := h
 ·cases h2
 ·cases hv; exact ⟨c, hb, hB⟩
theorem Sl.at {w : World} {B : Nat} {E : TypeId} {size : Nat} {b off cap n : Nat} {xs : List Value} (h : Sl w B E size (.slice (some ⟨b, off, none⟩) n cap) n xs) (j : Nat) (hj : j < n * size) :
 w.cell? ⟨b, off + j, none⟩ = xs[j]? ∧ w.frozen? ⟨b, off + j, none⟩ = false := by
 obtain ⟨h1, ⟨h2, h3⟩ | ⟨b, off, cap', c, hv, hB, hb, h3, h4, h5, h6⟩⟩ := h
 ·cases h2
 ·cases hv
  exact ⟨(hb.cell _).trans (h6 j hj), hb.free _⟩
theorem Sl.set {w : World} {B : Nat} {E : TypeId} {size : Nat} {b off cap n : Nat} {xs : List Value} (h : Sl w B E size (.slice (some ⟨b, off, none⟩) n cap) n xs) (j : Nat) (hj : j < n * size) (u : Value) :
 Sl (w.setCell ⟨b, off + j, none⟩ u) B E size (.slice (some ⟨b, off, none⟩) n cap) n (xs.set j u) := by
 obtain ⟨h1, ⟨h2, h3⟩ | ⟨b, off, cap', c, hv, hB, hb, h3, h4, h5, h6⟩⟩ := h
 ·cases h2
 ·cases hv
  refine ⟨by simpa using h1, .inr ⟨b, off, cap, _, rfl, hB, hb.set (off + j) u, h3, h4, by simpa using h5, fun i hi => ?_⟩⟩
  have : n * size ≤ cap * size := Nat.mul_le_mul_right _ h3
  by_cases e : i = j
  ·subst e
   rw [Array.getElem?_setIfInBounds, if_pos rfl, if_pos (by omega), List.getElem?_set, if_pos rfl, if_pos (by omega)]
  ·rw [Array.getElem?_setIfInBounds_ne (by omega), h6 i hi, List.getElem?_set_ne (by omega)]
section
variable {P : Program} {w : World}
theorem run_append_sl (t tx ty E : TypeId) (i : TypeInfo) (z : Value) (size bytes : Nat) (ht : P.underlying t = some (.slice E)) (hi : P.info? E = some i) (hz : i.zero = some z)
 (hsize : i.size = size) (hby : i.bytes = bytes) (hzs : z.cells.size = size) (B : Nat) (hB : B ≤ w.heap.size) (v : Value) (n : Nat) (xs : List Value) (h : Sl w B E size v n xs)
 (x : Value) (m : Nat) (news : List Value) (hs : Src P size tx x m news w) (b1 : n + m ≤ maxLen) (b2 : (n + m) * bytes ≤ 140737488355328) :
 ∃ v' w', (Builtin.append_ #[t, tx] ty #[v, x]).run P w = .ok v' w' ∧ Sl w' B E size v' (n + m) (xs ++ news) ∧ Kp B [E] w w' ∧ (sbase v' = sbase v ∨ sbase v' = some ⟨w.heap.size, 0, none⟩) := by
 subst hsize
 subst hby
 obtain ⟨h1, h2⟩ := h
 have hlen : (xs ++ news).length = (n + m) * i.size := by rw [List.length_append, h1, hs.newsLen, Nat.add_mul]
 have hgrow : ∀ (base : Option Addr) (cap : Nat), v = .slice base n cap → cap < n + m → (Builtin.firstCells i.size n (.slice base n cap)).run P w.drew = .ok xs.toArray w.drew →
  ∃ v' w', (Builtin.append_ #[t, tx] ty #[v, x]).run P w = .ok v' w' ∧ Sl w' B E i.size v' (n + m) (xs ++ news) ∧ Kp B [E] w w' ∧ (sbase v' = sbase v ∨ sbase v' = some ⟨w.heap.size, 0, none⟩) := by
  rintro base cap rfl hg hold
  have hge := grownCap_ge w (n + m) cap E
  have hcm : grownCap w (n + m) cap E ≤ maxLen := grownCap_le_maxLen w (n + m) cap E b1
  have hr := run_append_grow_src (P := P) w t tx ty E i z ht hi hz base n cap xs hold x m news hs hg (by unfold maxLen at b1; omega) (growslice_fits hg b2)
  refine ⟨_, _, hr, ⟨hlen, .inr ⟨w.heap.size, 0, _, _, rfl, hB, Blk.new w.drew _ _, hge, hcm, ?_, fun j hj => ?_⟩⟩, (Kp.refl _ _ w).drew.alloc _, .inr rfl⟩
  ·simp only [Array.size_append, List.size_toArray, size_zeroCells, hzs, hlen, ← Nat.add_mul, Nat.zero_add]
   rw [show n + m + (grownCap w (n + m) cap E - (n + m)) = grownCap w (n + m) cap E by omega]
   exact Nat.le_refl _
  ·rw [Nat.zero_add, Array.getElem?_append_left (by simp only [List.size_toArray, hlen]; exact hj)]
   simp
 rcases h2 with ⟨rfl, rfl⟩ | ⟨b, off, cap, c, rfl, hBb, hb, h3, h4, h5, h6⟩
 ·obtain rfl : xs = [] := List.eq_nil_of_length_eq_zero (by simpa using h1)
  by_cases hm : m = 0
  ·subst hm
   obtain rfl : news = [] := List.eq_nil_of_length_eq_zero (by simpa using hs.newsLen)
   have : (Builtin.append_ #[t, tx] ty #[.slice none 0 0, x]).run P w = .ok (.slice none 0 0) w := by
    rcases hs.kind with ⟨e', hk⟩ | hk <;> simp [Builtin.append_, run_underlying ht, run_underlying hk, sizeOf, typeInfo, hi, hs.len, hs.cells]
   exact ⟨_, _, this, Sl.nil _ _ _ _, Kp.refl _ _ _, .inl rfl⟩
  ·exact hgrow none 0 rfl (by omega) (by simp [Builtin.firstCells])
 ·have hcells : ∀ (w1 : World), w1.cell? = w.cell? → (Builtin.firstCells i.size n (.slice (some ⟨b, off, none⟩) n cap)).run P w1 = .ok xs.toArray w1 := fun w1 hw1 =>
   run_firstCells_some w1 i.size n ⟨b, off, none⟩ n cap xs h1 (fun j u hj => by
    rw [Addr.add_lit, hw1, hb.cell, h6 j (by rw [← h1]; exact (List.getElem?_eq_some_iff.1 hj).1)]
    exact hj)
  by_cases hr : n + m ≤ cap
  ·have hnc : n * i.size + news.length ≤ cap * i.size := by rw [hs.newsLen, ← Nat.add_mul]; exact Nat.mul_le_mul_right _ hr
   have hrun := run_append_room_src (P := P) w t tx ty E i ht hi b off n cap x m news hs hr
    (fun j hj => by rw [hb.cell]; simp; omega) (fun j hj => hb.free _)
   obtain ⟨c', g1, g2, g3, g4⟩ := Blk.setCells (w := w) news (off + n * i.size) w c hb
   have hkk : Keeps (One b) w (w.setCells b (off + n * i.size) news) := Keeps.setCells (S := One b) (.inl rfl) _ _ _ (Keeps.refl _ _)
   refine ⟨_, _, hrun, ⟨hlen, .inr ⟨b, off, cap, c', rfl, hBb, g1, hr, h4, by omega, fun j hj => ?_⟩⟩, ⟨hkk.os, hkk.tape, hkk.output, hkk.size, fun k hk => ?_⟩, .inl rfl⟩
   ·by_cases hjn : j < n * i.size
    ·rw [g3 _ (.inl (by omega)), h6 j hjn, List.getElem?_append_left (by omega)]
    ·have hk := hs.newsLen
     rw [Nat.add_mul] at hj
     rw [show off + j = off + n * i.size + (j - n * i.size) by omega, g4 (by omega) _ (by omega), List.getElem?_append_right (by omega), h1]
   ·by_cases e : k = b
    ·subst e; exact .inr ⟨hBb, c, c', E, by simp, hb, g1⟩
    ·exact .inl (hkk.block k hk e)
  ·exact hgrow _ cap rfl (by omega) (hcells w.drew (by funext a; rfl))
theorem wpList_append_sl {ops : Array Oper} {rest : List Oper} {o : Oper} {a : Act} {Q : Exit → Act → World → Prop} (hgd : o.guard = none) (s x : Operand) (t tx : TypeId)
 (hop : o.op = Op.call { callee := Callee.builtin Builtin.append, args := #[s, x], argTypes := #[t, tx] })
 (E : TypeId) (i : TypeInfo) (z : Value) (size bytes : Nat) (ht : P.underlying t = some (.slice E)) (hi : P.info? E = some i) (hz : i.zero = some z)
 (hsize : i.size = size) (hby : i.bytes = bytes) (hzs : z.cells.size = size) (B : Nat) (v : Value) (n : Nat) (xs : List Value) (hv : a.eval s = v) (xv : Value) (hxv : a.eval x = xv)
 (m : Nat) (news : List Value) (hB : B ≤ w.heap.size) (h : Sl w B E size v n xs) (hs : Src P size tx xv m news w) (b1 : n + m ≤ maxLen) (b2 : (n + m) * bytes ≤ 140737488355328)
 (hK : ∀ v' w', Sl w' B E size v' (n + m) (xs ++ news) → Kp B [E] w w' → (sbase v' = sbase v ∨ sbase v' = some ⟨w.heap.size, 0, none⟩) → wpList P ops Q rest (a.put o.dst v') w') :
 wpList P ops Q (o :: rest) a w := by
 refine wpList_plain hgd fun K hK' => ?_
 obtain ⟨v', w', hrun, r1, r2, r3⟩ := run_append_sl (P := P) t tx o.type E i z size bytes ht hi hz hsize hby hzs B hB v n xs h xv m news hs b1 b2
 unfold Oper.wp
 simp [execOp, hop, resolve, invoke, builtin, hv, hxv, hrun, Result.andThen]
 exact hK' _ _ (hK v' w' r1 r2 r3)
theorem Src.ofSl {B : Nat} {size : Nat} {tx E : TypeId} {v : Value} {n : Nat} {xs : List Value} (hk : P.underlying tx = some (.slice E)) (h : Sl w B E size v n xs) (h1 : ∀ u ∈ xs, u.oneCell' = true) : Src P size tx v n xs w := by
 obtain ⟨hl, ⟨rfl, rfl⟩ | ⟨b, off, cap, c, rfl, hB, hb, h3, h4, h5, h6⟩⟩ := h
 ·obtain rfl : xs = [] := List.eq_nil_of_length_eq_zero (by simpa using hl)
  exact Src.ofNil w hk 0
 ·exact Src.ofSlice w hk ⟨b, off, none⟩ n cap xs hl (fun j u hj => by
   rw [Addr.add_lit, hb.cell, h6 j (by rw [← hl]; exact (List.getElem?_eq_some_iff.1 hj).1)]; exact hj) h1
def bv (b : UInt8) : Value := .int .u8 b.toNat
def bvs (l : List UInt8) : List Value := l.map bv
theorem strOfNums_bytes (l : List UInt8) : strOfNums (l.map fun b => (b.toNat : Int)) = ⟨l.toArray⟩ := by
 simp [strOfNums, Function.comp_def]
theorem run_string_sl (t e : TypeId) (ht : P.underlying t = some (.slice e)) (he : P.underlying e = some (.int .u8)) (dst : TypeId) (hd : P.underlying dst = some .string)
 {B : Nat} {E : TypeId} {v : Value} {n : Nat} (l : List UInt8) (h : Sl w B E 1 v n (bvs l)) : (convert t dst v).run P w = .ok (.string ⟨l.toArray⟩) w := by
 obtain ⟨hl, ⟨rfl, rfl⟩ | ⟨b, off, cap, c, rfl, hB, hb, h3, h4, h5, h6⟩⟩ := h
 ·obtain rfl : l = [] := List.eq_nil_of_length_eq_zero (by simpa [bvs] using hl)
  exact run_convert_bytes_nil w t e ht he 0 0 dst hd
 ·have hn : l.length = n := by simpa [bvs] using hl
  rw [run_convert_bytes_arg w t e ht he b off n cap (l.map fun b => (b.toNat : Int)) (by simpa using hn) (fun i hi => by
   rw [hb.cell, h6 i (by omega)]
   have : i < l.length := by omega
   simp [bvs, bv, List.getElem?_eq_getElem this]) dst hd, strOfNums_bytes]
theorem run_string_one (t e : TypeId) (ht : P.underlying t = some (.slice e)) (he : P.underlying e = some (.int .u8)) (dst : TypeId) (hd : P.underlying dst = some .string) (E : TypeId) (w : World) (n : Int) :
 (convert t dst (.slice (some ⟨w.heap.size, 0, none⟩) 1 1)).run P (w.alloc (.cells #[.int .u8 n] E)) = .ok (.string ⟨#[UInt8.ofNat n.toNat]⟩) (w.alloc (.cells #[.int .u8 n] E)) := by
 rw [run_convert_bytes_arg (w.alloc (.cells #[.int .u8 n] E)) t e ht he w.heap.size 0 1 1 [n] rfl (fun i hi => by
  obtain rfl : i = 0 := by omega
  simp) dst hd]
 rfl
end
structure Part where
 S : Nat → Prop
 A : World → Prop
 st : ∀ w w' T, A w → Keeps T w w' → (∀ k, S k → ¬ T k) → A w'
 lt : ∀ w, A w → ∀ k, S k → k < w.heap.size
def ApartS (a b : Part) : Prop := ∀ k, a.S k → ¬ b.S k
structure Parts (ps : List Part) (w : World) : Prop where
 all : ∀ p ∈ ps, p.A w
 sep : ps.Pairwise ApartS
theorem ApartS.symm {a b : Part} (h : ApartS a b) : ApartS b a := fun k hb ha => h k ha hb
theorem Parts.perm {ps qs : List Part} {w : World} (h : Parts ps w) (hp : qs.Perm ps) : Parts qs w :=
 ⟨fun p hq => h.all p (hp.mem_iff.1 hq), (hp.pairwise_iff fun h => ApartS.symm h).2 h.sep⟩
theorem Parts.nil (w : World) : Parts [] w := ⟨by simp, List.Pairwise.nil⟩
theorem Parts.head {p : Part} {ps : List Part} {w : World} (h : Parts (p :: ps) w) : p.A w := h.all p (List.mem_cons_self ..)
theorem Parts.tail {p : Part} {ps : List Part} {w : World} (h : Parts (p :: ps) w) : Parts ps w := ⟨fun q hq => h.all q (List.mem_cons_of_mem _ hq), (List.pairwise_cons.1 h.sep).2⟩
theorem Parts.turn {p q : Part} {ps : List Part} {w w' : World} (h : Parts (p :: ps) w) (hq : q.A w') (k : Keeps p.S w w') (hs : ∀ j, q.S j → p.S j ∨ w.heap.size ≤ j) : Parts (q :: ps) w' := by
 obtain ⟨h1, h2⟩ := List.pairwise_cons.1 h.sep
 refine ⟨fun r hr => ?_, List.pairwise_cons.2 ⟨fun r hr j hqj hrj => ?_, h2⟩⟩
 ·rcases List.mem_cons.1 hr with rfl | hr
  ·exact hq
  ·exact r.st w w' p.S (h.all r (List.mem_cons_of_mem _ hr)) k fun j hrj hpj => h1 r hr j hpj hrj
 ·rcases hs j hqj with hp | hn
  ·exact h1 r hr j hp hrj
  ·have := r.lt w (h.all r (List.mem_cons_of_mem _ hr)) j hrj
   omega
theorem Parts.add {q : Part} {ps : List Part} {w w' : World} (h : Parts ps w) (hq : q.A w') (k : Keeps Non w w') (hs : ∀ j, q.S j → w.heap.size ≤ j) : Parts (q :: ps) w' := by
 refine ⟨fun r hr => ?_, List.pairwise_cons.2 ⟨fun r hr j hqj hrj => ?_, h.sep⟩⟩
 ·rcases List.mem_cons.1 hr with rfl | hr
  ·exact hq
  ·exact r.st w w' Non (h.all r hr) k fun _ _ h => h
 ·have := r.lt w (h.all r hr) j hrj
  have := hs j hqj
  omega
theorem Parts.non {ps : List Part} {w w' : World} (h : Parts ps w) (k : Keeps Non w w') : Parts ps w' := ⟨fun r hr => r.st w w' Non (h.all r hr) k fun _ _ h => h, h.sep⟩
theorem Parts.far {ps : List Part} {w w' : World} {T : Nat → Prop} (h : Parts ps w) (k : Keeps T w w') (hT : ∀ p ∈ ps, ∀ j, p.S j → ¬ T j) : Parts ps w' := ⟨fun r hr => r.st w w' T (h.all r hr) k (hT r hr), h.sep⟩
theorem Parts.ne {p q : Part} {ps : List Part} {w : World} (h : Parts (p :: ps) w) (hq : q ∈ ps) : ∀ j, p.S j → ¬ q.S j := (List.pairwise_cons.1 h.sep).1 q hq
def joinP (d n : List UInt8) : List UInt8 := if d = [] then n else d ++ 47 :: n
end Go.Proofs.YtdkogijdfgfpeaaGreatDoor
