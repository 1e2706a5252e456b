/- Append over my slices, told finer: only the slice's own block has turned; for the walk, and for a region that draws its order. No program in sight. -/
import Derived.Test.YtdkogijdfgfpeaaGreatDoorMem
import Derived.Deep.RegionLaw
namespace Go.Proofs.YtdkogijdfgfpeaaGreatDoor
open Go Go.RowKit
set_option linter.unusedVariables false

section
variable {P : Program} {w : World}
theorem run_append_own2 (t tx ty E : TypeId) (i : TypeInfo) (z : Value) (size bytes : Nat) (ht : P.underlying t = some (.slice E)) (hi : P.info? E = some i) (hz : i.zero = some z)
    (hsize : i.size = size) (hby : i.bytes = bytes) (hzs : z.cells.size = size) (B : Nat) (hB : B ≤ w.heap.size) (v : Value) (n : Nat) (xs : List Value) (h : Sl w B E size v n xs)
    (x : Value) (m : Nat) (news : List Value) (hs : Src P size tx x m news w) (b1 : n + m ≤ maxLen) (b2 : (n + m) * bytes ≤ 140737488355328) :
    ∃ ao cc w', (Builtin.append_ #[t, tx] ty #[v, x]).run P w = .ok (.slice ao (n + m) cc) w' ∧ Sl w' B E size (.slice ao (n + m) cc) (n + m) (xs ++ news) ∧ Kp B [E] w w' ∧ Keeps (OwnOf v) w w' ∧
      ((Value.slice ao (n + m) cc).ownBlock = v.ownBlock ∨ (Value.slice ao (n + m) cc).ownBlock = some w.heap.size) := by
  subst hsize
  subst hby
  obtain ⟨h1, h2⟩ := h
  have hlen : (xs ++ news).length = (n + m) * i.size := by rw [List.length_append, h1, hs.newsLen, Nat.add_mul]
  have hgrow : ∀ (base : Option Addr) (cap : Nat), v = .slice base n cap → cap < n + m → (Builtin.firstCells i.size n (.slice base n cap)).run P w.drew = .ok xs.toArray w.drew →
      ∃ ao cc w', (Builtin.append_ #[t, tx] ty #[v, x]).run P w = .ok (.slice ao (n + m) cc) w' ∧ Sl w' B E i.size (.slice ao (n + m) cc) (n + m) (xs ++ news) ∧ Kp B [E] w w' ∧ Keeps (OwnOf v) w w' ∧
        ((Value.slice ao (n + m) cc).ownBlock = v.ownBlock ∨ (Value.slice ao (n + m) cc).ownBlock = some w.heap.size) := by
    rintro base cap rfl hg hold
    have hge := grownCap_ge w (n + m) cap E
    have hcm : grownCap w (n + m) cap E ≤ maxLen := grownCap_le_maxLen w (n + m) cap E b1
    have hr := run_append_grow_src (P := P) w t tx ty E i z ht hi hz base n cap xs hold x m news hs hg (by unfold maxLen at b1; omega) (growslice_fits hg b2)
    refine ⟨_, _, _, hr, ⟨hlen, .inr ⟨w.heap.size, 0, _, _, rfl, hB, Blk.new w.drew _ _, hge, hcm, ?_, fun j hj => ?_⟩⟩, (Kp.refl _ _ w).drew.alloc _, (Keeps.refl _ w).drew.alloc _, .inr rfl⟩
    · simp only [Array.size_append, List.size_toArray, size_zeroCells, hzs, hlen, ← Nat.add_mul, Nat.zero_add]
      rw [show n + m + (grownCap w (n + m) cap E - (n + m)) = grownCap w (n + m) cap E by omega]
      exact Nat.le_refl _
    · rw [Nat.zero_add, Array.getElem?_append_left (by simp only [List.size_toArray, hlen]; exact hj)]
      simp
  rcases h2 with ⟨rfl, rfl⟩ | ⟨b, off, cap, c, rfl, hBb, hb, h3, h4, h5, h6⟩
  · obtain rfl : xs = [] := List.eq_nil_of_length_eq_zero (by simpa using h1)
    by_cases hm : m = 0
    · subst hm
      obtain rfl : news = [] := List.eq_nil_of_length_eq_zero (by simpa using hs.newsLen)
      have : (Builtin.append_ #[t, tx] ty #[.slice none 0 0, x]).run P w = .ok (.slice none 0 0) w := by
        rcases hs.kind with ⟨e', hk⟩ | hk <;> simp [Builtin.append_, run_underlying ht, run_underlying hk, sizeOf, typeInfo, hi, hs.len, hs.cells]
      exact ⟨_, _, _, this, Sl.nil _ _ _ _, Kp.refl _ _ _, Keeps.refl _ _, .inl rfl⟩
    · exact hgrow none 0 rfl (by omega) (by simp [Builtin.firstCells])
  · have hcells : ∀ (w1 : World), w1.cell? = w.cell? → (Builtin.firstCells i.size n (.slice (some ⟨b, off, none⟩) n cap)).run P w1 = .ok xs.toArray w1 := fun w1 hw1 =>
      run_firstCells_some w1 i.size n ⟨b, off, none⟩ n cap xs h1 (fun j u hj => by
        rw [Addr.add_lit, hw1, hb.cell, h6 j (by rw [← h1]; exact (List.getElem?_eq_some_iff.1 hj).1)]
        exact hj)
    by_cases hr : n + m ≤ cap
    · have hnc : n * i.size + news.length ≤ cap * i.size := by rw [hs.newsLen, ← Nat.add_mul]; exact Nat.mul_le_mul_right _ hr
      have hrun := run_append_room_src (P := P) w t tx ty E i ht hi b off n cap x m news hs hr
        (fun j hj => by rw [hb.cell]; simp; omega) (fun j hj => hb.free _)
      obtain ⟨c', g1, g2, g3, g4⟩ := Blk.setCells (w := w) news (off + n * i.size) w c hb
      have hkk : Keeps (One b) w (w.setCells b (off + n * i.size) news) := Keeps.setCells (S := One b) (.inl rfl) _ _ _ (Keeps.refl _ _)
      refine ⟨_, _, _, hrun, ⟨hlen, .inr ⟨b, off, cap, c', rfl, hBb, g1, hr, h4, by omega, fun j hj => ?_⟩⟩, ⟨hkk.os, hkk.tape, hkk.output, hkk.size, fun k hk => ?_⟩, hkk.mono (fun k _ e => by cases e; rfl), .inl rfl⟩
      · by_cases hjn : j < n * i.size
        · rw [g3 _ (.inl (by omega)), h6 j hjn, List.getElem?_append_left (by omega)]
        · have hk := hs.newsLen
          rw [Nat.add_mul] at hj
          rw [show off + j = off + n * i.size + (j - n * i.size) by omega, g4 (by omega) _ (by omega), List.getElem?_append_right (by omega), h1]
      · by_cases e : k = b
        · subst e; exact .inr ⟨hBb, c, c', E, by simp, hb, g1⟩
        · exact .inl (hkk.block k hk e)
    · exact hgrow _ cap rfl (by omega) (hcells w.drew (by funext a; rfl))

/-- .. for the walk -/
theorem wpList_append_own2 {ops : Array Oper} {rest : List Oper} {o : Oper} {a : Act} {Q : Exit → Act → World → Prop} (hgd : o.guard = none) (s x : Operand) (t tx : TypeId)
    (hop : o.op = Op.call { callee := Callee.builtin Builtin.append, args := #[s, x], argTypes := #[t, tx] })
    (E : TypeId) (i : TypeInfo) (z : Value) (size bytes : Nat) (ht : P.underlying t = some (.slice E)) (hi : P.info? E = some i) (hz : i.zero = some z)
    (hsize : i.size = size) (hby : i.bytes = bytes) (hzs : z.cells.size = size) (B : Nat) (v : Value) (n : Nat) (xs : List Value) (hv : a.eval s = v) (xv : Value) (hxv : a.eval x = xv)
    (m : Nat) (news : List Value) (hB : B ≤ w.heap.size) (h : Sl w B E size v n xs) (hs : Src P size tx xv m news w) (b1 : n + m ≤ maxLen) (b2 : (n + m) * bytes ≤ 140737488355328)
    (hK : ∀ ao cc w', Sl w' B E size (.slice ao (n + m) cc) (n + m) (xs ++ news) → Kp B [E] w w' → Keeps (OwnOf v) w w' → ((Value.slice ao (n + m) cc).ownBlock = v.ownBlock ∨ (Value.slice ao (n + m) cc).ownBlock = some w.heap.size) → wpList P ops Q rest (a.put o.dst (.slice ao (n + m) cc)) w') :
    wpList P ops Q (o :: rest) a w := by
  refine wpList_plain hgd fun K hK' => ?_
  obtain ⟨ao, cc, w', hrun, r1, r2, r3, r4⟩ := run_append_own2 (P := P) t tx o.type E i z size bytes ht hi hz hsize hby hzs B hB v n xs h xv m news hs b1 b2
  unfold Oper.wp
  simp [execOp, hop, resolve, invoke, builtin, hv, hxv, hrun, Result.andThen]
  exact hK' _ _ (hK ao cc w' r1 r2 r3 r4)

/-- .. at a step of a region that draws its order -/
theorem step_append_own2 {ops : Array Oper} {o : Oper} {a : Act} {K : Act → World → Prop} {Q : Exit → Act → World → Prop} {F : Prop} (hgd : o.guard = none) (s x : Operand) (t tx : TypeId)
    (hop : o.op = Op.call { callee := Callee.builtin Builtin.append, args := #[s, x], argTypes := #[t, tx] })
    (E : TypeId) (i : TypeInfo) (z : Value) (size bytes : Nat) (ht : P.underlying t = some (.slice E)) (hi : P.info? E = some i) (hz : i.zero = some z)
    (hsize : i.size = size) (hby : i.bytes = bytes) (hzs : z.cells.size = size) (B : Nat) (v : Value) (n : Nat) (xs : List Value) (hv : a.eval s = v) (xv : Value) (hxv : a.eval x = xv)
    (m : Nat) (news : List Value) (hB : B ≤ w.heap.size) (h : Sl w B E size v n xs) (hs : Src P size tx xv m news w) (b1 : n + m ≤ maxLen) (b2 : (n + m) * bytes ≤ 140737488355328)
    (hK : ∀ ao cc w', Sl w' B E size (.slice ao (n + m) cc) (n + m) (xs ++ news) → Kp B [E] w w' → Keeps (OwnOf v) w w' → ((Value.slice ao (n + m) cc).ownBlock = v.ownBlock ∨ (Value.slice ao (n + m) cc).ownBlock = some w.heap.size) → K (a.put o.dst (.slice ao (n + m) cc)) w') :
    if Region.wanted o (yielded ops a.tmps) = true then Oper.wp P o a w K Q else F := by
  have hw : Region.wanted o (yielded ops a.tmps) = true := by simp [Region.wanted, hgd]
  rw [if_pos hw]
  obtain ⟨ao, cc, w', hrun, r1, r2, r3, r4⟩ := run_append_own2 (P := P) t tx o.type E i z size bytes ht hi hz hsize hby hzs B hB v n xs h xv m news hs b1 b2
  unfold Oper.wp
  simp [execOp, hop, resolve, invoke, builtin, hv, hxv, hrun, Result.andThen]
  exact hK ao cc w' r1 r2 r3 r4
end
end Go.Proofs.YtdkogijdfgfpeaaGreatDoor
