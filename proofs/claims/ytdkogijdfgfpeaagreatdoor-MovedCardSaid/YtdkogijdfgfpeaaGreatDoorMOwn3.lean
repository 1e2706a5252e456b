/- Append over my slices, finer still: slices that are no longer than this one in the same block are kept. No program in sight. -/
import Derived.Test.YtdkogijdfgfpeaaGreatDoorMImpG
import Derived.Test.YtdkogijdfgfpeaaGreatDoorMImpC
import Derived.Deep.QuietTactic
set_option linter.unusedVariables false
namespace Go.Proofs.YtdkogijdfgfpeaaGreatDoor
open Go Go.RowKit
def Ahead (size : Nat) (v t : Value) : Prop :=
 match v, t with
 | .slice (some a) n _, .slice (some a') n' _ => a.block = a'.block → a'.off + n' * size ≤ a.off + n * size
 | _, _ => True
theorem ahead_self (size : Nat) (v : Value) : Ahead size v v := by
 unfold Ahead
 split
 ·exact fun _ => Nat.le_refl _
 ·trivial
theorem ahead_nil (size n c : Nat) (t : Value) : Ahead size (.slice none n c) t := trivial
theorem ahead_more {size b off n m cap : Nat} {t : Value} (h : Ahead size (.slice (some ⟨b, off, none⟩) n cap) t) : Ahead size (.slice (some ⟨b, off, none⟩) (n + m) cap) t := by
 unfold Ahead at *
 split
 ·rename_i a n1 c1 a' n' c' h1
  cases h1
  intro e
  have := h e
  rw [Nat.add_mul]
  simp only at *
  omega
 ·trivial
theorem ahead_new {w : World} {B' size b k o n c : Nat} {E : TypeId} {t : Value} {ys : List Value} (ht : Sl w B' E size t k ys) (hb : w.heap.size ≤ b) : Ahead size (.slice (some ⟨b, o, none⟩) n c) t := by
 obtain ⟨-, ⟨rfl, -⟩ | ⟨b', off, cap, cc, rfl, -, hb', -⟩⟩ := ht
 ·trivial
 ·intro e
  have := hb'.lt
  simp only at e
  omega
theorem sl_ahead {w w' : World} {B' size b off n cap k : Nat} {E : TypeId} {c c' : Array Value} {t : Value} {ys : List Value} (hb : Blk w b c E) (g1 : Blk w' b c' E) (g2 : c'.size = c.size) (g3 : ∀ j, j < off + n * size → c'[j]? = c[j]?) (hk : Keeps (One b) w w')
 (ht : Sl w B' E size t k ys) (ha : Ahead size (.slice (some ⟨b, off, none⟩) n cap) t) : Sl w' B' E size t k ys := by
 obtain ⟨h1, h2 | ⟨b', off', cap', cc, rfl, hB, hb', q1, q2, q3, q4⟩⟩ := ht
 ·exact ⟨h1, .inl h2⟩
 ·by_cases e : b' = b
  ·subst e
   obtain ⟨rfl, -⟩ := hb.inj hb'
   have hle := ha rfl
   simp only at hle
   refine ⟨h1, .inr ⟨b', off', cap', c', rfl, hB, g1, q1, q2, by omega, fun j hj => ?_⟩⟩
   rw [g3 _ (by omega)]
   exact q4 j hj
  ·exact ⟨h1, .inr ⟨b', off', cap', cc, rfl, hB, hb'.keeps hk e, q1, q2, q3, q4⟩⟩
section
variable {P : Program} {w : World}
theorem run_append_own3 (t tx ty E : TypeId) (i : TypeInfo) (z : Value) (size bytes : Nat) (ht : P.underlying t = some (.slice E)) (hi : P.info? E = some i) (hz : i.zero = some z)
 (hsize : i.size = size) (hby : i.bytes = bytes) (hzs : z.cells.size = size) (B : Nat) (hB : B ≤ w.heap.size) (v : Value) (n : Nat) (xs : List Value) (h : Sl w B E size v n xs)
 (x : Value) (m : Nat) (news : List Value) (hs : Src P size tx x m news w) (b1 : n + m ≤ maxLen) (b2 : (n + m) * bytes ≤ 140737488355328) :
 ∃ ao cc w', (Builtin.append_ #[t, tx] ty #[v, x]).run P w = .ok (.slice ao (n + m) cc) w' ∧ Sl w' B E size (.slice ao (n + m) cc) (n + m) (xs ++ news) ∧ Kp B [E] w w' ∧ Keeps (OwnOf v) w w' ∧
   ((Value.slice ao (n + m) cc).ownBlock = v.ownBlock ∨ (Value.slice ao (n + m) cc).ownBlock = some w.heap.size) ∧ ∀ (B' : Nat) (t : Value) (k : Nat) (ys : List Value), Sl w B' E size t k ys → Ahead size v t → Sl w' B' E size t k ys ∧ Ahead size (.slice ao (n + m) cc) t := by
 subst hsize
 subst hby
 obtain ⟨h1, h2⟩ := h
 have hlen : (xs ++ news).length = (n + m) * i.size := by rw [List.length_append, h1, hs.newsLen, Nat.add_mul]
 have hgrow : ∀ (base : Option Addr) (cap : Nat), v = .slice base n cap → cap < n + m → (Builtin.firstCells i.size n (.slice base n cap)).run P w.drew = .ok xs.toArray w.drew →
  ∃ ao cc w', (Builtin.append_ #[t, tx] ty #[v, x]).run P w = .ok (.slice ao (n + m) cc) w' ∧ Sl w' B E i.size (.slice ao (n + m) cc) (n + m) (xs ++ news) ∧ Kp B [E] w w' ∧ Keeps (OwnOf v) w w' ∧
    ((Value.slice ao (n + m) cc).ownBlock = v.ownBlock ∨ (Value.slice ao (n + m) cc).ownBlock = some w.heap.size) ∧ ∀ (B' : Nat) (t : Value) (k : Nat) (ys : List Value), Sl w B' E i.size t k ys → Ahead i.size v t → Sl w' B' E i.size t k ys ∧ Ahead i.size (.slice ao (n + m) cc) t := by
  rintro base cap rfl hg hold
  have hge := grownCap_ge w (n + m) cap E
  have hcm : grownCap w (n + m) cap E ≤ maxLen := grownCap_le_maxLen w (n + m) cap E b1
  have hr := run_append_grow_src (P := P) w t tx ty E i z ht hi hz base n cap xs hold x m news hs hg (by unfold maxLen at b1; omega) (growslice_fits hg b2)
  refine ⟨_, _, _, hr, ⟨hlen, .inr ⟨w.heap.size, 0, _, _, rfl, hB, Blk.new w.drew _ _, hge, hcm, ?_, fun j hj => ?_⟩⟩, (Kp.refl _ _ w).drew.alloc _, (Keeps.refl _ w).drew.alloc _, .inr rfl, fun B' t k ys ht _ => ⟨(ht.drewN 1).alloc _, ahead_new ht (Nat.le_refl _)⟩⟩
  ·simp only [Array.size_append, List.size_toArray, size_zeroCells, hzs, hlen, ← Nat.add_mul, Nat.zero_add]
   rw [show n + m + (grownCap w (n + m) cap E - (n + m)) = grownCap w (n + m) cap E by omega]
   exact Nat.le_refl _
  ·rw [Nat.zero_add, Array.getElem?_append_left (by simp only [List.size_toArray, hlen]; exact hj)]
   simp
 rcases h2 with ⟨rfl, rfl⟩ | ⟨b, off, cap, c, rfl, hBb, hb, h3, h4, h5, h6⟩
 ·obtain rfl : xs = [] := List.eq_nil_of_length_eq_zero (by simpa using h1)
  by_cases hm : m = 0
  ·subst hm
   obtain rfl : news = [] := List.eq_nil_of_length_eq_zero (by simpa using hs.newsLen)
   have : (Builtin.append_ #[t, tx] ty #[.slice none 0 0, x]).run P w = .ok (.slice none 0 0) w := by
    rcases hs.kind with ⟨e', hk⟩ | hk <;> simp [Builtin.append_, run_underlying ht, run_underlying hk, sizeOf, typeInfo, hi, hs.len, hs.cells]
   exact ⟨_, _, _, this, Sl.nil _ _ _ _, Kp.refl _ _ _, Keeps.refl _ _, .inl rfl, fun B' t k ys ht _ => ⟨ht, trivial⟩⟩
  ·exact hgrow none 0 rfl (by omega) (by simp [Builtin.firstCells])
 ·have hcells : ∀ (w1 : World), w1.cell? = w.cell? → (Builtin.firstCells i.size n (.slice (some ⟨b, off, none⟩) n cap)).run P w1 = .ok xs.toArray w1 := fun w1 hw1 =>
   run_firstCells_some w1 i.size n ⟨b, off, none⟩ n cap xs h1 (fun j u hj => by
    rw [Addr.add_lit, hw1, hb.cell, h6 j (by rw [← h1]; exact (List.getElem?_eq_some_iff.1 hj).1)]
    exact hj)
  by_cases hr : n + m ≤ cap
  ·have hnc : n * i.size + news.length ≤ cap * i.size := by rw [hs.newsLen, ← Nat.add_mul]; exact Nat.mul_le_mul_right _ hr
   have hrun := run_append_room_src (P := P) w t tx ty E i ht hi b off n cap x m news hs hr
    (fun j hj => by rw [hb.cell]; simp; omega) (fun j hj => hb.free _)
   obtain ⟨c', g1, g2, g3, g4⟩ := Blk.setCells (w := w) news (off + n * i.size) w c hb
   have hkk : Keeps (One b) w (w.setCells b (off + n * i.size) news) := Keeps.setCells (S := One b) (.inl rfl) _ _ _ (Keeps.refl _ _)
   refine ⟨_, _, _, hrun, ⟨hlen, .inr ⟨b, off, cap, c', rfl, hBb, g1, hr, h4, by omega, fun j hj => ?_⟩⟩, ⟨hkk.os, hkk.tape, hkk.output, hkk.size, fun k hk => ?_⟩, hkk.mono (fun k _ e => by cases e; rfl), .inl rfl, fun B' t k ys ht ha => ⟨sl_ahead hb g1 g2 (fun j hj => g3 j (.inl hj)) hkk ht ha, ahead_more ha⟩⟩
   ·by_cases hjn : j < n * i.size
    ·rw [g3 _ (.inl (by omega)), h6 j hjn, List.getElem?_append_left (by omega)]
    ·have hk := hs.newsLen
     rw [Nat.add_mul] at hj
     rw [show off + j = off + n * i.size + (j - n * i.size) by omega, g4 (by omega) _ (by omega), List.getElem?_append_right (by omega), h1]
   ·by_cases e : k = b
    ·subst e; exact .inr ⟨hBb, c, c', E, by simp, hb, g1⟩
    ·exact .inl (hkk.block k hk e)
  ·exact hgrow _ cap rfl (by omega) (hcells w.drew (by funext a; rfl))
theorem wpList_append_own3 {ops : Array Oper} {rest : List Oper} {o : Oper} {a : Act} {Q : Exit → Act → World → Prop} (hgd : o.guard = none) (s x : Operand) (t tx : TypeId)
 (hop : o.op = Op.call { callee := Callee.builtin Builtin.append, args := #[s, x], argTypes := #[t, tx] })
 (E : TypeId) (i : TypeInfo) (z : Value) (size bytes : Nat) (ht : P.underlying t = some (.slice E)) (hi : P.info? E = some i) (hz : i.zero = some z)
 (hsize : i.size = size) (hby : i.bytes = bytes) (hzs : z.cells.size = size) (B : Nat) (v : Value) (n : Nat) (xs : List Value) (hv : a.eval s = v) (xv : Value) (hxv : a.eval x = xv)
 (m : Nat) (news : List Value) (hB : B ≤ w.heap.size) (h : Sl w B E size v n xs) (hs : Src P size tx xv m news w) (b1 : n + m ≤ maxLen) (b2 : (n + m) * bytes ≤ 140737488355328)
 (hK : ∀ ao cc w', Sl w' B E size (.slice ao (n + m) cc) (n + m) (xs ++ news) → Kp B [E] w w' → Keeps (OwnOf v) w w' → ((Value.slice ao (n + m) cc).ownBlock = v.ownBlock ∨ (Value.slice ao (n + m) cc).ownBlock = some w.heap.size) → (∀ (B' : Nat) (t : Value) (k : Nat) (ys : List Value), Sl w B' E size t k ys → Ahead size v t → Sl w' B' E size t k ys ∧ Ahead size (.slice ao (n + m) cc) t) → wpList P ops Q rest (a.put o.dst (.slice ao (n + m) cc)) w') :
 wpList P ops Q (o :: rest) a w := by
 refine wpList_plain hgd fun K hK' => ?_
 obtain ⟨ao, cc, w', hrun, r1, r2, r3, r4, r5⟩ := run_append_own3 (P := P) t tx o.type E i z size bytes ht hi hz hsize hby hzs B hB v n xs h xv m news hs b1 b2
 unfold Oper.wp
 simp [execOp, hop, resolve, invoke, builtin, hv, hxv, hrun, Result.andThen]
 exact hK' _ _ (hK ao cc w' r1 r2 r3 r4 r5)
theorem step_append_own3 {ops : Array Oper} {o : Oper} {a : Act} {K : Act → World → Prop} {Q : Exit → Act → World → Prop} {F : Prop} (hgd : o.guard = none) (s x : Operand) (t tx : TypeId)
 (hop : o.op = Op.call { callee := Callee.builtin Builtin.append, args := #[s, x], argTypes := #[t, tx] })
 (E : TypeId) (i : TypeInfo) (z : Value) (size bytes : Nat) (ht : P.underlying t = some (.slice E)) (hi : P.info? E = some i) (hz : i.zero = some z)
 (hsize : i.size = size) (hby : i.bytes = bytes) (hzs : z.cells.size = size) (B : Nat) (v : Value) (n : Nat) (xs : List Value) (hv : a.eval s = v) (xv : Value) (hxv : a.eval x = xv)
 (m : Nat) (news : List Value) (hB : B ≤ w.heap.size) (h : Sl w B E size v n xs) (hs : Src P size tx xv m news w) (b1 : n + m ≤ maxLen) (b2 : (n + m) * bytes ≤ 140737488355328)
 (hK : ∀ ao cc w', Sl w' B E size (.slice ao (n + m) cc) (n + m) (xs ++ news) → Kp B [E] w w' → Keeps (OwnOf v) w w' → ((Value.slice ao (n + m) cc).ownBlock = v.ownBlock ∨ (Value.slice ao (n + m) cc).ownBlock = some w.heap.size) → (∀ (B' : Nat) (t : Value) (k : Nat) (ys : List Value), Sl w B' E size t k ys → Ahead size v t → Sl w' B' E size t k ys ∧ Ahead size (.slice ao (n + m) cc) t) → K (a.put o.dst (.slice ao (n + m) cc)) w') :
 if Region.wanted o (yielded ops a.tmps) = true then Oper.wp P o a w K Q else F := by
 have hw : Region.wanted o (yielded ops a.tmps) = true := by simp [Region.wanted, hgd]
 rw [if_pos hw]
 obtain ⟨ao, cc, w', hrun, r1, r2, r3, r4, r5⟩ := run_append_own3 (P := P) t tx o.type E i z size bytes ht hi hz hsize hby hzs B hB v n xs h xv m news hs b1 b2
 unfold Oper.wp
 simp [execOp, hop, resolve, invoke, builtin, hv, hxv, hrun, Result.andThen]
 exact hK ao cc w' r1 r2 r3 r4 r5
end
abbrev TB : TypeId := 109
def actV (b : Nat) : Act1 → Value
 | .none => .nilFunc
 | .open' => .func (.func 156) #[.pointer (some ⟨b, 0, none⟩)] #[]
 | .kind => .func (.func 157) #[.pointer (some ⟨b, 0, none⟩)] #[]
 | .file => .func (.func 167) #[.pointer (some ⟨b, 0, none⟩)] #[]
 | .dir => .func (.func 170) #[.pointer (some ⟨b, 0, none⟩)] #[]
 | .next' => .func (.func 47) #[.pointer (some ⟨b, 0, none⟩)] #[]
 | .more => .func (.func 114) #[.pointer (some ⟨b, 0, none⟩)] #[]
def JobAt (w : World) (b : Nat) : Job → Value → Prop
 | .word may act, f => ∃ (bm bp bt : Nat) (vm : Value), f = .func (.func 77) #[] #[.pointer (some ⟨bm, 0, none⟩), .pointer (some ⟨bp, 0, none⟩), .pointer (some ⟨bt, 0, none⟩)] ∧
  Blk w bm #[vm] 26 ∧ Sl w 0 9 1 vm may.length (svs may) ∧ Blk w bp #[.pointer (some ⟨b, 0, none⟩)] 151 ∧ Blk w bt #[actV b act] 111
 | .leads, f => f = .func (.func 168) #[.pointer (some ⟨b, 0, none⟩)] #[]
 | .name, f => f = .func (.func 174) #[.pointer (some ⟨b, 0, none⟩)] #[]
 | .keep k, f => ∃ (bp bk : Nat), f = .func (.func 173) #[] #[.pointer (some ⟨bp, 0, none⟩), .pointer (some ⟨bk, 0, none⟩)] ∧
  Blk w bp #[.pointer (some ⟨b, 0, none⟩)] 151 ∧ Blk w bk #[.int .i64 k] 47
 | .cpath, f => f = .func (.func 80) #[.pointer (some ⟨b, 0, none⟩)] #[]
 | .cref, f => f = .func (.func 129) #[.pointer (some ⟨b, 0, none⟩)] #[]
 | .csum, f => f = .func (.func 130) #[.pointer (some ⟨b, 0, none⟩)] #[]
abbrev paTs : List TypeId := [5, 113, 49, 160, TB]
theorem JobAt.kp {w w' : World} {b : Nat} {j : Job} {f : Value} (h : JobAt w b j f) {B : Nat} {Ts : List TypeId} (k : Kp B Ts w w') (hT : ∀ T ∈ Ts, T ∈ paTs) : JobAt w' b j f := by
 have hn : ∀ T : TypeId, T ∉ paTs → T ∉ Ts := fun T h1 h2 => h1 (hT T h2)
 cases j with
 | word may act =>
   obtain ⟨bm, bp, bt, vm, rfl, h1, h2, h3, h4⟩ := h
   exact ⟨bm, bp, bt, vm, rfl, h1.kp k (.inr (hn _ (by decide))), h2.kp k (.inl (hn _ (by decide))), h3.kp k (.inr (hn _ (by decide))), h4.kp k (.inr (hn _ (by decide)))⟩
 | leads => exact h
 | name => exact h
 | keep k' =>
   obtain ⟨bp, bk, rfl, h1, h2⟩ := h
   exact ⟨bp, bk, rfl, h1.kp k (.inr (hn _ (by decide))), h2.kp k (.inr (hn _ (by decide)))⟩
 | cpath => exact h
 | cref => exact h
 | csum => exact h
def wantC (t : Job × Value) : List Value := [.int .i64 (t.1.most : Nat), t.2]
def wantCells (ts : List (Job × Value)) : List Value := ts.flatMap wantC
theorem wantCells_length (ts : List (Job × Value)) : (wantCells ts).length = ts.length * 2 := by
 induction ts with
 | nil => rfl
 | cons o st ih => simp only [wantCells, List.flatMap_cons, List.length_append, List.length_cons, wantC, List.length_nil] at *; omega
theorem wantCells_append (a b : List (Job × Value)) : wantCells (a ++ b) = wantCells a ++ wantCells b := by simp [wantCells]
def pcells (vr : Value) (at' err bad : Int) (vt vl va : Value) (path : List UInt8) (tail : List Value) : Array Value :=
 (vr :: .int .i64 at' :: .int .i64 err :: .int .i64 bad :: vt :: vl :: va :: sv path :: tail).toArray
structure PT where
 cells : List Value
 trees : List (Value × List Node)
structure PAt (B b : Nat) (tail : PT) (ts : List (Job × Value)) (σ : PSt) (w : World) (vr vt vl va : Value) : Prop where
 blk : Blk w b (pcells vr σ.at' σ.err σ.bad vt vl va σ.path tail.cells) TB
 le : B ≤ b
 rest : Sl w B 5 1 vr σ.rest.length (bvs σ.rest)
 todo : Sl w B 113 2 vt ts.length (wantCells ts)
 nodes : Sl w B 49 3 vl σ.nodes.length (nodeCells σ.nodes)
 above : Sl w B 160 2 va σ.above.length (opCells σ.above)
 jobs : ∀ t ∈ ts, JobAt w b t.1 t.2
 kept : ∀ t ∈ tail.trees, Sl w B 49 3 t.1 t.2.length (nodeCells t.2) ∧ Ahead 3 vl t.1
theorem pcells_get (vr : Value) (at' err bad : Int) (vt vl va : Value) (path : List UInt8) (tail : List Value) :
 (pcells vr at' err bad vt vl va path tail)[0]? = some vr ∧ (pcells vr at' err bad vt vl va path tail)[1]? = some (.int .i64 at') ∧ (pcells vr at' err bad vt vl va path tail)[2]? = some (.int .i64 err) ∧
 (pcells vr at' err bad vt vl va path tail)[3]? = some (.int .i64 bad) ∧ (pcells vr at' err bad vt vl va path tail)[4]? = some vt ∧ (pcells vr at' err bad vt vl va path tail)[5]? = some vl ∧
 (pcells vr at' err bad vt vl va path tail)[6]? = some va ∧ (pcells vr at' err bad vt vl va path tail)[7]? = some (sv path) := by
 simp [pcells]
theorem pcells_set (vr : Value) (at' err bad : Int) (vt vl va : Value) (path : List UInt8) (tail : List Value) :
 (∀ v, (pcells vr at' err bad vt vl va path tail).setIfInBounds 0 v = pcells v at' err bad vt vl va path tail) ∧ (∀ z : Int, (pcells vr at' err bad vt vl va path tail).setIfInBounds 1 (.int .i64 z) = pcells vr z err bad vt vl va path tail) ∧
 (∀ z : Int, (pcells vr at' err bad vt vl va path tail).setIfInBounds 2 (.int .i64 z) = pcells vr at' z bad vt vl va path tail) ∧ (∀ z : Int, (pcells vr at' err bad vt vl va path tail).setIfInBounds 3 (.int .i64 z) = pcells vr at' err z vt vl va path tail) ∧
 (∀ v, (pcells vr at' err bad vt vl va path tail).setIfInBounds 4 v = pcells vr at' err bad v vl va path tail) ∧ (∀ v, (pcells vr at' err bad vt vl va path tail).setIfInBounds 5 v = pcells vr at' err bad vt v va path tail) ∧
 (∀ v, (pcells vr at' err bad vt vl va path tail).setIfInBounds 6 v = pcells vr at' err bad vt vl v path tail) ∧ (∀ p, (pcells vr at' err bad vt vl va path tail).setIfInBounds 7 (sv p) = pcells vr at' err bad vt vl va p tail) := by
 simp [pcells]
section
variable {B b : Nat} {tail : PT} {ts : List (Job × Value)} {σ : PSt} {w w' : World} {vr vt vl va : Value}
theorem PAt.keeps (h : PAt B b tail ts σ w vr vt vl va) (hk : Keeps Non w w') : PAt B b tail ts σ w' vr vt vl va := by
 have k : Kp B [] w w' := Kp.of_keeps hk
 exact ⟨h.blk.keeps hk (fun h => h), h.le, h.rest.kp k (.inl (by simp)), h.todo.kp k (.inl (by simp)), h.nodes.kp k (.inl (by simp)), h.above.kp k (.inl (by simp)), fun t ht => (h.jobs t ht).kp k (by simp), fun t ht => ⟨(h.kept t ht).1.kp k (.inl (by simp)), (h.kept t ht).2⟩⟩
theorem PAt.alloc (h : PAt B b tail ts σ w vr vt vl va) (o : Obj) : PAt B b tail ts σ (w.alloc o) vr vt vl va := h.keeps ((Keeps.refl _ _).alloc o)
theorem PAt.drewN (h : PAt B b tail ts σ w vr vt vl va) (n : Nat) : PAt B b tail ts σ (w.drewN n) vr vt vl va := h.keeps ((Keeps.refl _ _).drewN n)
theorem PAt.lt (h : PAt B b tail ts σ w vr vt vl va) : b < w.heap.size := h.blk.lt
theorem PAt.kpSet (h : PAt B b tail ts σ w vr vt vl va) (j : Nat) (v : Value) : Kp B [TB] w (w.setCell ⟨b, j, none⟩ v) := (Kp.refl _ _ _).set h.blk (.inr ⟨h.le, by simp⟩) _ _
theorem PAt.parts (h : PAt B b tail ts σ w vr vt vl va) (k : Kp B [TB] w w') :
 Sl w' B 5 1 vr σ.rest.length (bvs σ.rest) ∧ Sl w' B 113 2 vt ts.length (wantCells ts) ∧ Sl w' B 49 3 vl σ.nodes.length (nodeCells σ.nodes) ∧ Sl w' B 160 2 va σ.above.length (opCells σ.above) ∧ (∀ t ∈ ts, JobAt w' b t.1 t.2) ∧ ∀ t ∈ tail.trees, Sl w' B 49 3 t.1 t.2.length (nodeCells t.2) ∧ Ahead 3 vl t.1 :=
 ⟨h.rest.kp k (.inl (by decide)), h.todo.kp k (.inl (by decide)), h.nodes.kp k (.inl (by decide)), h.above.kp k (.inl (by decide)), fun t ht => (h.jobs t ht).kp k (by intro T hT; simp only [List.mem_singleton] at hT; subst hT; simp), fun t ht => ⟨(h.kept t ht).1.kp k (.inl (by decide)), (h.kept t ht).2⟩⟩
end
def PA (B b : Nat) (tail : PT) (ts : List (Job × Value)) (σ : PSt) (w : World) : Prop := ∃ vr vt vl va, PAt B b tail ts σ w vr vt vl va
theorem PA.keeps {B b : Nat} {tail : PT} {ts : List (Job × Value)} {σ : PSt} {w w' : World} (h : PA B b tail ts σ w) (hk : Keeps Non w w') : PA B b tail ts σ w' := by
 obtain ⟨_, _, _, _, h⟩ := h
 exact ⟨_, _, _, _, h.keeps hk⟩
set_option maxHeartbeats 400000 in
set_option maxRecDepth 100000 in
theorem fail_at {B b : Nat} {tail : PT} {ts : List (Job × Value)} {σ : PSt} {w : World} {vr vt vl va : Value} (h : PAt B b tail ts σ w vr vt vl va) (e p : Int) :
 Calls Tryz.prog 78 #[.pointer (some ⟨b, 0, none⟩), .int .i64 e, .int .i64 p] w fun ed w' => ed = .returned (.tuple #[]) ∧ (∃ vr', PAt B b tail ts (σ.fail e p) w' vr' vt vl va) ∧ Kp B [TB] w w' := by
 obtain ⟨g0, g1, g2, g3, g4, g5, g6, g7⟩ := pcells_get vr σ.at' σ.err σ.bad vt vl va σ.path tail.cells
 have c0 : w.cell? ⟨b, 0, none⟩ = some vr := (h.blk.cell 0).trans g0
 have c2 : w.cell? ⟨b, 2, none⟩ = some (.int .i64 σ.err) := (h.blk.cell 2).trans g2
 have c3 : w.cell? ⟨b, 3, none⟩ = some (.int .i64 σ.bad) := (h.blk.cell 3).trans g3
 have f0 := h.blk.free 0
 have f2 := h.blk.free 2
 have f3 := h.blk.free 3
 clear g0 g1 g2 g3 g4 g5 g6 g7
 have H := Lib.hid h
 clear h
 by_cases he : σ.err = 0
 ·have HS : Hid (σ.fail e p = { σ with err := e, bad := p, rest := [] }) := by show _ = _; rw [PSt.fail, if_pos he]
  have hb : (σ.err == 0) = true := by rw [he]; rfl
  clear he
  go_enter Tryz.func78, Tryz.ntmps78
  go_wp2_with fail
  go_end0
  have k1 := H.out.kpSet 2 (.int .i64 e)
  have b1 := H.out.blk.set 2 (.int .i64 e)
  rw [(pcells_set ..).2.2.1] at b1
  have b2 := b1.set 3 (.int .i64 p)
  rw [(pcells_set ..).2.2.2.1] at b2
  have b3 := b2.set 0 (.slice none 0 0)
  rw [(pcells_set ..).1] at b3
  have k3 := (k1.set b1 (.inr ⟨H.out.le, by simp⟩) 3 (.int .i64 p)).set b2 (.inr ⟨H.out.le, by simp⟩) 0 (.slice none 0 0)
  obtain ⟨-, p2, p3, p4, p5, p6⟩ := H.out.parts k3
  refine ⟨rfl, ?_, k3⟩
  rw [HS.out]
  exact ⟨_, b3, H.out.le, Sl.nil _ _ _ _, p2, p3, p4, p5, p6⟩
 ·have HS : Hid (σ.fail e p = σ) := by show _ = _; rw [PSt.fail, if_neg he]
  have hb : (σ.err == 0) = false := by rw [beq_eq_false_iff_ne]; exact he
  clear he
  go_enter Tryz.func78, Tryz.ntmps78
  go_wp2_with fail
  go_end0
  refine ⟨rfl, ?_, Kp.refl _ _ _⟩
  rw [HS.out]
  exact ⟨_, H.out⟩
theorem fail_any {B b : Nat} {tail : PT} {ts : List (Job × Value)} {σ : PSt} {w : World} (h : PA B b tail ts σ w) (e p : Int) :
 Calls Tryz.prog 78 #[.pointer (some ⟨b, 0, none⟩), .int .i64 e, .int .i64 p] w fun ed w' => ed = .returned (.tuple #[]) ∧ PA B b tail ts (σ.fail e p) w' ∧ Kp B [TB] w w' := by
 obtain ⟨vr, vt, vl, va, h⟩ := h
 refine (fail_at h e p).mono ?_
 rintro ed w' ⟨h1, ⟨vr', h2⟩, h3⟩
 exact ⟨h1, ⟨_, _, _, _, h2⟩, h3⟩
structure Fit (ts : List (Job × Value)) (σ : PSt) : Prop where
 all : σ.at' + σ.rest.length ≤ 549755813888
 todo : ts.length ≤ σ.at' + 4
 nodes : σ.nodes.length ≤ σ.at'
 above : σ.above.length ≤ σ.at'
 path : σ.path.length ≤ σ.at'
 dirs : ∀ o ∈ σ.above, o.1.length ≤ σ.at' ∧ o.2.length ≤ σ.at'
set_option maxHeartbeats 400000 in
set_option maxRecDepth 100000 in
theorem at_any {B b : Nat} {tail : PT} {ts : List (Job × Value)} {σ : PSt} {w : World} (h : PA B b tail ts σ w) :
 Calls Tryz.prog 81 #[.pointer (some ⟨b, 0, none⟩)] w fun ed w' => ed = .returned (.int .i64 σ.at') ∧ w = w' := by
 obtain ⟨vr, vt, vl, va, h⟩ := h
 have c1 : w.cell? ⟨b, 1, none⟩ = some (.int .i64 σ.at') := (h.blk.cell 1).trans (pcells_get ..).2.1
 clear h
 go_enter Tryz.func81, Tryz.ntmps81
 go_wp2_with fail
 go_ret
 exact ⟨rfl, rfl⟩
set_option maxHeartbeats 400000 in
set_option maxRecDepth 100000 in
theorem left_any {B b : Nat} {tail : PT} {ts : List (Job × Value)} {σ : PSt} {w : World} (h : PA B b tail ts σ w) :
 Calls Tryz.prog 83 #[.pointer (some ⟨b, 0, none⟩)] w fun ed w' => ed = .returned (.bool (decide (0 < σ.rest.length))) ∧ w = w' := by
 obtain ⟨vr, vt, vl, va, h⟩ := h
 have c0 : w.cell? ⟨b, 0, none⟩ = some vr := (h.blk.cell 0).trans (pcells_get ..).1
 obtain ⟨a, cp, rfl, -, -⟩ := h.rest.shape
 clear h
 go_enter Tryz.func83, Tryz.ntmps83
 go_wp2_with fail
 go_ret
 exact ⟨rfl, rfl⟩
set_option maxHeartbeats 400000 in
set_option maxRecDepth 100000 in
theorem err_any {B b : Nat} {tail : PT} {ts : List (Job × Value)} {σ : PSt} {w : World} (h : PA B b tail ts σ w) :
 Calls Tryz.prog 85 #[.pointer (some ⟨b, 0, none⟩)] w fun ed w' => ed = .returned (.tuple #[.int .i64 σ.err, .int .i64 σ.bad]) ∧ Keeps Non w w' := by
 obtain ⟨vr, vt, vl, va, h⟩ := h
 have c2 : w.cell? ⟨b, 2, none⟩ = some (.int .i64 σ.err) := (h.blk.cell 2).trans (pcells_get ..).2.2.1
 have c3 : w.cell? ⟨b, 3, none⟩ = some (.int .i64 σ.bad) := (h.blk.cell 3).trans (pcells_get ..).2.2.2.1
 clear h
 go_enter Tryz.func85, Tryz.ntmps85
 go_wp2_with fail
 go_quiet (fail)
 go_wp2_with fail
 go_ret2
 exact ⟨rfl, (Keeps.refl _ _).drewN _⟩
set_option maxHeartbeats 400000 in
set_option maxRecDepth 100000 in
theorem end_any {B b : Nat} {tail : PT} {ts : List (Job × Value)} {σ : PSt} {w : World} (h : PA B b tail ts σ w) (hf : Fit ts σ) :
 Calls Tryz.prog 84 #[.pointer (some ⟨b, 0, none⟩)] w fun ed w' => ed = .returned (.tuple #[]) ∧ PA B b tail ts (σ.fail 2 ((σ.at' : Int) + (σ.rest.length : Int))) w' ∧ Kp B [TB] w w' := by
 have H := Lib.hid h
 obtain ⟨vr, vt, vl, va, h⟩ := h
 have c0 : w.cell? ⟨b, 0, none⟩ = some vr := (h.blk.cell 0).trans (pcells_get ..).1
 have c1 : w.cell? ⟨b, 1, none⟩ = some (.int .i64 σ.at') := (h.blk.cell 1).trans (pcells_get ..).2.1
 obtain ⟨a, cp, rfl, -, -⟩ := h.rest.shape
 have hall := hf.all
 clear h hf
 have e1 : IntKind.i64.wrap ((σ.at' : Int) + (σ.rest.length : Int)) = (σ.at' : Int) + (σ.rest.length : Int) := IntWalk.i64_in _ (by omega)
 have HF : Hid (∀ n : Nat, Calls Tryz.prog 78 #[.pointer (some ⟨b, 0, none⟩), .int .i64 2, .int .i64 ((σ.at' : Int) + (σ.rest.length : Int))] (w.drewN n) fun ed w' => ed = .returned (.tuple #[]) ∧ PA B b tail ts (σ.fail 2 ((σ.at' : Int) + (σ.rest.length : Int))) w' ∧ Kp B [TB] w w') :=
  fun n => (fail_any (H.out.keeps ((Keeps.refl _ _).drewN n)) 2 _).mono fun ed w' ⟨h1, h2, h3⟩ => ⟨h1, h2, ((Kp.refl _ _ _).drewN n).trans h3⟩
 go_enter Tryz.func84, Tryz.ntmps84
 go_wp2_with fail
 go_region_with (go_at_call 78; refine (HF.out 1).mono ?_; rintro e w' ⟨rfl, h1, h2⟩)
 all_goals (go_wp2_with fail; go_end0; exact ⟨rfl, h1, h2⟩)
set_option maxHeartbeats 400000 in
set_option maxRecDepth 100000 in
theorem feed_any {B b : Nat} {tail : PT} {ts : List (Job × Value)} {σ : PSt} {w : World} (s : ByteArray) (h : PA B b tail ts σ w) (hf : Fit ts σ) (hs : s.size ≤ 1099511627776) :
 Calls Tryz.prog 48 #[.pointer (some ⟨b, 0, none⟩), .string s] w fun ed w' => ed = .returned (.tuple #[]) ∧ PA B b tail ts (σ.feed s.data.toList) w' ∧ Kp B [5, TB] w w' := by
 obtain ⟨vr, vt, vl, va, h⟩ := h
 have c0 : w.cell? ⟨b, 0, none⟩ = some vr := (h.blk.cell 0).trans (pcells_get ..).1
 have c2 : w.cell? ⟨b, 2, none⟩ = some (.int .i64 σ.err) := (h.blk.cell 2).trans (pcells_get ..).2.2.1
 have hall := hf.all
 clear hf
 by_cases he : σ.err = 0
 ·have HS : Hid (σ.feed s.data.toList = { σ with rest := σ.rest ++ s.data.toList }) := by show _ = _; rw [PSt.feed, if_pos he]
  have hb : (σ.err == 0) = true := by rw [he]; rfl
  obtain ⟨i0, hi, hz0, hz1, hz2⟩ := info_parts infoByte
  have H := Lib.hid h
  have hr := h.rest
  have hlt := h.lt
  have hle := h.le
  clear he h
  go_enter Tryz.func48, Tryz.ntmps48
  go_wp2_with (at_builtin; refine wpList_append_sl rfl _ _ 45 9 rfl 5 i0 (.int .u8 0) 1 1 Tryz.underlying45 hi hz0 hz1 hz2 rfl B _ _ _ rfl _ rfl s.size (bvs s.data.toList) ?c1 hr ?c2 ?c3 ?c4 ?_)
  case c1 => omega
  case c2 => exact Src.ofString w Tryz.underlying9 s
  case c3 => unfold maxLen; omega
  case c4 => omega
  intro v' w1 hs1 hk1 hb1
  clear hb1 hr hi hz0 hz1 hz2
  have b1 := H.out.blk.kp hk1 (.inr (by decide))
  have d0 : w1.cell? ⟨b, 0, none⟩ = some vr := (b1.cell 0).trans (pcells_get ..).1
  have f0 := b1.free 0
  have B1 := Lib.hid b1
  have HS1 := Lib.hid hs1
  have HK1 := Lib.hid hk1
  obtain ⟨a', c', rfl, -, -⟩ := hs1.shape
  clear b1 hs1 hk1
  go_wp2_with fail
  go_end0
  have k2 : Kp B [TB] w1 (w1.setCell ⟨b, 0, none⟩ (.slice a' (σ.rest.length + s.size) c')) := (Kp.refl _ _ _).set B1.out (.inr ⟨H.out.le, by simp⟩) _ _
  have b2 := B1.out.set 0 (.slice a' (σ.rest.length + s.size) c')
  rw [(pcells_set ..).1] at b2
  have sub : ∀ T ∈ ([5] : List TypeId), T ∈ paTs := by intro T hT; simp only [List.mem_singleton] at hT; subst hT; simp
  have subB : ∀ T ∈ ([TB] : List TypeId), T ∈ paTs := by intro T hT; simp only [List.mem_singleton] at hT; subst hT; simp
  refine ⟨rfl, ?_, (HK1.out.mono (.inr ⟨Nat.le_refl _, by simp⟩)).trans (k2.mono (.inr ⟨Nat.le_refl _, by simp⟩))⟩
  rw [HS.out]
  refine ⟨_, _, _, _, b2, H.out.le, ?_, (H.out.todo.kp HK1.out (.inl (by decide))).kp k2 (.inl (by decide)), (H.out.nodes.kp HK1.out (.inl (by decide))).kp k2 (.inl (by decide)), (H.out.above.kp HK1.out (.inl (by decide))).kp k2 (.inl (by decide)), fun t ht => ((H.out.jobs t ht).kp HK1.out sub).kp k2 subB, fun t ht => ⟨((H.out.kept t ht).1.kp HK1.out (.inl (by decide))).kp k2 (.inl (by decide)), (H.out.kept t ht).2⟩⟩
  have := HS1.out.kp k2 (.inl (by decide))
  simpa [bvs] using this
 ·have HS : Hid (σ.feed s.data.toList = σ) := by show _ = _; rw [PSt.feed, if_neg he]
  have hb : (σ.err == 0) = false := by rw [beq_eq_false_iff_ne]; exact he
  have H := Lib.hid h
  clear he h
  go_enter Tryz.func48, Tryz.ntmps48
  go_wp2_with fail
  go_end0
  refine ⟨rfl, ?_, Kp.refl _ _ _⟩
  rw [HS.out]
  exact ⟨_, _, _, _, H.out⟩
end Go.Proofs.YtdkogijdfgfpeaaGreatDoor
