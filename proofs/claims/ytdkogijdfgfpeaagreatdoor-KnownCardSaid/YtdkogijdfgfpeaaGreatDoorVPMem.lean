/- The parser in memory: one block, its slices, the closures; Fail, At, Left, Err, End, Feed. -/
import Derived.Test.YtdkogijdfgfpeaaGreatDoorVPInv
import Derived.Deep.QuietTactic
set_option linter.unusedVariables false
namespace Go.Proofs.YtdkogijdfgfpeaaGreatDoor
open Go Go.RowKit
abbrev TB : TypeId := 109
def actV (b : Nat) : Act1 → Value
 | .none => .nilFunc
 | .open' => .func (.func 156) #[.pointer (some ⟨b, 0, none⟩)] #[]
 | .kind => .func (.func 157) #[.pointer (some ⟨b, 0, none⟩)] #[]
 | .file => .func (.func 167) #[.pointer (some ⟨b, 0, none⟩)] #[]
 | .dir => .func (.func 170) #[.pointer (some ⟨b, 0, none⟩)] #[]
 | .next' => .func (.func 47) #[.pointer (some ⟨b, 0, none⟩)] #[]
 | .more => .func (.func 114) #[.pointer (some ⟨b, 0, none⟩)] #[]
def JobAt (w : World) (b : Nat) : Job → Value → Prop
 | .word may act, f => ∃ (bm bp bt : Nat) (vm : Value), f = .func (.func 77) #[] #[.pointer (some ⟨bm, 0, none⟩), .pointer (some ⟨bp, 0, none⟩), .pointer (some ⟨bt, 0, none⟩)] ∧
  Blk w bm #[vm] 26 ∧ Sl w 0 9 1 vm may.length (svs may) ∧ Blk w bp #[.pointer (some ⟨b, 0, none⟩)] 151 ∧ Blk w bt #[actV b act] 111
 | .leads, f => f = .func (.func 168) #[.pointer (some ⟨b, 0, none⟩)] #[]
 | .name, f => f = .func (.func 174) #[.pointer (some ⟨b, 0, none⟩)] #[]
 | .keep k, f => ∃ (bp bk : Nat), f = .func (.func 173) #[] #[.pointer (some ⟨bp, 0, none⟩), .pointer (some ⟨bk, 0, none⟩)] ∧
  Blk w bp #[.pointer (some ⟨b, 0, none⟩)] 151 ∧ Blk w bk #[.int .i64 k] 47
 | .cpath, f => f = .func (.func 80) #[.pointer (some ⟨b, 0, none⟩)] #[]
 | .cref, f => f = .func (.func 129) #[.pointer (some ⟨b, 0, none⟩)] #[]
 | .csum, f => f = .func (.func 130) #[.pointer (some ⟨b, 0, none⟩)] #[]
abbrev paTs : List TypeId := [5, 113, 49, 160, TB]
theorem JobAt.kp {w w' : World} {b : Nat} {j : Job} {f : Value} (h : JobAt w b j f) {B : Nat} {Ts : List TypeId} (k : Kp B Ts w w') (hT : ∀ T ∈ Ts, T ∈ paTs) : JobAt w' b j f := by
 have hn : ∀ T : TypeId, T ∉ paTs → T ∉ Ts := fun T h1 h2 => h1 (hT T h2)
 cases j with
 | word may act =>
   obtain ⟨bm, bp, bt, vm, rfl, h1, h2, h3, h4⟩ := h
   exact ⟨bm, bp, bt, vm, rfl, h1.kp k (.inr (hn _ (by decide))), h2.kp k (.inl (hn _ (by decide))), h3.kp k (.inr (hn _ (by decide))), h4.kp k (.inr (hn _ (by decide)))⟩
 | leads => exact h
 | name => exact h
 | keep k' =>
   obtain ⟨bp, bk, rfl, h1, h2⟩ := h
   exact ⟨bp, bk, rfl, h1.kp k (.inr (hn _ (by decide))), h2.kp k (.inr (hn _ (by decide)))⟩
 | cpath => exact h
 | cref => exact h
 | csum => exact h
def wantC (t : Job × Value) : List Value := [.int .i64 (t.1.most : Nat), t.2]
def wantCells (ts : List (Job × Value)) : List Value := ts.flatMap wantC
theorem wantCells_length (ts : List (Job × Value)) : (wantCells ts).length = ts.length * 2 := by
 induction ts with
 | nil => rfl
 | cons o st ih => simp only [wantCells, List.flatMap_cons, List.length_append, List.length_cons, wantC, List.length_nil] at *; omega
theorem wantCells_append (a b : List (Job × Value)) : wantCells (a ++ b) = wantCells a ++ wantCells b := by simp [wantCells]
def pcells (vr : Value) (at' err bad : Int) (vt vl va : Value) (path : List UInt8) (tail : List Value) : Array Value :=
 (vr :: .int .i64 at' :: .int .i64 err :: .int .i64 bad :: vt :: vl :: va :: sv path :: tail).toArray
structure PT where
 cells : List Value
 trees : List (Value × List Node)
structure PAt (B b : Nat) (tail : PT) (ts : List (Job × Value)) (σ : PSt) (w : World) (vr vt vl va : Value) : Prop where
 blk : Blk w b (pcells vr σ.at' σ.err σ.bad vt vl va σ.path tail.cells) TB
 le : B ≤ b
 rest : Sl w B 5 1 vr σ.rest.length (bvs σ.rest)
 todo : Sl w B 113 2 vt ts.length (wantCells ts)
 nodes : Sl w B 49 3 vl σ.nodes.length (nodeCells σ.nodes)
 above : Sl w B 160 2 va σ.above.length (opCells σ.above)
 jobs : ∀ t ∈ ts, JobAt w b t.1 t.2
 kept : ∀ t ∈ tail.trees, Sl w B 49 3 t.1 t.2.length (nodeCells t.2) ∧ Ahead 3 vl t.1
theorem pcells_get (vr : Value) (at' err bad : Int) (vt vl va : Value) (path : List UInt8) (tail : List Value) :
 (pcells vr at' err bad vt vl va path tail)[0]? = some vr ∧ (pcells vr at' err bad vt vl va path tail)[1]? = some (.int .i64 at') ∧ (pcells vr at' err bad vt vl va path tail)[2]? = some (.int .i64 err) ∧
 (pcells vr at' err bad vt vl va path tail)[3]? = some (.int .i64 bad) ∧ (pcells vr at' err bad vt vl va path tail)[4]? = some vt ∧ (pcells vr at' err bad vt vl va path tail)[5]? = some vl ∧
 (pcells vr at' err bad vt vl va path tail)[6]? = some va ∧ (pcells vr at' err bad vt vl va path tail)[7]? = some (sv path) := by
 simp [pcells]
theorem pcells_set (vr : Value) (at' err bad : Int) (vt vl va : Value) (path : List UInt8) (tail : List Value) :
 (∀ v, (pcells vr at' err bad vt vl va path tail).setIfInBounds 0 v = pcells v at' err bad vt vl va path tail) ∧ (∀ z : Int, (pcells vr at' err bad vt vl va path tail).setIfInBounds 1 (.int .i64 z) = pcells vr z err bad vt vl va path tail) ∧
 (∀ z : Int, (pcells vr at' err bad vt vl va path tail).setIfInBounds 2 (.int .i64 z) = pcells vr at' z bad vt vl va path tail) ∧ (∀ z : Int, (pcells vr at' err bad vt vl va path tail).setIfInBounds 3 (.int .i64 z) = pcells vr at' err z vt vl va path tail) ∧
 (∀ v, (pcells vr at' err bad vt vl va path tail).setIfInBounds 4 v = pcells vr at' err bad v vl va path tail) ∧ (∀ v, (pcells vr at' err bad vt vl va path tail).setIfInBounds 5 v = pcells vr at' err bad vt v va path tail) ∧
 (∀ v, (pcells vr at' err bad vt vl va path tail).setIfInBounds 6 v = pcells vr at' err bad vt vl v path tail) ∧ (∀ p, (pcells vr at' err bad vt vl va path tail).setIfInBounds 7 (sv p) = pcells vr at' err bad vt vl va p tail) := by
 simp [pcells]
section
variable {B b : Nat} {tail : PT} {ts : List (Job × Value)} {σ : PSt} {w w' : World} {vr vt vl va : Value}
theorem PAt.keeps (h : PAt B b tail ts σ w vr vt vl va) (hk : Keeps Non w w') : PAt B b tail ts σ w' vr vt vl va := by
 have k : Kp B [] w w' := Kp.of_keeps hk
 exact ⟨h.blk.keeps hk (fun h => h), h.le, h.rest.kp k (.inl (by simp)), h.todo.kp k (.inl (by simp)), h.nodes.kp k (.inl (by simp)), h.above.kp k (.inl (by simp)), fun t ht => (h.jobs t ht).kp k (by simp), fun t ht => ⟨(h.kept t ht).1.kp k (.inl (by simp)), (h.kept t ht).2⟩⟩
theorem PAt.alloc (h : PAt B b tail ts σ w vr vt vl va) (o : Obj) : PAt B b tail ts σ (w.alloc o) vr vt vl va := h.keeps ((Keeps.refl _ _).alloc o)
theorem PAt.drewN (h : PAt B b tail ts σ w vr vt vl va) (n : Nat) : PAt B b tail ts σ (w.drewN n) vr vt vl va := h.keeps ((Keeps.refl _ _).drewN n)
theorem PAt.lt (h : PAt B b tail ts σ w vr vt vl va) : b < w.heap.size := h.blk.lt
theorem PAt.kpSet (h : PAt B b tail ts σ w vr vt vl va) (j : Nat) (v : Value) : Kp B [TB] w (w.setCell ⟨b, j, none⟩ v) := (Kp.refl _ _ _).set h.blk (.inr ⟨h.le, by simp⟩) _ _
theorem PAt.parts (h : PAt B b tail ts σ w vr vt vl va) (k : Kp B [TB] w w') :
 Sl w' B 5 1 vr σ.rest.length (bvs σ.rest) ∧ Sl w' B 113 2 vt ts.length (wantCells ts) ∧ Sl w' B 49 3 vl σ.nodes.length (nodeCells σ.nodes) ∧ Sl w' B 160 2 va σ.above.length (opCells σ.above) ∧ (∀ t ∈ ts, JobAt w' b t.1 t.2) ∧ ∀ t ∈ tail.trees, Sl w' B 49 3 t.1 t.2.length (nodeCells t.2) ∧ Ahead 3 vl t.1 :=
 ⟨h.rest.kp k (.inl (by decide)), h.todo.kp k (.inl (by decide)), h.nodes.kp k (.inl (by decide)), h.above.kp k (.inl (by decide)), fun t ht => (h.jobs t ht).kp k (by intro T hT; simp only [List.mem_singleton] at hT; subst hT; simp), fun t ht => ⟨(h.kept t ht).1.kp k (.inl (by decide)), (h.kept t ht).2⟩⟩
end
def PA (B b : Nat) (tail : PT) (ts : List (Job × Value)) (σ : PSt) (w : World) : Prop := ∃ vr vt vl va, PAt B b tail ts σ w vr vt vl va
theorem PA.keeps {B b : Nat} {tail : PT} {ts : List (Job × Value)} {σ : PSt} {w w' : World} (h : PA B b tail ts σ w) (hk : Keeps Non w w') : PA B b tail ts σ w' := by
 obtain ⟨_, _, _, _, h⟩ := h
 exact ⟨_, _, _, _, h.keeps hk⟩
set_option maxHeartbeats 400000 in
set_option maxRecDepth 100000 in
theorem fail_at {B b : Nat} {tail : PT} {ts : List (Job × Value)} {σ : PSt} {w : World} {vr vt vl va : Value} (h : PAt B b tail ts σ w vr vt vl va) (e p : Int) :
 Calls Tryz.prog 78 #[.pointer (some ⟨b, 0, none⟩), .int .i64 e, .int .i64 p] w fun ed w' => ed = .returned (.tuple #[]) ∧ (∃ vr', PAt B b tail ts (σ.fail e p) w' vr' vt vl va) ∧ Kp B [TB] w w' := by
 obtain ⟨g0, g1, g2, g3, g4, g5, g6, g7⟩ := pcells_get vr σ.at' σ.err σ.bad vt vl va σ.path tail.cells
 have c0 : w.cell? ⟨b, 0, none⟩ = some vr := (h.blk.cell 0).trans g0
 have c2 : w.cell? ⟨b, 2, none⟩ = some (.int .i64 σ.err) := (h.blk.cell 2).trans g2
 have c3 : w.cell? ⟨b, 3, none⟩ = some (.int .i64 σ.bad) := (h.blk.cell 3).trans g3
 have f0 := h.blk.free 0
 have f2 := h.blk.free 2
 have f3 := h.blk.free 3
 clear g0 g1 g2 g3 g4 g5 g6 g7
 have H := Lib.hid h
 clear h
 by_cases he : σ.err = 0
 ·have HS : Hid (σ.fail e p = { σ with err := e, bad := p, rest := [] }) := by show _ = _; rw [PSt.fail, if_pos he]
  have hb : (σ.err == 0) = true := by rw [he]; rfl
  clear he
  go_enter Tryz.func78, Tryz.ntmps78
  go_wp2_with fail
  go_end0
  have k1 := H.out.kpSet 2 (.int .i64 e)
  have b1 := H.out.blk.set 2 (.int .i64 e)
  rw [(pcells_set ..).2.2.1] at b1
  have b2 := b1.set 3 (.int .i64 p)
  rw [(pcells_set ..).2.2.2.1] at b2
  have b3 := b2.set 0 (.slice none 0 0)
  rw [(pcells_set ..).1] at b3
  have k3 := (k1.set b1 (.inr ⟨H.out.le, by simp⟩) 3 (.int .i64 p)).set b2 (.inr ⟨H.out.le, by simp⟩) 0 (.slice none 0 0)
  obtain ⟨-, p2, p3, p4, p5, p6⟩ := H.out.parts k3
  refine ⟨rfl, ?_, k3⟩
  rw [HS.out]
  exact ⟨_, b3, H.out.le, Sl.nil _ _ _ _, p2, p3, p4, p5, p6⟩
 ·have HS : Hid (σ.fail e p = σ) := by show _ = _; rw [PSt.fail, if_neg he]
  have hb : (σ.err == 0) = false := by rw [beq_eq_false_iff_ne]; exact he
  clear he
  go_enter Tryz.func78, Tryz.ntmps78
  go_wp2_with fail
  go_end0
  refine ⟨rfl, ?_, Kp.refl _ _ _⟩
  rw [HS.out]
  exact ⟨_, H.out⟩
theorem fail_any {B b : Nat} {tail : PT} {ts : List (Job × Value)} {σ : PSt} {w : World} (h : PA B b tail ts σ w) (e p : Int) :
 Calls Tryz.prog 78 #[.pointer (some ⟨b, 0, none⟩), .int .i64 e, .int .i64 p] w fun ed w' => ed = .returned (.tuple #[]) ∧ PA B b tail ts (σ.fail e p) w' ∧ Kp B [TB] w w' := by
 obtain ⟨vr, vt, vl, va, h⟩ := h
 refine (fail_at h e p).mono ?_
 rintro ed w' ⟨h1, ⟨vr', h2⟩, h3⟩
 exact ⟨h1, ⟨_, _, _, _, h2⟩, h3⟩
structure Fit (ts : List (Job × Value)) (σ : PSt) : Prop where
 all : σ.at' + σ.rest.length ≤ 549755813888
 todo : ts.length ≤ σ.at' + 4
 nodes : σ.nodes.length ≤ σ.at'
 above : σ.above.length ≤ σ.at'
 path : σ.path.length ≤ σ.at'
 dirs : ∀ o ∈ σ.above, o.1.length ≤ σ.at' ∧ o.2.length ≤ σ.at'
set_option maxHeartbeats 400000 in
set_option maxRecDepth 100000 in
theorem at_any {B b : Nat} {tail : PT} {ts : List (Job × Value)} {σ : PSt} {w : World} (h : PA B b tail ts σ w) :
 Calls Tryz.prog 81 #[.pointer (some ⟨b, 0, none⟩)] w fun ed w' => ed = .returned (.int .i64 σ.at') ∧ w = w' := by
 obtain ⟨vr, vt, vl, va, h⟩ := h
 have c1 : w.cell? ⟨b, 1, none⟩ = some (.int .i64 σ.at') := (h.blk.cell 1).trans (pcells_get ..).2.1
 clear h
 go_enter Tryz.func81, Tryz.ntmps81
 go_wp2_with fail
 go_ret
 exact ⟨rfl, rfl⟩
set_option maxHeartbeats 400000 in
set_option maxRecDepth 100000 in
theorem left_any {B b : Nat} {tail : PT} {ts : List (Job × Value)} {σ : PSt} {w : World} (h : PA B b tail ts σ w) :
 Calls Tryz.prog 83 #[.pointer (some ⟨b, 0, none⟩)] w fun ed w' => ed = .returned (.bool (decide (0 < σ.rest.length))) ∧ w = w' := by
 obtain ⟨vr, vt, vl, va, h⟩ := h
 have c0 : w.cell? ⟨b, 0, none⟩ = some vr := (h.blk.cell 0).trans (pcells_get ..).1
 obtain ⟨a, cp, rfl, -, -⟩ := h.rest.shape
 clear h
 go_enter Tryz.func83, Tryz.ntmps83
 go_wp2_with fail
 go_ret
 exact ⟨rfl, rfl⟩
set_option maxHeartbeats 400000 in
set_option maxRecDepth 100000 in
theorem err_any {B b : Nat} {tail : PT} {ts : List (Job × Value)} {σ : PSt} {w : World} (h : PA B b tail ts σ w) :
 Calls Tryz.prog 85 #[.pointer (some ⟨b, 0, none⟩)] w fun ed w' => ed = .returned (.tuple #[.int .i64 σ.err, .int .i64 σ.bad]) ∧ Keeps Non w w' := by
 obtain ⟨vr, vt, vl, va, h⟩ := h
 have c2 : w.cell? ⟨b, 2, none⟩ = some (.int .i64 σ.err) := (h.blk.cell 2).trans (pcells_get ..).2.2.1
 have c3 : w.cell? ⟨b, 3, none⟩ = some (.int .i64 σ.bad) := (h.blk.cell 3).trans (pcells_get ..).2.2.2.1
 clear h
 go_enter Tryz.func85, Tryz.ntmps85
 go_wp2_with fail
 go_quiet (fail)
 go_wp2_with fail
 go_ret2
 exact ⟨rfl, (Keeps.refl _ _).drewN _⟩
set_option maxHeartbeats 400000 in
set_option maxRecDepth 100000 in
theorem end_any {B b : Nat} {tail : PT} {ts : List (Job × Value)} {σ : PSt} {w : World} (h : PA B b tail ts σ w) (hf : Fit ts σ) :
 Calls Tryz.prog 84 #[.pointer (some ⟨b, 0, none⟩)] w fun ed w' => ed = .returned (.tuple #[]) ∧ PA B b tail ts (σ.fail 2 ((σ.at' : Int) + (σ.rest.length : Int))) w' ∧ Kp B [TB] w w' := by
 have H := Lib.hid h
 obtain ⟨vr, vt, vl, va, h⟩ := h
 have c0 : w.cell? ⟨b, 0, none⟩ = some vr := (h.blk.cell 0).trans (pcells_get ..).1
 have c1 : w.cell? ⟨b, 1, none⟩ = some (.int .i64 σ.at') := (h.blk.cell 1).trans (pcells_get ..).2.1
 obtain ⟨a, cp, rfl, -, -⟩ := h.rest.shape
 have hall := hf.all
 clear h hf
 have e1 : IntKind.i64.wrap ((σ.at' : Int) + (σ.rest.length : Int)) = (σ.at' : Int) + (σ.rest.length : Int) := IntWalk.i64_in _ (by omega)
 have HF : Hid (∀ n : Nat, Calls Tryz.prog 78 #[.pointer (some ⟨b, 0, none⟩), .int .i64 2, .int .i64 ((σ.at' : Int) + (σ.rest.length : Int))] (w.drewN n) fun ed w' => ed = .returned (.tuple #[]) ∧ PA B b tail ts (σ.fail 2 ((σ.at' : Int) + (σ.rest.length : Int))) w' ∧ Kp B [TB] w w') :=
  fun n => (fail_any (H.out.keeps ((Keeps.refl _ _).drewN n)) 2 _).mono fun ed w' ⟨h1, h2, h3⟩ => ⟨h1, h2, ((Kp.refl _ _ _).drewN n).trans h3⟩
 go_enter Tryz.func84, Tryz.ntmps84
 go_wp2_with fail
 go_region_with (go_at_call 78; refine (HF.out 1).mono ?_; rintro e w' ⟨rfl, h1, h2⟩)
 all_goals (go_wp2_with fail; go_end0; exact ⟨rfl, h1, h2⟩)
set_option maxHeartbeats 400000 in
set_option maxRecDepth 100000 in
theorem feed_any {B b : Nat} {tail : PT} {ts : List (Job × Value)} {σ : PSt} {w : World} (s : ByteArray) (h : PA B b tail ts σ w) (hf : Fit ts σ) (hs : s.size ≤ 1099511627776) :
 Calls Tryz.prog 48 #[.pointer (some ⟨b, 0, none⟩), .string s] w fun ed w' => ed = .returned (.tuple #[]) ∧ PA B b tail ts (σ.feed s.data.toList) w' ∧ Kp B [5, TB] w w' := by
 obtain ⟨vr, vt, vl, va, h⟩ := h
 have c0 : w.cell? ⟨b, 0, none⟩ = some vr := (h.blk.cell 0).trans (pcells_get ..).1
 have c2 : w.cell? ⟨b, 2, none⟩ = some (.int .i64 σ.err) := (h.blk.cell 2).trans (pcells_get ..).2.2.1
 have hall := hf.all
 clear hf
 by_cases he : σ.err = 0
 ·have HS : Hid (σ.feed s.data.toList = { σ with rest := σ.rest ++ s.data.toList }) := by show _ = _; rw [PSt.feed, if_pos he]
  have hb : (σ.err == 0) = true := by rw [he]; rfl
  obtain ⟨i0, hi, hz0, hz1, hz2⟩ := info_parts infoByte
  have H := Lib.hid h
  have hr := h.rest
  have hlt := h.lt
  have hle := h.le
  clear he h
  go_enter Tryz.func48, Tryz.ntmps48
  go_wp2_with (at_builtin; refine wpList_append_sl rfl _ _ 45 9 rfl 5 i0 (.int .u8 0) 1 1 Tryz.underlying45 hi hz0 hz1 hz2 rfl B _ _ _ rfl _ rfl s.size (bvs s.data.toList) ?c1 hr ?c2 ?c3 ?c4 ?_)
  case c1 => omega
  case c2 => exact Src.ofString w Tryz.underlying9 s
  case c3 => unfold maxLen; omega
  case c4 => omega
  intro v' w1 hs1 hk1 hb1
  clear hb1 hr hi hz0 hz1 hz2
  have b1 := H.out.blk.kp hk1 (.inr (by decide))
  have d0 : w1.cell? ⟨b, 0, none⟩ = some vr := (b1.cell 0).trans (pcells_get ..).1
  have f0 := b1.free 0
  have B1 := Lib.hid b1
  have HS1 := Lib.hid hs1
  have HK1 := Lib.hid hk1
  obtain ⟨a', c', rfl, -, -⟩ := hs1.shape
  clear b1 hs1 hk1
  go_wp2_with fail
  go_end0
  have k2 : Kp B [TB] w1 (w1.setCell ⟨b, 0, none⟩ (.slice a' (σ.rest.length + s.size) c')) := (Kp.refl _ _ _).set B1.out (.inr ⟨H.out.le, by simp⟩) _ _
  have b2 := B1.out.set 0 (.slice a' (σ.rest.length + s.size) c')
  rw [(pcells_set ..).1] at b2
  have sub : ∀ T ∈ ([5] : List TypeId), T ∈ paTs := by intro T hT; simp only [List.mem_singleton] at hT; subst hT; simp
  have subB : ∀ T ∈ ([TB] : List TypeId), T ∈ paTs := by intro T hT; simp only [List.mem_singleton] at hT; subst hT; simp
  refine ⟨rfl, ?_, (HK1.out.mono (.inr ⟨Nat.le_refl _, by simp⟩)).trans (k2.mono (.inr ⟨Nat.le_refl _, by simp⟩))⟩
  rw [HS.out]
  refine ⟨_, _, _, _, b2, H.out.le, ?_, (H.out.todo.kp HK1.out (.inl (by decide))).kp k2 (.inl (by decide)), (H.out.nodes.kp HK1.out (.inl (by decide))).kp k2 (.inl (by decide)), (H.out.above.kp HK1.out (.inl (by decide))).kp k2 (.inl (by decide)), fun t ht => ((H.out.jobs t ht).kp HK1.out sub).kp k2 subB, fun t ht => ⟨((H.out.kept t ht).1.kp HK1.out (.inl (by decide))).kp k2 (.inl (by decide)), (H.out.kept t ht).2⟩⟩
  have := HS1.out.kp k2 (.inl (by decide))
  simpa [bvs] using this
 ·have HS : Hid (σ.feed s.data.toList = σ) := by show _ = _; rw [PSt.feed, if_neg he]
  have hb : (σ.err == 0) = false := by rw [beq_eq_false_iff_ne]; exact he
  have H := Lib.hid h
  clear he h
  go_enter Tryz.func48, Tryz.ntmps48
  go_wp2_with fail
  go_end0
  refine ⟨rfl, ?_, Kp.refl _ _ _⟩
  rw [HS.out]
  exact ⟨_, _, _, _, H.out⟩
theorem num64_lt : ∀ l : List UInt8, num64 l < 256 ^ l.length
 | [] => by simp [num64]
 | b :: r => by
   have h1 := num64_lt r
   have h2 := UInt8.toNat_lt b
   simp only [num64, List.length_cons, Nat.pow_succ]
   omega
theorem num64_snoc : ∀ (l : List UInt8) (b : UInt8), num64 (l ++ [b]) = num64 l + b.toNat * 256 ^ l.length
 | [], b => by simp [num64]
 | a :: r, b => by
   have h : 256 * (b.toNat * 256 ^ r.length) = b.toNat * (256 ^ r.length * 256) := by rw [Nat.mul_comm 256, Nat.mul_assoc]
   simp only [List.cons_append, num64, num64_snoc r b, List.length_cons, Nat.pow_succ, Nat.mul_add, h]
   omega
theorem or_byte (n x k : Nat) (hk : k < 8) (hn : n < 256 ^ k) (hx : x < 256) : bits BinOp.or IntKind.u64 (n : Int) (IntKind.u64.wrap ((x : Int) * 2 ^ (8 * k))) = ((n + x * 256 ^ k : Nat) : Int) := by
 have h256 : 256 ^ k = 2 ^ (8 * k) := by rw [Nat.pow_mul]
 have hle : 2 ^ (8 * k) * 256 ≤ 2 ^ 64 := by
  have : 2 ^ (8 * k) * 256 = 2 ^ (8 * k + 8) := by rw [Nat.pow_add]
  rw [this]
  exact Nat.pow_le_pow_right (by omega) (by omega)
 rw [h256] at hn ⊢
 have hxm : x * 2 ^ (8 * k) < 2 ^ 64 := by
  have : x * 2 ^ (8 * k) ≤ 255 * 2 ^ (8 * k) := Nat.mul_le_mul_right _ (by omega)
  have h0 : 0 < 2 ^ (8 * k) := Nat.pow_pos (by omega)
  omega
 have hsum : n + x * 2 ^ (8 * k) < 2 ^ 64 := by
  have : x * 2 ^ (8 * k) ≤ 255 * 2 ^ (8 * k) := Nat.mul_le_mul_right _ (by omega)
  omega
 have e1 : IntKind.u64.wrap ((x : Int) * 2 ^ (8 * k)) = ((x * 2 ^ (8 * k) : Nat) : Int) := by
  have : ((x : Int) * 2 ^ (8 * k)) = ((x * 2 ^ (8 * k) : Nat) : Int) := by simp
  rw [this]
  generalize x * 2 ^ (8 * k) = m at *
  show (m : Int) % 2 ^ 64 = _
  omega
 rw [e1]
 have hor : n ||| x * 2 ^ (8 * k) = n + x * 2 ^ (8 * k) := by
  rw [Nat.or_comm, Nat.mul_comm x, ← Nat.two_pow_add_eq_or_of_lt hn, Nat.add_comm]
 generalize hm : x * 2 ^ (8 * k) = m at *
 have hx : (BitVec.ofInt 64 (n : Int) ||| BitVec.ofInt 64 (m : Int)).toNat = n + m := by
  rw [BitVec.toNat_or, BitVec.toNat_ofInt, BitVec.toNat_ofInt]
  rw [show ((n : Int) % ((2 ^ 64 : Nat) : Int)).toNat = n by omega, show ((m : Int) % ((2 ^ 64 : Nat) : Int)).toNat = m by omega, hor]
 show IntKind.u64.wrap ((BitVec.ofInt 64 (n : Int) ||| BitVec.ofInt 64 (m : Int)).toNat : Int) = _
 rw [hx]
 show ((n + m : Nat) : Int) % 2 ^ 64 = _
 omega
theorem num64_take (l : List UInt8) (k : Nat) (h : k < l.length) : num64 (l.take (k + 1)) = num64 (l.take k) + (l.getD k 0).toNat * 256 ^ k := by
 rw [List.take_succ_eq_append_getElem h, num64_snoc, List.length_take, Nat.min_eq_left (by omega)]
 simp [List.getD, List.getElem?_eq_getElem h]
theorem padN_8 (n : Nat) : padN (8 + n) = padN n := by unfold padN; omega
theorem next_done {B b : Nat} {tail : PT} {ts : List (Job × Value)} {σ : PSt} {w : World} {vr vt vl va : Value} (H : PAt B b tail ts σ w vr vt vl va) (r : List UInt8) (p : Nat) (v' : Value) (hs : Sl w B 5 1 v' r.length (bvs r)) :
 PA B b tail ts { σ with rest := r, at' := p } ((w.setCell ⟨b, 0, none⟩ v').setCell ⟨b, 1, none⟩ (.int .i64 p)) ∧ Kp B [TB] w ((w.setCell ⟨b, 0, none⟩ v').setCell ⟨b, 1, none⟩ (.int .i64 p)) := by
 have k1 := H.kpSet 0 v'
 have b1 := H.blk.set 0 v'
 rw [(pcells_set ..).1] at b1
 have k2 := k1.set b1 (.inr ⟨H.le, by simp⟩) 1 (.int .i64 p)
 have b2 := b1.set 1 (.int .i64 p)
 rw [(pcells_set ..).2.1] at b2
 obtain ⟨-, p2, p3, p4, p5, p6⟩ := H.parts k2
 exact ⟨⟨_, _, _, _, b2, H.le, hs.kp k2 (.inl (by decide)), p2, p3, p4, p5, p6⟩, k2⟩
theorem next_end {B b : Nat} {tail : PT} {ts : List (Job × Value)} {σ : PSt} {w : World} {br orr cp : Nat} {vt vl va : Value} (H : PAt B b tail ts σ w (.slice (some ⟨br, orr, none⟩) σ.rest.length cp) vt vl va) (m : Nat) (hm : σ.rest.length = m) :
 Sl w B 5 1 (.slice (some ⟨br, orr, none⟩) (σ.rest.length - m) 0) (σ.rest.drop m).length (bvs (σ.rest.drop m)) := by
 obtain ⟨c, hb, hB⟩ := H.rest.blk
 rw [List.drop_eq_nil_of_le (by omega), show σ.rest.length - m = 0 by omega]
 obtain ⟨q1, ⟨q2, q3⟩ | ⟨b', off, cap', c', hv, hB', hb', h3, h4, h5, h6⟩⟩ := H.rest
 ·cases q2
 ·cases hv
  exact ⟨rfl, .inr ⟨_, _, _, _, rfl, hB', hb', Nat.le_refl _, by simp [maxLen], by omega, fun j hj => by simp at hj⟩⟩
set_option maxHeartbeats 1600000 in
set_option maxRecDepth 100000 in
theorem next_any {B b : Nat} {tail : PT} {ts : List (Job × Value)} {σ : PSt} {w : World} (h : PA B b tail ts σ w) (hf : Fit ts σ) (most : Nat) (hm : most ≤ 1000) :
 Calls Tryz.prog 82 #[.pointer (some ⟨b, 0, none⟩), .int .i64 most] w fun ed w' => ed = .returned (.tuple #[.string ⟨((σ.next most).1.getD []).toArray⟩, .bool (σ.next most).1.isSome]) ∧ PA B b tail ts (σ.next most).2 w' ∧ Kp B [TB] w w' := by
 obtain ⟨vr, vt, vl, va, h⟩ := h
 obtain ⟨g0, g1, g2, g3, g4, g5, g6, g7⟩ := pcells_get vr σ.at' σ.err σ.bad vt vl va σ.path tail.cells
 have c0 : w.cell? ⟨b, 0, none⟩ = some vr := (h.blk.cell 0).trans g0
 have c1 : w.cell? ⟨b, 1, none⟩ = some (.int .i64 σ.at') := (h.blk.cell 1).trans g1
 have c2 : w.cell? ⟨b, 2, none⟩ = some (.int .i64 σ.err) := (h.blk.cell 2).trans g2
 have f0 := h.blk.free 0
 have f1 := h.blk.free 1
 have hall := hf.all
 obtain ⟨a, cp, rfl, hl1, hl2⟩ := h.rest.shape
 unfold maxLen at hl2
 have H := Lib.hid h
 clear h hf g0 g1 g2 g3 g4 g5 g6 g7
 by_cases he : σ.err = 0
 ·have hb : (σ.err == 0) = true := by rw [he]; rfl
  have hb2 : (σ.err != 0) = false := by rw [he]; rfl
  by_cases h8 : σ.rest.length < 8
  ·have hd : decide ((σ.rest.length : Int) < 8) = true := by simp; omega
   have HN : Hid (σ.next most = (.none, σ)) := by show _ = _; rw [PSt.next, if_pos (.inr h8)]
   clear he
   go_enter Tryz.func82, Tryz.ntmps82
   go_wp2_with fail
   go_ret2
   rw [HN.out]
   exact ⟨rfl, ⟨_, _, _, _, H.out⟩, Kp.refl _ _ _⟩
  ·have hd : decide ((σ.rest.length : Int) < 8) = false := by simp; omega
   obtain ⟨br, orr, cp', hsh, hBr, -, -, hlt, hcr, -⟩ := H.out.rest.pos (by omega)
   cases hsh
   have HE := Lib.hid he
   have HCR : Hid (∀ j, j < σ.rest.length → w.cell? ⟨br, orr + j, none⟩ = some (bv (σ.rest.getD j 0))) := fun j hj => by
    rw [hcr j (by omega)]; simp [bvs, List.getD, List.getElem?_eq_getElem hj]
   clear he hcr
   go_enter Tryz.func82, Tryz.ntmps82
   go_wp2_with fail
   go_loopg [6, 26] 8 (fun gk n i wr => ∃ k : Nat, gk = 8 - k ∧ k ≤ 8 ∧ i = .int .i64 k ∧ n = .int .u64 (num64 (σ.rest.take k) : Nat) ∧ w = wr)
   case atStart => exact ⟨0, rfl, by omega, rfl, rfl, rfl⟩
   case round =>
    obtain ⟨k, rfl, hk, rfl, rfl, rfl⟩ := hrel
    by_cases hk8 : k < 8
    ·have cc := HCR.out k (by omega)
     unfold bv at cc
     have hkl : k < σ.rest.length := by omega
     generalize hx : σ.rest.getD k 0 = x at *
     generalize hn : num64 (σ.rest.take k) = n at *
     have HX := Lib.hid hx
     have HN := Lib.hid hn
     clear hx hn
     have hx256 := UInt8.toNat_lt x
     have hnk : n < 256 ^ k := by
      have := num64_lt (σ.rest.take k)
      rw [HN.out, List.length_take, Nat.min_eq_left (by omega)] at this
      exact this
     have ho := or_byte n x.toNat k hk8 hnk hx256
     have HNX : Hid (num64 (σ.rest.take (k + 1)) = n + x.toNat * 256 ^ k) := by show _ = _; rw [num64_take _ _ hkl, HN.out, HX.out]
     clear hnk
     generalize n + x.toNat * 256 ^ k = nx at *
     go_wp2_with fail
     go_roundg (8 - (k + 1))
     case measure => omega
     case rel => exact ⟨k + 1, rfl, by omega, by go_num, by rw [HNX.out], rfl⟩
    ·obtain rfl : k = 8 := by omega
     generalize hn : num64 (σ.rest.take 8) = n at *
     have HN := Lib.hid hn
     clear hn
     have hn64 : n < 18446744073709551616 := by
      have := num64_lt (σ.rest.take 8)
      rw [HN.out, List.length_take, Nat.min_eq_left (by omega)] at this
      exact this
     by_cases hmn : most < n
     ·have hd3 : decide ((most : Int) < (n : Int)) = true := by simp; omega
      have hd4 : decide (most < n) = true := by simp; omega
      have HX : Hid (σ.next most = (.none, σ.fail 3 σ.at')) := by
       show _ = _
       rw [PSt.next, if_neg (by rw [HE.out]; simp; omega), HN.out, if_pos hmn]
      clear hmn
      go_wp2_with fail
      refine (fail_any ⟨_, _, _, _, H.out⟩ 3 _).mono ?_
      rintro e w' ⟨rfl, h1, h2⟩
      have H1 := Lib.hid h1
      have H2 := Lib.hid h2
      clear h1 h2
      go_wp2_with fail
      go_ret2
      rw [HX.out]
      exact ⟨rfl, H1.out, H2.out⟩
     ·have hd3 : decide ((most : Int) < (n : Int)) = false := by simp; omega
      have hd4 : decide (most < n) = false := by simp; omega
      have hand : bits BinOp.and IntKind.i64 (-(8 + (n : Int))) 7 = (padN n : Int) := by
       have := neg_and7 (8 + n)
       rw [padN_8] at this
       rw [← this]
       congr 2
      have hp7 := padN_lt n
      have hn1 : n ≤ 1000 := by omega
      by_cases hful : σ.rest.length < 8 + n + padN n
      ·have hd5 : decide ((σ.rest.length : Int) < 8 + (n : Int) + (padN n : Int)) = true := by simp; omega
       have HX : Hid (σ.next most = (.none, σ)) := by
        show _ = _
        rw [PSt.next, if_neg (by rw [HE.out]; simp; omega), HN.out, if_neg hmn, if_pos hful]
       clear hmn
       go_wp2_with fail
       go_ret2
       rw [HX.out]
       exact ⟨rfl, ⟨_, _, _, _, H.out⟩, Kp.refl _ _ _⟩
      ·have hd5 : decide ((σ.rest.length : Int) < 8 + (n : Int) + (padN n : Int)) = false := by simp; omega
       go_upto_region 16 with (fail)
       have e1 : (8 + (n : Int)).toNat = 8 + n := by omega
       have e2 : (8 + (n : Int) + (padN n : Int)).toNat = 8 + n + padN n := by omega
       have hfl : 8 + n + padN n ≤ σ.rest.length := by omega
       have HX : Hid (σ.next most = if ((σ.rest.drop (8 + n)).take (padN n)).any (· != 0) then (.none, σ.fail 4 σ.at') else (.some ((σ.rest.drop 8).take n), { σ with rest := σ.rest.drop (8 + n + padN n), at' := σ.at' + (8 + n + padN n) })) := by
        show _ = _
        rw [PSt.next, if_neg (by rw [HE.out]; simp; omega), HN.out, if_neg hmn, if_neg hful]
       clear hmn hful
       go_cut [10] (fun v wx => v = .string ⟨((σ.rest.drop 8).take n).toArray⟩ ∧ w = wx)
       case first =>
        have hsl := H.out.rest
        by_cases hn0 : n = 0
        ·subst hn0
         have kc : (convert 45 9 (.slice (some ⟨br, orr, none⟩) 0 0)).run Tryz.prog w = .ok (.string ⟨#[]⟩) w := by
          have h0 := hsl.take (m := 0) (Nat.zero_le _)
          obtain ⟨c, hb, hB⟩ := hsl.blk
          have h1 : Sl w B 5 1 (.slice (some ⟨br, orr, none⟩) 0 0) 0 (bvs []) := by
           obtain ⟨q1, ⟨q2, q3⟩ | ⟨b', off, cap', c', hv, hB', hb', h3, h4, h5, h6⟩⟩ := h0
           ·cases q2
           ·cases hv; exact ⟨rfl, .inr ⟨_, _, _, _, rfl, hB', hb', Nat.le_refl _, by simp [maxLen], by omega, fun j hj => by omega⟩⟩
          exact run_string_sl 45 5 Tryz.underlying45 Tryz.underlying5 9 Tryz.underlying9 [] h1
         go_wp2_with fail
         go_meet
         exact ⟨by simp, rfl⟩
        ·have kc : (convert 45 9 (.slice (some ⟨br, orr + 8, none⟩) n n)).run Tryz.prog w = .ok (.string ⟨((σ.rest.drop 8).take n).toArray⟩) w := by
          obtain ⟨q1, ⟨q2, q3⟩ | ⟨b', off, cap', c', hv, hB', hb', h3, h4, h5, h6⟩⟩ := hsl
          ·cases q2
          ·cases hv
           have h1 : Sl w B 5 1 (.slice (some ⟨br, orr + 8, none⟩) n n) n (bvs ((σ.rest.drop 8).take n)) := by
            refine ⟨by simp [bvs]; omega, .inr ⟨_, _, _, _, rfl, hB', hb', Nat.le_refl _, by unfold maxLen; omega, by omega, fun j hj => ?_⟩⟩
            rw [Nat.add_assoc, h6 _ (by omega)]
            simp only [bvs, List.getElem?_map, List.getElem?_take, List.getElem?_drop]
            rw [if_pos (by omega)]
           exact run_string_sl 45 5 Tryz.underlying45 Tryz.underlying5 9 Tryz.underlying9 _ h1
         have hn8 : ¬ 8 + n = 8 := by omega
         clear hsl
         go_wp2_with fail
         go_meet
         exact ⟨rfl, rfl⟩
       case rest =>
        obtain ⟨rfl, rfl⟩ := hcut
        have HPAD : Hid (∀ k, k < padN n → (((σ.rest.drop (8 + n)).take (padN n))[k]?).isSome = true) := fun k hk => by simp; omega
        by_cases hcp : cp = 8 + n
        ·have hp0 : padN n = 0 := by omega
         have hcf2 : cp - (8 + n + padN n) = 0 := by omega
         have hcf : cp = 8 + n + padN n := by omega
         have HDN := Lib.hid (next_done H.out (σ.rest.drop (8 + n)) (σ.at' + (8 + n)) (.slice (some ⟨br, orr, none⟩) (σ.rest.length - (8 + n)) 0) (next_end H.out (8 + n) (by omega)))
         have HX3 : Hid (σ.next most = (.some ((σ.rest.drop 8).take n), { σ with rest := σ.rest.drop (8 + n), at' := σ.at' + (8 + n) })) := by
          show _ = _
          rw [HX.out, if_neg]
          ·rw [hp0, Nat.add_zero]
          ·rw [hp0]; simp
         clear HX
         go_wp2_with fail
         go_loopg [84] 0 (fun gk iv wr => iv = .int .i64 0 ∧ w = wr)
         case atStart => exact ⟨rfl, rfl⟩
         case round =>
          obtain ⟨rfl, rfl⟩ := hrel
          go_wp2_with fail
          go_ret2
          rw [HX3.out]
          have := HDN.out
          simp only [Int.natCast_add] at this
          exact ⟨rfl, this⟩
        ·have hcp2 : ¬ cp - (8 + n) = 0 := by omega
         go_wp2_with fail
         go_loopg [84] (padN n) (fun gk iv wr => ∃ k : Nat, gk = padN n - k ∧ k ≤ padN n ∧ iv = .int .i64 k ∧ w = wr ∧ Hid (∀ j, j < k → σ.rest.getD (8 + n + j) 0 = 0))
         case atStart => exact ⟨0, rfl, Nat.zero_le _, rfl, rfl, fun j hj => by omega⟩
         case round =>
          obtain ⟨k, rfl, hk, rfl, rfl, HZ⟩ := hrel
          by_cases hlt2 : k < padN n
          ·have cc := HCR.out (8 + n + k) (by omega)
           unfold bv at cc
           rw [show orr + (8 + n + k) = orr + (8 + n) + k by omega] at cc
           generalize hx : σ.rest.getD (8 + n + k) 0 = x at *
           have HX2 := Lib.hid hx
           clear hx
           have hx256 := UInt8.toNat_lt x
           by_cases hx0 : x = 0
           ·have hb3 : ((x.toNat : Int) == 0) = true := by rw [hx0]; rfl
            have hb4 : ((x.toNat : Int) != 0) = false := by unfold bne; rw [hb3]; rfl
            have HZ2 : Hid (∀ j, j < k + 1 → σ.rest.getD (8 + n + j) 0 = 0) := by
             intro j hj
             by_cases e : j = k
             ·rw [e, HX2.out, hx0]
             ·exact HZ.out j (by omega)
            clear hx0
            go_wp2_with fail
            go_roundg (padN n - (k + 1))
            case measure => omega
            case rel => exact ⟨k + 1, rfl, by omega, by go_num, rfl, HZ2⟩
           ·have hb3 : ((x.toNat : Int) == 0) = false := by
             rw [beq_eq_false_iff_ne]; intro e; exact hx0 (UInt8.toNat_inj.1 (show x.toNat = 0 by omega))
            have hb4 : ((x.toNat : Int) != 0) = true := by unfold bne; rw [hb3]; rfl
            have HX3 : Hid (σ.next most = (.none, σ.fail 4 σ.at')) := by
             show _ = _
             rw [HX.out, if_pos]
             rw [List.any_eq_true]
             refine ⟨x, ?_, by simpa using hx0⟩
             rw [← HX2.out]
             have hjl : 8 + n + k < σ.rest.length := by omega
             rw [List.getD, List.getElem?_eq_getElem hjl]
             simp only [Option.getD_some]
             rw [List.mem_take_iff_getElem]
             exact ⟨k, by simp; omega, by simp⟩
            clear hx0 HX
            go_wp2_with fail
            refine (fail_any ⟨_, _, _, _, H.out⟩ 4 _).mono ?_
            rintro e w' ⟨rfl, h1, h2⟩
            have H1 := Lib.hid h1
            have H2 := Lib.hid h2
            clear h1 h2
            go_wp2_with fail
            go_ret2
            rw [HX3.out]
            exact ⟨rfl, H1.out, H2.out⟩
          ·obtain rfl : k = padN n := by omega
           have HX3 : Hid (σ.next most = (.some ((σ.rest.drop 8).take n), { σ with rest := σ.rest.drop (8 + n + padN n), at' := σ.at' + (8 + n + padN n) })) := by
            show _ = _
            rw [HX.out, if_neg]
            intro hany
            rw [List.any_eq_true] at hany
            obtain ⟨y, hy, hy0⟩ := hany
            rw [List.mem_take_iff_getElem] at hy
            obtain ⟨j, hj, rfl⟩ := hy
            have := HZ.out j (by simp at hj; omega)
            rw [List.getD, List.getElem?_eq_getElem (by simp at hj; omega)] at this
            simp only [Option.getD_some] at this
            simp [this] at hy0
           clear HX
           by_cases hcf : cp = 8 + n + padN n
           ·have hcf2 : cp - (8 + n + padN n) = 0 := by omega
            have HDN := Lib.hid (next_done H.out (σ.rest.drop (8 + n + padN n)) (σ.at' + (8 + n + padN n)) (.slice (some ⟨br, orr, none⟩) (σ.rest.length - (8 + n + padN n)) 0) (next_end H.out (8 + n + padN n) (by omega)))
            go_wp2_with fail
            go_ret2
            rw [HX3.out]
            have := HDN.out
            simp only [Int.natCast_add] at this
            exact ⟨rfl, this⟩
           ·have hcf2 : ¬ cp - (8 + n + padN n) = 0 := by omega
            have hdr := H.out.rest.drop (m := 8 + n + padN n) hfl
            have hdn := next_done H.out (σ.rest.drop (8 + n + padN n)) (σ.at' + (8 + n + padN n)) _ (by simpa [bvs] using hdr)
            have HDN := Lib.hid hdn
            clear hdr hdn
            go_wp2_with fail
            go_ret2
            rw [HX3.out]
            have := HDN.out
            simp only [Int.natCast_add] at this
            exact ⟨rfl, this⟩
 ·have hb : (σ.err == 0) = false := by rw [beq_eq_false_iff_ne]; exact he
  have hb2 : (σ.err != 0) = true := by unfold bne; rw [hb]; rfl
  have HN : Hid (σ.next most = (.none, σ)) := by show _ = _; rw [PSt.next, if_pos (.inl he)]
  clear he
  go_enter Tryz.func82, Tryz.ntmps82
  go_wp2_with fail
  go_ret2
  rw [HN.out]
  exact ⟨rfl, ⟨_, _, _, _, H.out⟩, Kp.refl _ _ _⟩
end Go.Proofs.YtdkogijdfgfpeaaGreatDoor
