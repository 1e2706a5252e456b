/- The parser in memory: one block, its slices, the closures; Fail, At, Left, Err, End, Feed. -/
import Derived.Test.YtflkafnhhadphaaDoorChecked
import Derived.Test.YtflkafnhhadphaaDoorParse
import Derived.Deep.QuietTactic
namespace Go.Proofs.YtflkafnhhadphaaDoor
open Go Go.RowKit
set_option linter.unusedVariables false

/-- the type of the block that holds the parser -/
abbrev TB : TypeId := 59
def actV (b : Nat) : Act1 → Value
  | .none => .nilFunc
  | .open' => .func (.func 70) #[.pointer (some ⟨b, 0, none⟩)] #[]
  | .kind => .func (.func 71) #[.pointer (some ⟨b, 0, none⟩)] #[]
  | .file => .func (.func 80) #[.pointer (some ⟨b, 0, none⟩)] #[]
  | .dir => .func (.func 84) #[.pointer (some ⟨b, 0, none⟩)] #[]
/-- a function value does a job -/
def JobAt (w : World) (b : Nat) : Job → Value → Prop
  | .word may act, f => ∃ (bm bp bt : Nat) (vm : Value), f = .func (.func 68) #[] #[.pointer (some ⟨bm, 0, none⟩), .pointer (some ⟨bp, 0, none⟩), .pointer (some ⟨bt, 0, none⟩)] ∧
      Blk w bm #[vm] 39 ∧ Sl w 0 9 1 vm may.length (svs may) ∧ Blk w bp #[.pointer (some ⟨b, 0, none⟩)] 89 ∧ Blk w bt #[actV b act] 91
  | .leads, f => f = .func (.func 82) #[.pointer (some ⟨b, 0, none⟩)] #[]
  | .name, f => f = .func (.func 89) #[.pointer (some ⟨b, 0, none⟩)] #[]
  | .keep k, f => ∃ (bp bk : Nat), f = .func (.func 88) #[] #[.pointer (some ⟨bp, 0, none⟩), .pointer (some ⟨bk, 0, none⟩)] ∧
      Blk w bp #[.pointer (some ⟨b, 0, none⟩)] 89 ∧ Blk w bk #[.int .i64 k] 32
/-- the types of the blocks that the parser writes -/
abbrev paTs : List TypeId := [5, 93, 34, 72, TB]
theorem JobAt.kp {w w' : World} {b : Nat} {j : Job} {f : Value} (h : JobAt w b j f) {B : Nat} {Ts : List TypeId} (k : Kp B Ts w w') (hT : ∀ T ∈ Ts, T ∈ paTs) : JobAt w' b j f := by
  have hn : ∀ T : TypeId, T ∉ paTs → T ∉ Ts := fun T h1 h2 => h1 (hT T h2)
  cases j with
  | word may act =>
    obtain ⟨bm, bp, bt, vm, rfl, h1, h2, h3, h4⟩ := h
    exact ⟨bm, bp, bt, vm, rfl, h1.kp k (.inr (hn _ (by decide))), h2.kp k (.inl (hn _ (by decide))), h3.kp k (.inr (hn _ (by decide))), h4.kp k (.inr (hn _ (by decide)))⟩
  | leads => exact h
  | name => exact h
  | keep k' =>
    obtain ⟨bp, bk, rfl, h1, h2⟩ := h
    exact ⟨bp, bk, rfl, h1.kp k (.inr (hn _ (by decide))), h2.kp k (.inr (hn _ (by decide)))⟩
def wantC (t : Job × Value) : List Value := [.int .i64 (t.1.most : Nat), t.2]
def wantCells (ts : List (Job × Value)) : List Value := ts.flatMap wantC
theorem wantCells_length (ts : List (Job × Value)) : (wantCells ts).length = ts.length * 2 := by
  induction ts with
  | nil => rfl
  | cons o st ih => simp only [wantCells, List.flatMap_cons, List.length_append, List.length_cons, wantC, List.length_nil] at *; omega
theorem wantCells_append (a b : List (Job × Value)) : wantCells (a ++ b) = wantCells a ++ wantCells b := by simp [wantCells]
/-- the parser's block -/
def pcells (vr : Value) (at' err bad : Int) (vt vl va : Value) (path : List UInt8) (tail : List Value) : Array Value :=
  (vr :: .int .i64 at' :: .int .i64 err :: .int .i64 bad :: vt :: vl :: va :: sv path :: tail).toArray
/-- the parser in block b; all of its own from block B on -/
structure PAt (B b : Nat) (tail : List Value) (ts : List (Job × Value)) (σ : PSt) (w : World) (vr vt vl va : Value) : Prop where
  blk : Blk w b (pcells vr σ.at' σ.err σ.bad vt vl va σ.path tail) TB
  le : B ≤ b
  rest : Sl w B 5 1 vr σ.rest.length (bvs σ.rest)
  todo : Sl w B 93 2 vt ts.length (wantCells ts)
  nodes : Sl w B 34 3 vl σ.nodes.length (nodeCells σ.nodes)
  above : Sl w B 72 2 va σ.above.length (opCells σ.above)
  jobs : ∀ t ∈ ts, JobAt w b t.1 t.2
theorem pcells_get (vr : Value) (at' err bad : Int) (vt vl va : Value) (path : List UInt8) (tail : List Value) :
    (pcells vr at' err bad vt vl va path tail)[0]? = some vr ∧ (pcells vr at' err bad vt vl va path tail)[1]? = some (.int .i64 at') ∧ (pcells vr at' err bad vt vl va path tail)[2]? = some (.int .i64 err) ∧
    (pcells vr at' err bad vt vl va path tail)[3]? = some (.int .i64 bad) ∧ (pcells vr at' err bad vt vl va path tail)[4]? = some vt ∧ (pcells vr at' err bad vt vl va path tail)[5]? = some vl ∧
    (pcells vr at' err bad vt vl va path tail)[6]? = some va ∧ (pcells vr at' err bad vt vl va path tail)[7]? = some (sv path) := by
  simp [pcells]
theorem pcells_set (vr : Value) (at' err bad : Int) (vt vl va : Value) (path : List UInt8) (tail : List Value) :
    (∀ v, (pcells vr at' err bad vt vl va path tail).setIfInBounds 0 v = pcells v at' err bad vt vl va path tail) ∧ (∀ z : Int, (pcells vr at' err bad vt vl va path tail).setIfInBounds 1 (.int .i64 z) = pcells vr z err bad vt vl va path tail) ∧
    (∀ z : Int, (pcells vr at' err bad vt vl va path tail).setIfInBounds 2 (.int .i64 z) = pcells vr at' z bad vt vl va path tail) ∧ (∀ z : Int, (pcells vr at' err bad vt vl va path tail).setIfInBounds 3 (.int .i64 z) = pcells vr at' err z vt vl va path tail) ∧
    (∀ v, (pcells vr at' err bad vt vl va path tail).setIfInBounds 4 v = pcells vr at' err bad v vl va path tail) ∧ (∀ v, (pcells vr at' err bad vt vl va path tail).setIfInBounds 5 v = pcells vr at' err bad vt v va path tail) ∧
    (∀ v, (pcells vr at' err bad vt vl va path tail).setIfInBounds 6 v = pcells vr at' err bad vt vl v path tail) ∧ (∀ p, (pcells vr at' err bad vt vl va path tail).setIfInBounds 7 (sv p) = pcells vr at' err bad vt vl va p tail) := by
  simp [pcells]
section
variable {B b : Nat} {tail : List Value} {ts : List (Job × Value)} {σ : PSt} {w w' : World} {vr vt vl va : Value}
theorem PAt.keeps (h : PAt B b tail ts σ w vr vt vl va) (hk : Keeps Non w w') : PAt B b tail ts σ w' vr vt vl va := by
  have k : Kp B [] w w' := Kp.of_keeps hk
  exact ⟨h.blk.keeps hk (fun h => h), h.le, h.rest.kp k (.inl (by simp)), h.todo.kp k (.inl (by simp)), h.nodes.kp k (.inl (by simp)), h.above.kp k (.inl (by simp)), fun t ht => (h.jobs t ht).kp k (by simp)⟩
theorem PAt.alloc (h : PAt B b tail ts σ w vr vt vl va) (o : Obj) : PAt B b tail ts σ (w.alloc o) vr vt vl va := h.keeps ((Keeps.refl _ _).alloc o)
theorem PAt.drewN (h : PAt B b tail ts σ w vr vt vl va) (n : Nat) : PAt B b tail ts σ (w.drewN n) vr vt vl va := h.keeps ((Keeps.refl _ _).drewN n)
theorem PAt.lt (h : PAt B b tail ts σ w vr vt vl va) : b < w.heap.size := h.blk.lt
theorem PAt.kpSet (h : PAt B b tail ts σ w vr vt vl va) (j : Nat) (v : Value) : Kp B [TB] w (w.setCell ⟨b, j, none⟩ v) := (Kp.refl _ _ _).set h.blk (.inr ⟨h.le, by simp⟩) _ _
/-- one of the parser's own cells written: the rest as it was -/
theorem PAt.parts (h : PAt B b tail ts σ w vr vt vl va) (k : Kp B [TB] w w') :
    Sl w' B 5 1 vr σ.rest.length (bvs σ.rest) ∧ Sl w' B 93 2 vt ts.length (wantCells ts) ∧ Sl w' B 34 3 vl σ.nodes.length (nodeCells σ.nodes) ∧ Sl w' B 72 2 va σ.above.length (opCells σ.above) ∧ ∀ t ∈ ts, JobAt w' b t.1 t.2 :=
  ⟨h.rest.kp k (.inl (by decide)), h.todo.kp k (.inl (by decide)), h.nodes.kp k (.inl (by decide)), h.above.kp k (.inl (by decide)), fun t ht => (h.jobs t ht).kp k (by intro T hT; simp only [List.mem_singleton] at hT; subst hT; simp)⟩
end
/-- the parser is in a state, whatever its slices -/
def PA (B b : Nat) (tail : List Value) (ts : List (Job × Value)) (σ : PSt) (w : World) : Prop := ∃ vr vt vl va, PAt B b tail ts σ w vr vt vl va
theorem PA.keeps {B b : Nat} {tail : List Value} {ts : List (Job × Value)} {σ : PSt} {w w' : World} (h : PA B b tail ts σ w) (hk : Keeps Non w w') : PA B b tail ts σ w' := by
  obtain ⟨_, _, _, _, h⟩ := h
  exact ⟨_, _, _, _, h.keeps hk⟩

set_option maxHeartbeats 400000 in
set_option maxRecDepth 100000 in
theorem fail_at {B b : Nat} {tail : List Value} {ts : List (Job × Value)} {σ : PSt} {w : World} {vr vt vl va : Value} (h : PAt B b tail ts σ w vr vt vl va) (e p : Int) :
    Calls Tryd.prog 56 #[.pointer (some ⟨b, 0, none⟩), .int .i64 e, .int .i64 p] w fun ed w' => ed = .returned (.tuple #[]) ∧ (∃ vr', PAt B b tail ts (σ.fail e p) w' vr' vt vl va) ∧ Kp B [TB] w w' := by
  obtain ⟨g0, g1, g2, g3, g4, g5, g6, g7⟩ := pcells_get vr σ.at' σ.err σ.bad vt vl va σ.path tail
  have c0 : w.cell? ⟨b, 0, none⟩ = some vr := (h.blk.cell 0).trans g0
  have c2 : w.cell? ⟨b, 2, none⟩ = some (.int .i64 σ.err) := (h.blk.cell 2).trans g2
  have c3 : w.cell? ⟨b, 3, none⟩ = some (.int .i64 σ.bad) := (h.blk.cell 3).trans g3
  have f0 := h.blk.free 0
  have f2 := h.blk.free 2
  have f3 := h.blk.free 3
  clear g0 g1 g2 g3 g4 g5 g6 g7
  have H := Lib.hid h
  clear h
  by_cases he : σ.err = 0
  · have HS : Hid (σ.fail e p = { σ with err := e, bad := p, rest := [] }) := by show _ = _; rw [PSt.fail, if_pos he]
    have hb : (σ.err == 0) = true := by rw [he]; rfl
    clear he
    go_enter Tryd.func56, Tryd.ntmps56
    go_wp2_with fail
    go_end0
    have k1 := H.out.kpSet 2 (.int .i64 e)
    have b1 := H.out.blk.set 2 (.int .i64 e)
    rw [(pcells_set ..).2.2.1] at b1
    have b2 := b1.set 3 (.int .i64 p)
    rw [(pcells_set ..).2.2.2.1] at b2
    have b3 := b2.set 0 (.slice none 0 0)
    rw [(pcells_set ..).1] at b3
    have k3 := (k1.set b1 (.inr ⟨H.out.le, by simp⟩) 3 (.int .i64 p)).set b2 (.inr ⟨H.out.le, by simp⟩) 0 (.slice none 0 0)
    obtain ⟨-, p2, p3, p4, p5⟩ := H.out.parts k3
    refine ⟨rfl, ?_, k3⟩
    rw [HS.out]
    exact ⟨_, b3, H.out.le, Sl.nil _ _ _ _, p2, p3, p4, p5⟩
  · have HS : Hid (σ.fail e p = σ) := by show _ = _; rw [PSt.fail, if_neg he]
    have hb : (σ.err == 0) = false := by rw [beq_eq_false_iff_ne]; exact he
    clear he
    go_enter Tryd.func56, Tryd.ntmps56
    go_wp2_with fail
    go_end0
    refine ⟨rfl, ?_, Kp.refl _ _ _⟩
    rw [HS.out]
    exact ⟨_, H.out⟩
theorem fail_any {B b : Nat} {tail : List Value} {ts : List (Job × Value)} {σ : PSt} {w : World} (h : PA B b tail ts σ w) (e p : Int) :
    Calls Tryd.prog 56 #[.pointer (some ⟨b, 0, none⟩), .int .i64 e, .int .i64 p] w fun ed w' => ed = .returned (.tuple #[]) ∧ PA B b tail ts (σ.fail e p) w' ∧ Kp B [TB] w w' := by
  obtain ⟨vr, vt, vl, va, h⟩ := h
  refine (fail_at h e p).mono ?_
  rintro ed w' ⟨h1, ⟨vr', h2⟩, h3⟩
  exact ⟨h1, ⟨_, _, _, _, h2⟩, h3⟩

/-- how long things may grow -/
structure Fit (ts : List (Job × Value)) (σ : PSt) : Prop where
  all : σ.at' + σ.rest.length ≤ 549755813888
  todo : ts.length ≤ σ.at' + 4
  nodes : σ.nodes.length ≤ σ.at'
  above : σ.above.length ≤ σ.at'
  path : σ.path.length ≤ σ.at'
  dirs : ∀ o ∈ σ.above, o.1.length ≤ σ.at' ∧ o.2.length ≤ σ.at'

set_option maxHeartbeats 400000 in
set_option maxRecDepth 100000 in
theorem at_any {B b : Nat} {tail : List Value} {ts : List (Job × Value)} {σ : PSt} {w : World} (h : PA B b tail ts σ w) :
    Calls Tryd.prog 53 #[.pointer (some ⟨b, 0, none⟩)] w fun ed w' => ed = .returned (.int .i64 σ.at') ∧ w = w' := by
  obtain ⟨vr, vt, vl, va, h⟩ := h
  have c1 : w.cell? ⟨b, 1, none⟩ = some (.int .i64 σ.at') := (h.blk.cell 1).trans (pcells_get ..).2.1
  clear h
  go_enter Tryd.func53, Tryd.ntmps53
  go_wp2_with fail
  go_ret
  exact ⟨rfl, rfl⟩
set_option maxHeartbeats 400000 in
set_option maxRecDepth 100000 in
theorem left_any {B b : Nat} {tail : List Value} {ts : List (Job × Value)} {σ : PSt} {w : World} (h : PA B b tail ts σ w) :
    Calls Tryd.prog 55 #[.pointer (some ⟨b, 0, none⟩)] w fun ed w' => ed = .returned (.bool (decide (0 < σ.rest.length))) ∧ w = w' := by
  obtain ⟨vr, vt, vl, va, h⟩ := h
  have c0 : w.cell? ⟨b, 0, none⟩ = some vr := (h.blk.cell 0).trans (pcells_get ..).1
  obtain ⟨a, cp, rfl, -, -⟩ := h.rest.shape
  clear h
  go_enter Tryd.func55, Tryd.ntmps55
  go_wp2_with fail
  go_ret
  exact ⟨rfl, rfl⟩
set_option maxHeartbeats 400000 in
set_option maxRecDepth 100000 in
theorem err_any {B b : Nat} {tail : List Value} {ts : List (Job × Value)} {σ : PSt} {w : World} (h : PA B b tail ts σ w) :
    Calls Tryd.prog 58 #[.pointer (some ⟨b, 0, none⟩)] w fun ed w' => ed = .returned (.tuple #[.int .i64 σ.err, .int .i64 σ.bad]) ∧ Keeps Non w w' := by
  obtain ⟨vr, vt, vl, va, h⟩ := h
  have c2 : w.cell? ⟨b, 2, none⟩ = some (.int .i64 σ.err) := (h.blk.cell 2).trans (pcells_get ..).2.2.1
  have c3 : w.cell? ⟨b, 3, none⟩ = some (.int .i64 σ.bad) := (h.blk.cell 3).trans (pcells_get ..).2.2.2.1
  clear h
  go_enter Tryd.func58, Tryd.ntmps58
  go_wp2_with fail
  go_quiet (fail)
  go_wp2_with fail
  go_ret2
  exact ⟨rfl, (Keeps.refl _ _).drewN _⟩
set_option maxHeartbeats 400000 in
set_option maxRecDepth 100000 in
theorem end_any {B b : Nat} {tail : List Value} {ts : List (Job × Value)} {σ : PSt} {w : World} (h : PA B b tail ts σ w) (hf : Fit ts σ) :
    Calls Tryd.prog 57 #[.pointer (some ⟨b, 0, none⟩)] w fun ed w' => ed = .returned (.tuple #[]) ∧ PA B b tail ts (σ.fail 2 ((σ.at' : Int) + (σ.rest.length : Int))) w' ∧ Kp B [TB] w w' := by
  have H := Lib.hid h
  obtain ⟨vr, vt, vl, va, h⟩ := h
  have c0 : w.cell? ⟨b, 0, none⟩ = some vr := (h.blk.cell 0).trans (pcells_get ..).1
  have c1 : w.cell? ⟨b, 1, none⟩ = some (.int .i64 σ.at') := (h.blk.cell 1).trans (pcells_get ..).2.1
  obtain ⟨a, cp, rfl, -, -⟩ := h.rest.shape
  have hall := hf.all
  clear h hf
  have e1 : IntKind.i64.wrap ((σ.at' : Int) + (σ.rest.length : Int)) = (σ.at' : Int) + (σ.rest.length : Int) := IntWalk.i64_in _ (by omega)
  have HF : Hid (∀ n : Nat, Calls Tryd.prog 56 #[.pointer (some ⟨b, 0, none⟩), .int .i64 2, .int .i64 ((σ.at' : Int) + (σ.rest.length : Int))] (w.drewN n) fun ed w' => ed = .returned (.tuple #[]) ∧ PA B b tail ts (σ.fail 2 ((σ.at' : Int) + (σ.rest.length : Int))) w' ∧ Kp B [TB] w w') :=
    fun n => (fail_any (H.out.keeps ((Keeps.refl _ _).drewN n)) 2 _).mono fun ed w' ⟨h1, h2, h3⟩ => ⟨h1, h2, ((Kp.refl _ _ _).drewN n).trans h3⟩
  go_enter Tryd.func57, Tryd.ntmps57
  go_wp2_with fail
  go_region_with (go_at_call 56; refine (HF.out 1).mono ?_; rintro e w' ⟨rfl, h1, h2⟩)
  all_goals (go_wp2_with fail; go_end0; exact ⟨rfl, h1, h2⟩)
set_option maxHeartbeats 400000 in
set_option maxRecDepth 100000 in
theorem feed_any {B b : Nat} {tail : List Value} {ts : List (Job × Value)} {σ : PSt} {w : World} (s : ByteArray) (h : PA B b tail ts σ w) (hf : Fit ts σ) (hs : s.size ≤ 1099511627776) :
    Calls Tryd.prog 28 #[.pointer (some ⟨b, 0, none⟩), .string s] w fun ed w' => ed = .returned (.tuple #[]) ∧ PA B b tail ts (σ.feed s.data.toList) w' ∧ Kp B [5, TB] w w' := by
  obtain ⟨vr, vt, vl, va, h⟩ := h
  have c0 : w.cell? ⟨b, 0, none⟩ = some vr := (h.blk.cell 0).trans (pcells_get ..).1
  have c2 : w.cell? ⟨b, 2, none⟩ = some (.int .i64 σ.err) := (h.blk.cell 2).trans (pcells_get ..).2.2.1
  have hall := hf.all
  clear hf
  by_cases he : σ.err = 0
  · have HS : Hid (σ.feed s.data.toList = { σ with rest := σ.rest ++ s.data.toList }) := by show _ = _; rw [PSt.feed, if_pos he]
    have hb : (σ.err == 0) = true := by rw [he]; rfl
    obtain ⟨i0, hi, hz0, hz1, hz2⟩ := info_parts infoByte
    have H := Lib.hid h
    have hr := h.rest
    have hlt := h.lt
    have hle := h.le
    clear he h
    go_enter Tryd.func28, Tryd.ntmps28
    go_wp2_with (at_builtin; refine wpList_append_sl rfl _ _ 50 9 rfl 5 i0 (.int .u8 0) 1 1 Tryd.underlying50 hi hz0 hz1 hz2 rfl B _ _ _ rfl _ rfl s.size (bvs s.data.toList) ?c1 hr ?c2 ?c3 ?c4 ?_)
    case c1 => omega
    case c2 => exact Src.ofString w Tryd.underlying9 s
    case c3 => unfold maxLen; omega
    case c4 => omega
    intro v' w1 hs1 hk1 hb1
    clear hb1 hr hi hz0 hz1 hz2
    have b1 := H.out.blk.kp hk1 (.inr (by decide))
    have d0 : w1.cell? ⟨b, 0, none⟩ = some vr := (b1.cell 0).trans (pcells_get ..).1
    have f0 := b1.free 0
    have B1 := Lib.hid b1
    have HS1 := Lib.hid hs1
    have HK1 := Lib.hid hk1
    obtain ⟨a', c', rfl, -, -⟩ := hs1.shape
    clear b1 hs1 hk1
    go_wp2_with fail
    go_end0
    have k2 : Kp B [TB] w1 (w1.setCell ⟨b, 0, none⟩ (.slice a' (σ.rest.length + s.size) c')) := (Kp.refl _ _ _).set B1.out (.inr ⟨H.out.le, by simp⟩) _ _
    have b2 := B1.out.set 0 (.slice a' (σ.rest.length + s.size) c')
    rw [(pcells_set ..).1] at b2
    have sub : ∀ T ∈ ([5] : List TypeId), T ∈ paTs := by intro T hT; simp only [List.mem_singleton] at hT; subst hT; simp
    have subB : ∀ T ∈ ([TB] : List TypeId), T ∈ paTs := by intro T hT; simp only [List.mem_singleton] at hT; subst hT; simp
    refine ⟨rfl, ?_, (HK1.out.mono (.inr ⟨Nat.le_refl _, by simp⟩)).trans (k2.mono (.inr ⟨Nat.le_refl _, by simp⟩))⟩
    rw [HS.out]
    refine ⟨_, _, _, _, b2, H.out.le, ?_, (H.out.todo.kp HK1.out (.inl (by decide))).kp k2 (.inl (by decide)), (H.out.nodes.kp HK1.out (.inl (by decide))).kp k2 (.inl (by decide)), (H.out.above.kp HK1.out (.inl (by decide))).kp k2 (.inl (by decide)), fun t ht => ((H.out.jobs t ht).kp HK1.out sub).kp k2 subB⟩
    have := HS1.out.kp k2 (.inl (by decide))
    simpa [bvs] using this
  · have HS : Hid (σ.feed s.data.toList = σ) := by show _ = _; rw [PSt.feed, if_neg he]
    have hb : (σ.err == 0) = false := by rw [beq_eq_false_iff_ne]; exact he
    have H := Lib.hid h
    clear he h
    go_enter Tryd.func28, Tryd.ntmps28
    go_wp2_with fail
    go_end0
    refine ⟨rfl, ?_, Kp.refl _ _ _⟩
    rw [HS.out]
    exact ⟨_, _, _, _, H.out⟩
end Go.Proofs.YtflkafnhhadphaaDoor
