/- (*tree.Parser).Word, Text, node: the strings that must come are laid out. -/
import Derived.Test.YtflkafnhhadphaaDoorChecked
import Derived.Test.YtflkafnhhadphaaDoorPPlan
import Derived.Test.YtflkafnhhadphaaDoorPack
import Derived.Laws.EntriesVeiled
namespace Go.Proofs.YtflkafnhhadphaaDoor
open Go Go.RowKit
set_option linter.unusedVariables false

def WordPost (w : World) (b : Nat) (may : List (List UInt8)) (act : Act1) (ed : Ending) (w' : World) : Prop := ∃ f, ed = .returned (.agg #[.int .i64 8, f]) ∧ JobAt w' b (.word may act) f ∧ Keeps Non w w'
set_option maxHeartbeats 800000 in
set_option maxRecDepth 100000 in
theorem word_any (b : Nat) (may : List (List UInt8)) (act : Act1) (v : Value) (w : World) (hv : Sl w 0 9 1 v may.length (svs may)) :
    Calls Tryd.prog 51 #[.pointer (some ⟨b, 0, none⟩), actV b act, v] w (WordPost w b may act) := by
  obtain ⟨a0, c0, rfl, -, -⟩ := hv.shape
  have HV := Lib.hid hv
  clear hv
  have haf : actV b act = .nilFunc ∨ ∃ fn x y, actV b act = .func fn x y := by cases act <;> first | exact .inl rfl | exact .inr ⟨_, _, _, rfl⟩
  have HK : Hid (∀ af : Value, Keeps Non w (((w.alloc (.cells #[.pointer (some ⟨b, 0, none⟩)] 89)).alloc (.cells #[af] 91)).alloc (.cells #[.slice a0 may.length c0] 39))) := fun af => (((Keeps.refl _ _).alloc _).alloc _).alloc _
  generalize hA : actV b act = af at *
  have HA := Lib.hid hA
  clear hA
  rcases haf with rfl | ⟨fn, x, y, rfl⟩
  all_goals (
    go_enter Tryd.func51, Tryd.ntmps51
    go_wp2_with fail
    refine bodyPost_ret (v := .agg #[.int .i64 8, .func (.func 68) #[] #[.pointer (some ⟨w.heap.size + 1 + 1, 0, none⟩), .pointer (some ⟨w.heap.size, 0, none⟩), .pointer (some ⟨w.heap.size + 1, 0, none⟩)]]) (by simp [results, Tryd.results51, go_sem]) rfl ?_
    refine ⟨_, rfl, ⟨_, _, _, .slice a0 may.length c0, rfl, ?_, (((HV.out.alloc _).alloc _).alloc _).alloc _, (((Blk.new w _ _).alloc _).alloc _).alloc _, ?_⟩, (HK.out _).alloc _⟩
    · have h1 := fun (o1 o2 o3 : Obj) => (Blk.new ((w.alloc o1).alloc o2) #[.slice a0 may.length c0] 39).alloc o3
      simp only [World.size_alloc] at h1
      exact h1 _ _ _
    · rw [HA.out]
      have h1 := fun (o1 o2 o3 : Obj) (a : Value) => ((Blk.new (w.alloc o1) #[a] 91).alloc o2).alloc o3
      simp only [World.size_alloc] at h1
      exact h1 _ _ _ _)

set_option maxHeartbeats 800000 in
set_option maxRecDepth 100000 in
theorem text_any (b most : Nat) (f : Value) (hf : f.oneCell' = true) (hff : ∃ fn x y, f = .func fn x y) (w : World) :
    Calls Tryd.prog 81 #[.pointer (some ⟨b, 0, none⟩), .int .i64 most, f] w fun ed w' => ed = .returned (.agg #[.int .i64 most, f]) ∧ Keeps Non w w' := by
  obtain ⟨fn, x, y, rfl⟩ := hff
  go_enter Tryd.func81, Tryd.ntmps81
  go_wp2_with fail
  refine bodyPost_ret (v := .agg #[.int .i64 most, .func fn x y]) (by simp [results, Tryd.results81, go_sem]) rfl ⟨rfl, (Keeps.refl _ _).alloc _⟩

theorem JobAt.keeps {w w' : World} {b : Nat} {j : Job} {f : Value} (h : JobAt w b j f) (k : Keeps Non w w') : JobAt w' b j f := h.kp (Kp.of_keeps (B := 0) (Ts := []) k) (by simp)
theorem JobAt.alloc {w : World} {b : Nat} {j : Job} {f : Value} (h : JobAt w b j f) (o : Obj) : JobAt (w.alloc o) b j f := h.keeps ((Keeps.refl _ _).alloc o)
/-- wants in a block of their own -/
theorem wantArg {w : World} (us : List (Job × Value)) (n sz : Nat) (c : Array Value) (hsz : sz = w.heap.size) (hc : c = (wantCells us).toArray) (hn : us.length = n) (h9 : n ≤ 100) : Sl (w.alloc (.cells c 93)) 0 93 2 (.slice (some ⟨sz, 0, none⟩) n n) us.length (wantCells us) := by
  subst hn hc hsz
  exact Sl.of_new w 0 (Nat.zero_le _) 93 2 us.length (wantCells us) (wantCells_length us) (by unfold maxLen; omega)
/-- Plan of wants in a block of their own -/
theorem plan_new {B b : Nat} {tail : List Value} {ts : List (Job × Value)} {σ : PSt} {w : World} (h : PA B b tail ts σ w) (us : List (Job × Value)) (n sz : Nat) (c : Array Value) (hsz : sz = w.heap.size) (hc : c = (wantCells us).toArray) (hn : us.length = n) (h9 : n ≤ 100) (hj : ∀ t ∈ us, JobAt w b t.1 t.2) (hl : ts.length ≤ 1099511627000) :
    Calls Tryd.prog 50 #[.pointer (some ⟨b, 0, none⟩), .slice (some ⟨sz, 0, none⟩) n n] (w.alloc (.cells c 93)) fun ed w' => ed = .returned (.tuple #[]) ∧ PA B b tail (ts ++ us.reverse) σ w' ∧ Kp B [93, TB] w w' := by
  obtain ⟨vr, vt, vl, va, h⟩ := h
  have ha := wantArg (w := w) us n sz c hsz hc hn h9
  subst hn
  have hne : vt.ownBlock ≠ some sz := by
    intro e
    have := h.todo.own_lt e
    omega
  refine (plan_any (h.alloc _) us sz 0 us.length ha hne (fun t ht => (hj t ht).alloc _) (by omega)).mono ?_
  rintro ed w' ⟨h1, h2, h3⟩
  exact ⟨h1, h2, ((Kp.refl _ _ _).alloc _).trans h3⟩
def nodeWs (f1 f2 f3 : Value) : List (Job × Value) := [(.word [wOpen] .open', f1), (.word [wType] .none, f2), (.word [wFile, wLink, wDir] .kind, f3)]
def NodePost (w : World) (b : Nat) (ed : Ending) (w' : World) : Prop := ∃ (f1 f2 f3 : Value) (bl : Nat), ed = .returned (.slice (some ⟨bl, 0, none⟩) 3 3) ∧ Sl w' 0 93 2 (.slice (some ⟨bl, 0, none⟩) 3 3) 3 (wantCells (nodeWs f1 f2 f3)) ∧ w.heap.size ≤ bl ∧ (∀ t ∈ nodeWs f1 f2 f3, JobAt w' b t.1 t.2) ∧ Keeps Non w w'
set_option maxHeartbeats 800000 in
set_option maxRecDepth 100000 in
theorem node_any (b : Nat) (w : World) : Calls Tryd.prog 52 #[.pointer (some ⟨b, 0, none⟩)] w (NodePost w b) := by
  go_enter Tryd.func52, Tryd.ntmps52
  go_wp2_with fail
  refine (word_any b [wOpen] .open' _ _ (putArg w 1 _ [wOpen] _ rfl rfl rfl (by simp))).mono ?_
  rintro e w1 ⟨f1, rfl, hj1, hk1⟩
  have K1 : Hid (Keeps Non w w1) := ((Keeps.refl _ _).alloc _).trans hk1 (fun k hk => .inl hk)
  have J1 := Lib.hid hj1
  clear hj1 hk1
  go_wp2_with fail
  refine (word_any b [wType] .none _ _ (putArg w1 1 _ [wType] _ rfl rfl rfl (by simp))).mono ?_
  rintro e w2 ⟨f2, rfl, hj2, hk2⟩
  have hk12 : Keeps Non w1 w2 := ((Keeps.refl _ _).alloc _).trans hk2 (fun k hk => .inl hk)
  have K2 : Hid (Keeps Non w w2) := K1.out.trans hk12 (fun k hk => .inl hk)
  have J12 := Lib.hid (J1.out.keeps hk12)
  have J2 := Lib.hid hj2
  clear hj2 hk2 hk12
  go_wp2_with fail
  refine (word_any b [wFile, wLink, wDir] .kind _ _ (putArg w2 3 _ [wFile, wLink, wDir] _ rfl rfl rfl (by simp))).mono ?_
  rintro e w3 ⟨f3, rfl, hj3, hk3⟩
  have hk23 : Keeps Non w2 w3 := ((Keeps.refl _ _).alloc _).trans hk3 (fun k hk => .inl hk)
  have K3 : Hid (Keeps Non w w3) := K2.out.trans hk23 (fun k hk => .inl hk)
  have J13 := Lib.hid (J12.out.keeps hk23)
  have J23 := Lib.hid (J2.out.keeps hk23)
  have J3 := Lib.hid hj3
  clear hj3 hk3 hk23
  go_wp2_with fail
  go_ret
  refine ⟨f1, f2, f3, _, rfl, wantArg (nodeWs f1 f2 f3) 3 _ _ rfl rfl rfl (by omega), K3.out.size, ?_, K3.out.alloc _⟩
  intro t ht
  simp only [nodeWs, List.mem_cons, List.not_mem_nil, or_false] at ht
  rcases ht with rfl | rfl | rfl
  · exact J13.out.alloc _
  · exact J23.out.alloc _
  · exact J3.out.alloc _
end Go.Proofs.YtflkafnhhadphaaDoor
