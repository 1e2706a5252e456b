/- Plain: what the parser's state keeps: a directory stands on top wherever one is needed; how long things may grow. -/
import Derived.Test.YtdkogijdfgfpeaaGreatDoorVRead
import Derived.Test.YtdkogijdfgfpeaaGreatDoorVMap
import Derived.Test.YtdkogijdfgfpeaaGreatDoorVOwn
set_option linter.unusedVariables false
namespace Go.Proofs.YtdkogijdfgfpeaaGreatDoor
open Go Go.RowKit
def Job.needs : Job → Bool
 | .word _ .dir => true
 | .name => true
 | _ => false
def Job.left (j : Job) (n : Nat) : Nat :=
 match j with
 | .word _ .dir => n - 1
 | .word _ .next' => 0
 | .word _ .more => 0
 | .cpath => 0
 | _ => n
def OkJ : List Job → Nat → Prop
 | [], _ => True
 | j :: js, n => (j.needs = true → 1 ≤ n) ∧ OkJ js (j.left n)
theorem Job.left_le (j : Job) {n m : Nat} (h : n ≤ m) : j.left n ≤ j.left m := by
 unfold Job.left; split <;> omega
theorem OkJ.mono : ∀ {js : List Job} {n m : Nat}, OkJ js n → n ≤ m → OkJ js m
 | [], _, _, _, _ => trivial
 | j :: js, n, m, h, hm => ⟨fun hn => Nat.le_trans (h.1 hn) hm, OkJ.mono h.2 (j.left_le hm)⟩
theorem fail_above (σ : PSt) (e p : Int) : (σ.fail e p).above = σ.above ∧ (σ.fail e p).nodes = σ.nodes ∧ (σ.fail e p).path = σ.path ∧ (σ.fail e p).at' = σ.at' ∧ (σ.fail e p).rest.length ≤ σ.rest.length := by
 unfold PSt.fail; split
 ·exact ⟨rfl, rfl, rfl, rfl, Nat.zero_le _⟩
 ·exact ⟨rfl, rfl, rfl, rfl, Nat.le_refl _⟩
theorem failIf_above (σ : PSt) (e p : Int) : (σ.failIf e p).above = σ.above := by
 unfold PSt.failIf; split
 ·rfl
 ·exact (fail_above ..).1
theorem okJ_plain {js : List Job} {n : Nat} (h : OkJ js n) (j : Job) (h1 : j.needs = false) (h2 : j.left n = n) : OkJ (j :: js) n := ⟨(fun e => by rw [h1] at e; cases e), (by rw [h2]; exact h)⟩
theorem okJ_dir {js : List Job} {n : Nat} (h : OkJ js (n - 1)) (h1 : 1 ≤ n) : OkJ (dirJob :: js) n := ⟨fun _ => h1, h⟩
theorem okJ_name {js : List Job} {n : Nat} (h : OkJ js n) (h1 : 1 ≤ n) : OkJ (.name :: js) n := ⟨fun _ => h1, h⟩
theorem okJ_node {js : List Job} {n : Nat} (h : OkJ js n) : OkJ (nodeJobs ++ js) n :=
 okJ_plain (okJ_plain (okJ_plain h _ rfl rfl) _ rfl rfl) _ rfl rfl
theorem okJ_step (j : Job) (js : List Job) (s : List UInt8) (p : Int) (σ : PSt) (h : OkJ (j :: js) σ.above.length) : OkJ ((doJob j s p σ).1 ++ js) (doJob j s p σ).2.above.length := by
 obtain ⟨h1, h2⟩ := h
 have hl : OkJ js σ.above.length := h2.mono (by unfold Job.left; split <;> omega)
 cases j with
 | word may act =>
   simp only [doJob]
   split
   ·cases act <;> simp only [doAct]
    ·exact hl
    ·split
     ·rw [(fail_above ..).1]; exact hl
     ·split
      ·rw [(fail_above ..).1]; exact hl
      ·exact hl
    ·split
     ·exact okJ_plain hl _ rfl rfl
     ·split
      ·exact okJ_plain (okJ_plain (okJ_plain hl _ rfl rfl) _ rfl rfl) _ rfl rfl
      ·split
       ·rw [List.length_append]
        exact okJ_dir hl (by simp)
       ·exact hl
    ·split
     ·exact okJ_plain (okJ_plain (okJ_plain (okJ_plain hl _ rfl rfl) _ rfl rfl) _ rfl rfl) _ rfl rfl
     ·exact okJ_plain (okJ_plain hl _ rfl rfl) _ rfl rfl
    ·have hn := h1 rfl
     split
     ·rw [List.length_dropLast]; exact h2
     ·rw [List.append_assoc, List.append_assoc]
      refine okJ_plain (okJ_plain (okJ_name (okJ_plain (okJ_node (okJ_plain (okJ_dir ?_ hn) _ rfl rfl)) _ rfl rfl) hn) _ rfl rfl) _ rfl rfl
      exact h2
    ·split
     ·exact ⟨fun e => (by cases e), h2⟩
     ·exact hl
    ·split
     ·exact ⟨fun e => (by cases e), fun e => (by cases e), h2⟩
     ·exact ⟨fun e => (by cases e), fun e => (by cases e), h2⟩
   ·rw [(fail_above ..).1]; exact hl
 | leads =>
   simp only [doJob]
   split
   ·exact hl
   ·show OkJ js (σ.fail 6 p).above.length
    rw [(fail_above ..).1]; exact hl
 | name =>
   have hn := h1 rfl
   simp only [doJob]
   rw [List.length_append, List.length_dropLast]
   have e : σ.above.length - 1 + [((σ.above.getLastD ([], [])).1, s)].length = σ.above.length := by simp; omega
   rw [e]
   exact hl
 | keep k => exact hl
 | cpath =>
   simp only [doJob]
   show OkJ (.word [wNar] .none :: (nodeJobs ++ [.word [wRefs] .none, moreJob] ++ js)) 0
   refine okJ_plain ?_ _ rfl rfl
   rw [List.append_assoc]
   exact okJ_node (okJ_plain (show OkJ (moreJob :: js) 0 from ⟨fun e => (by cases e), h2⟩) (.word [wRefs] .none) rfl rfl)
 | cref =>
   simp only [doJob]
   show OkJ js (σ.failIf (refErr σ.x s) p).above.length
   rw [failIf_above]; exact hl
 | csum =>
   simp only [doJob]
   show OkJ js (σ.failIf (entErr σ.x σ.nodes s) p).above.length
   rw [failIf_above]; exact hl
structure FitJ (n : Nat) (σ : PSt) : Prop where
 all : σ.at' + σ.rest.length ≤ 549755813888
 todo : n ≤ σ.at' + 4
 nodes : σ.nodes.length ≤ σ.at'
 above : σ.above.length ≤ σ.at'
 path : σ.path.length ≤ σ.at'
 dirs : ∀ o ∈ σ.above, o.1.length ≤ σ.at' ∧ o.2.length ≤ σ.at'
structure Room (n m : Nat) (σ : PSt) : Prop where
 all : σ.at' + σ.rest.length ≤ 549755813888
 todo : n + 8 ≤ σ.at' + 4
 nodes : σ.nodes.length + 8 ≤ σ.at'
 above : σ.above.length + 8 ≤ σ.at'
 path : σ.path.length + 8 ≤ σ.at'
 dirs : ∀ o ∈ σ.above, o.1.length + m + 8 ≤ σ.at' ∧ o.2.length ≤ σ.at'
 str : m ≤ σ.at'
theorem Room.of {n m k : Nat} {σ : PSt} (h : FitJ n σ) (hk : k ≤ σ.rest.length) (hm : m + 8 ≤ k) : Room n m { σ with rest := σ.rest.drop k, at' := σ.at' + k } := by
 obtain ⟨h1, h2, h3, h4, h5, h6⟩ := h
 refine ⟨by simp only [List.length_drop]; omega, by simp only; omega, by simp only; omega, by simp only; omega, by simp only; omega, fun o ho => ?_, by simp only; omega⟩
 have := h6 o ho
 simp only
 omega
theorem Room.fail {n m : Nat} {σ : PSt} (h : Room n m σ) (e p : Int) : Room n m (σ.fail e p) := by
 obtain ⟨h1, h2, h3, h4, h5, h6, h7⟩ := h
 obtain ⟨q1, q2, q3, q4, q5⟩ := fail_above σ e p
 exact ⟨by rw [q4]; omega, by rw [q4]; exact h2, by rw [q2, q4]; exact h3, by rw [q1, q4]; exact h4, by rw [q3, q4]; exact h5, fun o ho => by rw [q4]; exact h6 o (by rwa [q1] at ho), by rw [q4]; exact h7⟩
theorem Room.fit {n m i : Nat} {σ : PSt} (h : Room n m σ) (hi : i ≤ n + 8) : FitJ i σ := by
 obtain ⟨h1, h2, h3, h4, h5, h6, h7⟩ := h
 exact ⟨h1, by omega, by omega, by omega, by omega, fun o ho => by have := h6 o ho; omega⟩
theorem Room.failIf {n m : Nat} {σ : PSt} (h : Room n m σ) (e p : Int) : Room n m (σ.failIf e p) := by
 unfold PSt.failIf; split
 ·exact h
 ·exact h.fail _ _
theorem fit_add {n m i : Nat} {σ : PSt} (h : Room n m σ) (hi : i ≤ n + 8) (k : Int) (d : List UInt8) : FitJ i (σ.add k d) := by
 have hf := h.fit hi
 obtain ⟨h1, h2, h3, h4, h5, h6, h7⟩ := h
 exact ⟨h1, hf.todo, by simp only [PSt.add, List.length_append, List.length_cons, List.length_nil]; omega, hf.above, hf.path, hf.dirs⟩
theorem room_last {n m : Nat} {σ : PSt} (h : Room n m σ) : (σ.above.getLastD ([], [])).1.length + m + 8 ≤ σ.at' ∨ (σ.above.getLastD ([], [])).1 = [] := by
 rcases List.eq_nil_or_concat σ.above with e | ⟨l, o, e⟩
 ·right; rw [e]; rfl
 ·left
  rw [e, List.concat_eq_append, List.getLastD_concat]
  exact (h.dirs o (by rw [e, List.concat_eq_append]; simp)).1
theorem fit_step (j : Job) (s : List UInt8) (p : Int) (σ : PSt) (n : Nat) (h : Room (n + 1) s.length σ) : FitJ ((doJob j s p σ).1.length + n) (doJob j s p σ).2 := by
 cases j with
 | word may act =>
   simp only [doJob]
   split
   ·cases act <;> simp only [doAct]
    ·exact h.fit (by simp; omega)
    ·split
     ·exact (h.fail _ _).fit (by simp; omega)
     ·split
      ·exact (h.fail _ _).fit (by simp; omega)
      ·exact h.fit (by simp; omega)
    ·split
     ·exact h.fit (by simp; omega)
     ·split
      ·exact h.fit (by simp; omega)
      ·split
       ·have hf := fit_add h (i := 1 + n) (by omega) 4 []
        obtain ⟨h1, h2, h3, h4, h5, h6, h7⟩ := h
        refine ⟨hf.all, hf.todo, hf.nodes, ?_, hf.path, fun o ho => ?_⟩
        ·simp only [List.length_append, List.length_cons, List.length_nil, PSt.add]; omega
        ·rcases List.mem_append.1 ho with ho | ho
         ·exact hf.dirs o ho
         ·obtain rfl := List.mem_singleton.1 ho
          exact ⟨hf.path, Nat.zero_le _⟩
       ·exact h.fit (by simp; omega)
    ·split
     ·exact h.fit (by simp; omega)
     ·exact h.fit (by simp; omega)
    ·split
     ·have hf := h.fit (i := n) (by omega)
      refine ⟨hf.all, by simpa using hf.todo, hf.nodes, ?_, hf.path, fun o ho => hf.dirs o (List.dropLast_subset _ ho)⟩
      have := hf.above
      simp only [List.length_dropLast]; omega
     ·exact h.fit (by simp [nodeJobs]; omega)
    ·split
     ·exact h.fit (by simp; omega)
     ·exact h.fit (by simp; omega)
    ·split
     ·exact h.fit (by simp; omega)
     ·exact h.fit (by simp; omega)
   ·exact (h.fail _ _).fit (by simp; omega)
 | leads =>
   simp only [doJob]
   split
   ·exact fit_add h (by simp; omega) _ _
   ·exact fit_add (h.fail _ _) (by simp; omega) _ _
 | name =>
   have key : ∀ σ' : PSt, Room (n + 1) s.length σ' → σ'.above = σ.above → FitJ (([] : List Job).length + n) { σ' with above := σ.above.dropLast ++ [((σ.above.getLastD ([], [])).1, s)], path := joinP (σ.above.getLastD ([], [])).1 s } := by
    intro σ' h' ha
    have hf := h'.fit (i := n) (by omega)
    have hlast := room_last h'
    rw [ha] at hlast
    have hd := h'.dirs
    have hab := h'.above
    have hst := h'.str
    rw [ha] at hd hab
    generalize σ.above.getLastD ([], []) = t at *
    refine ⟨hf.all, by simpa using hf.todo, hf.nodes, ?_, ?_, fun o ho => ?_⟩
    ·simp only [List.length_append, List.length_dropLast, List.length_cons, List.length_nil]; omega
    ·simp only [joinP]
     split
     ·exact hst
     ·rename_i hne
      rcases hlast with h1 | h1
      ·simp only [List.length_append, List.length_cons]; omega
      ·exact absurd h1 hne
    ·rcases List.mem_append.1 ho with ho | ho
     ·have := hd o (List.dropLast_subset _ ho)
      simp only
      omega
     ·obtain rfl := List.mem_singleton.1 ho
      refine ⟨?_, hst⟩
      rcases hlast with h1 | h1
      ·simp only; omega
      ·rw [h1]; exact Nat.zero_le _
   simp only [doJob]
   refine key _ ?_ ?_
   ·split
    ·exact h.fail _ _
    ·split
     ·exact h.fail _ _
     ·exact h
   ·split
    ·exact (fail_above ..).1
    ·split
     ·exact (fail_above ..).1
     ·rfl
 | keep k => exact fit_add h (i := 0 + n) (by omega) k s |> fun h2 => by rw [Nat.zero_add] at h2; exact (by simpa [doJob] using h2)
 | cpath =>
   have hf := (h.failIf (pathErr σ.x s) p).fit (i := (treeJobs ++ [.word [wRefs] .none, moreJob]).length + n) (by simp [treeJobs, nodeJobs]; omega)
   exact ⟨hf.all, hf.todo, Nat.zero_le _, Nat.zero_le _, Nat.zero_le _, fun o ho => by simp [doJob] at ho⟩
 | cref =>
   have hf := (h.failIf (refErr σ.x s) p).fit (i := 0 + n) (by omega)
   exact ⟨hf.all, hf.todo, hf.nodes, hf.above, hf.path, hf.dirs⟩
 | csum =>
   have hf := (h.failIf (entErr σ.x σ.nodes s) p).fit (i := 0 + n) (by omega)
   exact ⟨hf.all, hf.todo, hf.nodes, hf.above, hf.path, hf.dirs⟩
def Job.adds : Job → Bool
 | .word _ .kind => true
 | .word _ .file => true
 | .leads => true
 | .keep _ => true
 | _ => false
def Job.free (j : Job) (f : Bool) : Bool :=
 match j with
 | .word _ .none => f
 | .word _ .open' => true
 | _ => false
def OkA : List Job → Bool → Prop
 | [], _ => True
 | j :: js, f => (j.adds = true → f = true) ∧ OkA js (j.free f)
theorem OkA.up : ∀ {js : List Job} {f : Bool}, OkA js false → OkA js f
 | [], _, _ => trivial
 | j :: js, true, h => by
   refine ⟨fun _ => rfl, ?_⟩
   have h2 := h.2
   cases j with
   | word may act => cases act <;> first | exact OkA.up h2 | exact h2
   | leads => exact h2
   | name => exact h2
   | keep k => exact h2
   | cpath => exact h2
   | cref => exact h2
   | csum => exact h2
 | j :: js, false, h => h
def Cnt (σ : PSt) (f : Bool) : Prop := σ.err = 0 → σ.nodes.length ≤ 30 ∧ (f = true → σ.nodes.length ≤ 29)
theorem Cnt.bad {σ : PSt} {f : Bool} (h : σ.err ≠ 0) : Cnt σ f := fun h0 => absurd h0 h
theorem fail_err (σ : PSt) {e : Int} (he : e ≠ 0) (p : Int) : (σ.fail e p).err ≠ 0 := by
 unfold PSt.fail; split
 ·exact he
 ·assumption
theorem Cnt.down {σ : PSt} {f : Bool} (h : Cnt σ f) : Cnt σ false := fun h0 => ⟨(h h0).1, fun e => by cases e⟩
theorem Cnt.fail {σ : PSt} {f : Bool} (h : Cnt σ f) (e p : Int) : Cnt (σ.fail e p) f := by
 unfold PSt.fail; split
 ·rename_i h0
  intro _
  exact h h0
 ·exact h
theorem Cnt.failIf {σ : PSt} {f : Bool} (h : Cnt σ f) (e p : Int) : Cnt (σ.failIf e p) f := by
 unfold PSt.failIf; split
 ·exact h
 ·exact h.fail _ _
theorem Cnt.add {σ : PSt} (h : Cnt σ true) (k : Int) (d : List UInt8) : Cnt (σ.add k d) false := fun h0 => ⟨by
 have := (h h0).2 rfl
 simp only [PSt.add, List.length_append, List.length_cons, List.length_nil]
 omega, fun e => by cases e⟩
theorem okA_none {js : List Job} {f : Bool} {may : List (List UInt8)} (h : OkA js f) : OkA (.word may .none :: js) f := ⟨fun e => (by cases e), h⟩
theorem okA_add {js : List Job} {j : Job} (h : OkA js false) (hj : j.free true = false) : OkA (j :: js) true := ⟨fun _ => rfl, by rw [hj]; exact h⟩
theorem okA_skip {js : List Job} {j : Job} (h : OkA js false) (h1 : j.adds = false) (hj : j.free false = false) : OkA (j :: js) false := ⟨fun e => (by rw [h1] at e; cases e), by rw [hj]; exact h⟩
theorem okA_node {js : List Job} (h : OkA js false) (f : Bool) : OkA (nodeJobs ++ js) f := ⟨fun e => (by cases e), okA_none (okA_add h rfl)⟩
theorem okA_step (j : Job) (js : List Job) (s : List UInt8) (p : Int) (σ : PSt) (f : Bool) (h : OkA (j :: js) f) (hc : Cnt σ f) : ∃ f', OkA ((doJob j s p σ).1 ++ js) f' ∧ Cnt (doJob j s p σ).2 f' := by
 obtain ⟨h1, h2⟩ := h
 cases j with
 | word may act =>
   simp only [doJob]
   split
   ·cases act <;> simp only [doAct]
    ·exact ⟨f, h2, hc⟩
    ·refine ⟨true, h2, ?_⟩
     split
     ·exact Cnt.bad (fail_err _ (by decide) _)
     ·split
      ·exact Cnt.bad (fail_err _ (by decide) _)
      ·rename_i hn
       exact fun h0 => ⟨(hc h0).1, fun _ => by have := (hc h0).1; omega⟩
    ·obtain rfl := h1 rfl
     have h2 : OkA js false := h2
     split
     ·exact ⟨true, okA_add h2 rfl, hc⟩
     ·split
      ·exact ⟨true, okA_none (okA_add (okA_none h2) rfl), hc⟩
      ·split
       ·exact ⟨false, okA_skip h2 rfl rfl, fun h0 => (hc.add 4 []) h0⟩
       ·exact ⟨false, h2, hc.down⟩
    ·obtain rfl := h1 rfl
     have h2 : OkA js false := h2
     split
     ·exact ⟨true, okA_none (okA_none (okA_add (okA_none h2) rfl)), hc⟩
     ·exact ⟨true, okA_add (okA_none h2) rfl, hc⟩
    ·have h2 : OkA js false := h2
     split
     ·exact ⟨false, h2, fun h0 => hc.down h0⟩
     ·refine ⟨false, ?_, hc.down⟩
      rw [List.append_assoc, List.append_assoc]
      exact okA_none (okA_none (okA_skip (okA_none (okA_node (okA_none (okA_skip h2 rfl rfl)) false)) rfl rfl))
    ·have h2 : OkA js false := h2
     split
     ·exact ⟨false, okA_skip h2 rfl rfl, hc.down⟩
     ·exact ⟨false, h2, hc.down⟩
    ·have h2 : OkA js false := h2
     split
     ·exact ⟨false, okA_skip (okA_skip h2 rfl rfl) rfl rfl, hc.down⟩
     ·exact ⟨false, okA_skip (okA_skip h2 rfl rfl) rfl rfl, hc.down⟩
   ·exact ⟨_, h2, Cnt.bad (fail_err _ (by decide) _)⟩
 | leads =>
   obtain rfl := h1 rfl
   refine ⟨false, h2, ?_⟩
   simp only [doJob]
   split
   ·exact hc.add _ _
   ·exact (hc.fail _ _).add _ _
 | name =>
   refine ⟨false, h2, ?_⟩
   simp only [doJob]
   split
   ·exact fun h0 => (hc.down.fail _ _) h0
   ·split
    ·exact fun h0 => (hc.down.fail _ _) h0
    ·exact fun h0 => hc.down h0
 | keep k =>
   obtain rfl := h1 rfl
   exact ⟨false, h2, hc.add _ _⟩
 | cpath =>
   refine ⟨false, ?_, fun h0 => ⟨Nat.zero_le _, fun e => by cases e⟩⟩
   show OkA (.word [wNar] .none :: (nodeJobs ++ [.word [wRefs] .none, moreJob] ++ js)) false
   rw [List.append_assoc]
   exact okA_none (okA_node (okA_none (okA_skip h2 rfl rfl)) false)
 | cref => exact ⟨false, h2, fun h0 => (by
  have := (hc.down.failIf (refErr σ.x s) p) h0
  exact this)⟩
 | csum => exact ⟨false, h2, fun h0 => (by
  have := (hc.down.failIf (entErr σ.x σ.nodes s) p) h0
  exact this)⟩
structure FitX (σ : PSt) : Prop where
 nsz : ∀ n ∈ σ.nodes, n.path.length ≤ 549755813888 ∧ n.data.length ≤ 549755813888
 name : σ.x.name.length ≤ 549755813888
 refs : σ.x.refs.length ≤ σ.at'
 rsz : ∀ r ∈ σ.x.refs, r.length ≤ 549755813888
 came : σ.x.came.length ≤ σ.at'
 order : σ.x.order.length ≤ σ.at'
 osz : ∀ r ∈ σ.x.order, r.length ≤ 549755813888
 fit : ∀ e ∈ σ.x.came, EntFit e
 once : σ.x.came.Pairwise fun a b => a.path ≠ b.path
theorem pack_room {l : List Node} (h : ∀ n ∈ l, n.path.length ≤ 549755813888 ∧ n.data.length ≤ 549755813888) (hl : l.length ≤ 30) : NodesSmall l ∧ (packP l).length ≤ 70368744177664 := by
 refine ⟨fun n hn => by have := h n hn; omega, ?_⟩
 have h1 := packP_len l
 have h2 : ∀ l : List Node, (∀ n ∈ l, n.path.length ≤ 549755813888 ∧ n.data.length ≤ 549755813888) → (l.map fun x => x.path.length + x.data.length).sum ≤ l.length * 1099511627776 := by
  intro l
  induction l with
  | nil => intro _; simp
  | cons x r ih =>
    intro hx
    have h3 := ih fun y hy => hx y (List.mem_cons_of_mem _ hy)
    have h4 := hx x (List.mem_cons_self ..)
    simp only [List.map_cons, List.sum_cons, List.length_cons, Nat.succ_mul]
    omega
 have h3 := h2 l h
 have h5 : l.length * 1099511627776 ≤ 30 * 1099511627776 := Nat.mul_le_mul_right _ hl
 omega
theorem setE_len (L : Ents) (e : Ent) : (setE L e).length ≤ L.length + 1 := by
 have := List.length_filter_le (fun o : Ent => o.path != e.path) L
 simp only [setE, List.length_append, List.length_cons, List.length_nil]
 omega
theorem setE_mem {L : Ents} {e o : Ent} : o ∈ setE L e ↔ (o ∈ L ∧ o.path ≠ e.path) ∨ o = e := by
 simp [setE]
theorem setE_once {L : Ents} {e : Ent} (h : L.Pairwise fun a b => a.path ≠ b.path) : (setE L e).Pairwise fun a b => a.path ≠ b.path := by
 unfold setE
 rw [List.pairwise_append]
 refine ⟨h.filter _, List.pairwise_singleton _ _, fun a ha b hb => ?_⟩
 obtain rfl := List.mem_singleton.1 hb
 have := (List.mem_filter.1 ha).2
 simpa using this
theorem doAct_x (a : Act1) (s : List UInt8) (p : Int) (σ : PSt) : (doAct a s p σ).2.x = σ.x := by
 cases a <;> simp only [doAct]
 ·split
  ·exact (fail_x ..).1
  ·split
   ·exact (fail_x ..).1
   ·rfl
 ·split
  ·rfl
  ·split
   ·rfl
   ·split <;> rfl
 ·split <;> rfl
 ·split <;> rfl
 ·split <;> rfl
 ·split <;> rfl
theorem doJob_at (j : Job) (s : List UInt8) (p : Int) (σ : PSt) : (doJob j s p σ).2.at' = σ.at' := by
 have hf := fun e p => (fail_above σ e p).2.2.2.1
 have hg : ∀ e p, (σ.failIf e p).at' = σ.at' := fun e p => by
  unfold PSt.failIf; split
  ·rfl
  ·exact hf _ _
 cases j with
 | word may act =>
   simp only [doJob]
   split
   ·cases act <;> simp only [doAct]
    ·split
     ·exact hf _ _
     ·split
      ·exact hf _ _
      ·rfl
    ·split
     ·rfl
     ·split
      ·rfl
      ·split <;> rfl
    ·split <;> rfl
    ·split <;> rfl
    ·split <;> rfl
    ·split <;> rfl
   ·exact hf _ _
 | leads =>
   simp only [doJob]
   split
   ·rfl
   ·exact hf _ _
 | name =>
   simp only [doJob]
   split
   ·exact hf _ _
   ·split
    ·exact hf _ _
    ·rfl
 | keep k => rfl
 | cpath => exact hg _ _
 | cref => exact hg _ _
 | csum => exact hg _ _
theorem doJob_nodes (j : Job) (s : List UInt8) (p : Int) (σ : PSt) : ∀ n ∈ (doJob j s p σ).2.nodes, n ∈ σ.nodes ∨ (n.path = σ.path ∧ (n.data = s ∨ n.data = [])) := by
 have hf := fun e p => (fail_x σ e p).2
 have hp := fun e p => (fail_above σ e p).2.2.1
 have hg := fun e p => (failIf_x σ e p).2
 cases j with
 | word may act =>
   simp only [doJob]
   split
   ·cases act <;> simp only [doAct]
    ·exact fun n hn => .inl hn
    ·split
     ·rw [hf]; exact fun n hn => .inl hn
     ·split
      ·rw [hf]; exact fun n hn => .inl hn
      ·exact fun n hn => .inl hn
    ·split
     ·exact fun n hn => .inl hn
     ·split
      ·exact fun n hn => .inl hn
      ·split
       ·intro n hn
        rcases List.mem_append.1 (show n ∈ σ.nodes ++ [⟨σ.path, 4, []⟩] from hn) with hn | hn
        ·exact .inl hn
        ·obtain rfl := List.mem_singleton.1 hn
         exact .inr ⟨rfl, .inr rfl⟩
       ·exact fun n hn => .inl hn
    ·split <;> exact fun n hn => .inl hn
    ·split <;> exact fun n hn => .inl hn
    ·split <;> exact fun n hn => .inl hn
    ·split <;> exact fun n hn => .inl hn
   ·rw [hf]; exact fun n hn => .inl hn
 | leads =>
   intro n hn
   simp only [doJob] at hn
   split at hn
   ·rcases List.mem_append.1 (show n ∈ σ.nodes ++ [⟨σ.path, 3, s⟩] from hn) with hn | hn
    ·exact .inl hn
    ·obtain rfl := List.mem_singleton.1 hn
     exact .inr ⟨rfl, .inl rfl⟩
   ·rcases List.mem_append.1 (show n ∈ (σ.fail 6 p).nodes ++ [⟨(σ.fail 6 p).path, 3, s⟩] from hn) with hn | hn
    ·rw [hf] at hn; exact .inl hn
    ·obtain rfl := List.mem_singleton.1 hn
     exact .inr ⟨hp _ _, .inl rfl⟩
 | name =>
   simp only [doJob]
   split
   ·rw [hf]; exact fun n hn => .inl hn
   ·split
    ·rw [hf]; exact fun n hn => .inl hn
    ·exact fun n hn => .inl hn
 | keep k =>
   intro n hn
   rcases List.mem_append.1 (show n ∈ σ.nodes ++ [⟨σ.path, k, s⟩] from hn) with hn | hn
   ·exact .inl hn
   ·obtain rfl := List.mem_singleton.1 hn
    exact .inr ⟨rfl, .inl rfl⟩
 | cpath => intro n hn; simp [doJob] at hn
 | cref => simp only [doJob]; rw [hg]; exact fun n hn => .inl hn
 | csum => simp only [doJob]; rw [hg]; exact fun n hn => .inl hn
theorem fitX_step (j : Job) (s : List UInt8) (p : Int) (σ0 σ : PSt) (h : FitX σ0) (hat : σ0.at' + 1 ≤ σ.at') (h39 : σ.at' ≤ 549755813888) (hn : σ.nodes = σ0.nodes) (hx : σ.x = σ0.x) (hs : s.length ≤ 549755813888) (hpath : σ.path.length ≤ 549755813888) (h30 : σ.nodes.length ≤ 30) : FitX (doJob j s p σ).2 := by
 have hnsz : ∀ n ∈ (doJob j s p σ).2.nodes, n.path.length ≤ 549755813888 ∧ n.data.length ≤ 549755813888 := fun n hm => by
  rcases doJob_nodes j s p σ n hm with hm | ⟨h1, h2⟩
  ·rw [hn] at hm; exact h.nsz n hm
  ·rw [h1]
   rcases h2 with h2 | h2
   ·rw [h2]; exact ⟨hpath, hs⟩
   ·rw [h2]; exact ⟨hpath, Nat.zero_le _⟩
 have hat2 := doJob_at j s p σ
 have keep : (doJob j s p σ).2.x = σ.x → FitX (doJob j s p σ).2 := fun e => by
  have e2 := e.trans hx
  exact ⟨hnsz, by rw [e2]; exact h.name, by rw [e2, hat2]; have := h.refs; omega, by rw [e2]; exact h.rsz, by rw [e2, hat2]; have := h.came; omega, by rw [e2, hat2]; have := h.order; omega, by rw [e2]; exact h.osz, by rw [e2]; exact h.fit, by rw [e2]; exact h.once⟩
 cases j with
 | word may act =>
   refine keep ?_
   simp only [doJob]
   split
   ·exact doAct_x ..
   ·exact (fail_x ..).1
 | leads =>
   refine keep ?_
   simp only [doJob]
   split
   ·rfl
   ·exact (fail_x ..).1
 | name =>
   refine keep ?_
   simp only [doJob]
   split
   ·exact (fail_x ..).1
   ·split
    ·exact (fail_x ..).1
    ·rfl
 | keep k => exact keep rfl
 | cpath =>
   refine ⟨hnsz, hs, Nat.zero_le _, fun r hr => by simp [doJob] at hr, ?_, ?_, ?_, ?_, ?_⟩
   ·rw [hat2]; show σ.x.came.length ≤ _; rw [hx]; have := h.came; omega
   ·rw [hat2]; show σ.x.order.length ≤ _; rw [hx]; have := h.order; omega
   ·show ∀ r ∈ σ.x.order, _; rw [hx]; exact h.osz
   ·show ∀ e ∈ σ.x.came, _; rw [hx]; exact h.fit
   ·show σ.x.came.Pairwise _; rw [hx]; exact h.once
 | cref =>
   refine ⟨hnsz, ?_, ?_, ?_, ?_, ?_, ?_, ?_, ?_⟩
   ·show σ.x.name.length ≤ _; rw [hx]; exact h.name
   ·rw [hat2]; show (σ.x.refs ++ [s]).length ≤ _; rw [hx, List.length_append, List.length_singleton]; have := h.refs; omega
   ·show ∀ r ∈ σ.x.refs ++ [s], _
    rw [hx]
    intro r hr
    rcases List.mem_append.1 hr with hr | hr
    ·exact h.rsz r hr
    ·obtain rfl := List.mem_singleton.1 hr; exact hs
   ·rw [hat2]; show σ.x.came.length ≤ _; rw [hx]; have := h.came; omega
   ·rw [hat2]; show σ.x.order.length ≤ _; rw [hx]; have := h.order; omega
   ·show ∀ r ∈ σ.x.order, _; rw [hx]; exact h.osz
   ·show ∀ e ∈ σ.x.came, _; rw [hx]; exact h.fit
   ·show σ.x.came.Pairwise _; rw [hx]; exact h.once
 | csum =>
   refine ⟨hnsz, ?_, ?_, ?_, ?_, ?_, ?_, ?_, ?_⟩
   ·show σ.x.name.length ≤ _; rw [hx]; exact h.name
   ·rw [hat2]; show σ.x.refs.length ≤ _; rw [hx]; have := h.refs; omega
   ·show ∀ r ∈ σ.x.refs, _; rw [hx]; exact h.rsz
   ·rw [hat2]; show (setE σ.x.came _).length ≤ _; have h1 := setE_len σ.x.came (σ.x.ent σ.nodes); rw [hx] at h1 ⊢; have := h.came; omega
   ·rw [hat2]; show (σ.x.order ++ [σ.x.name]).length ≤ _; rw [hx, List.length_append, List.length_singleton]; have := h.order; omega
   ·show ∀ r ∈ σ.x.order ++ [σ.x.name], _
    rw [hx]
    intro r hr
    rcases List.mem_append.1 hr with hr | hr
    ·exact h.osz r hr
    ·obtain rfl := List.mem_singleton.1 hr; exact h.name
   ·show ∀ e ∈ setE σ.x.came (σ.x.ent σ.nodes), _
    intro e he
    rcases setE_mem.1 he with ⟨he, -⟩ | rfl
    ·rw [hx] at he; exact h.fit e he
    ·have hp := pack_room (l := σ.nodes) (by rw [hn]; exact h.nsz) h30
     refine ⟨hp.1, hp.2, ?_, ?_⟩
     ·show σ.x.refs.length ≤ _; rw [hx]; have := h.refs; omega
     ·show ∀ r ∈ σ.x.refs, _; rw [hx]; exact fun r hr => by have := h.rsz r hr; omega
   ·show (setE σ.x.came _).Pairwise _
    refine setE_once ?_
    rw [hx]; exact h.once
def Ahead (size : Nat) (v t : Value) : Prop :=
 match v, t with
 | .slice (some a) n _, .slice (some a') n' _ => a.block = a'.block → a'.off + n' * size ≤ a.off + n * size
 | _, _ => True
theorem ahead_self (size : Nat) (v : Value) : Ahead size v v := by
 unfold Ahead
 split
 ·exact fun _ => Nat.le_refl _
 ·trivial
theorem ahead_nil (size n c : Nat) (t : Value) : Ahead size (.slice none n c) t := trivial
theorem ahead_more {size b off n m cap : Nat} {t : Value} (h : Ahead size (.slice (some ⟨b, off, none⟩) n cap) t) : Ahead size (.slice (some ⟨b, off, none⟩) (n + m) cap) t := by
 unfold Ahead at *
 split
 ·rename_i a n1 c1 a' n' c' h1
  cases h1
  intro e
  have := h e
  rw [Nat.add_mul]
  simp only at *
  omega
 ·trivial
theorem ahead_new {w : World} {B' size b k o n c : Nat} {E : TypeId} {t : Value} {ys : List Value} (ht : Sl w B' E size t k ys) (hb : w.heap.size ≤ b) : Ahead size (.slice (some ⟨b, o, none⟩) n c) t := by
 obtain ⟨-, ⟨rfl, -⟩ | ⟨b', off, cap, cc, rfl, -, hb', -⟩⟩ := ht
 ·trivial
 ·intro e
  have := hb'.lt
  simp only at e
  omega
theorem sl_ahead {w w' : World} {B' size b off n cap k : Nat} {E : TypeId} {c c' : Array Value} {t : Value} {ys : List Value} (hb : Blk w b c E) (g1 : Blk w' b c' E) (g2 : c'.size = c.size) (g3 : ∀ j, j < off + n * size → c'[j]? = c[j]?) (hk : Keeps (One b) w w')
 (ht : Sl w B' E size t k ys) (ha : Ahead size (.slice (some ⟨b, off, none⟩) n cap) t) : Sl w' B' E size t k ys := by
 obtain ⟨h1, h2 | ⟨b', off', cap', cc, rfl, hB, hb', q1, q2, q3, q4⟩⟩ := ht
 ·exact ⟨h1, .inl h2⟩
 ·by_cases e : b' = b
  ·subst e
   obtain ⟨rfl, -⟩ := hb.inj hb'
   have hle := ha rfl
   simp only at hle
   refine ⟨h1, .inr ⟨b', off', cap', c', rfl, hB, g1, q1, q2, by omega, fun j hj => ?_⟩⟩
   rw [g3 _ (by omega)]
   exact q4 j hj
  ·exact ⟨h1, .inr ⟨b', off', cap', cc, rfl, hB, hb'.keeps hk e, q1, q2, q3, q4⟩⟩
section
variable {P : Program} {w : World}
theorem run_append_own3 (t tx ty E : TypeId) (i : TypeInfo) (z : Value) (size bytes : Nat) (ht : P.underlying t = some (.slice E)) (hi : P.info? E = some i) (hz : i.zero = some z)
 (hsize : i.size = size) (hby : i.bytes = bytes) (hzs : z.cells.size = size) (B : Nat) (hB : B ≤ w.heap.size) (v : Value) (n : Nat) (xs : List Value) (h : Sl w B E size v n xs)
 (x : Value) (m : Nat) (news : List Value) (hs : Src P size tx x m news w) (b1 : n + m ≤ maxLen) (b2 : (n + m) * bytes ≤ 140737488355328) :
 ∃ ao cc w', (Builtin.append_ #[t, tx] ty #[v, x]).run P w = .ok (.slice ao (n + m) cc) w' ∧ Sl w' B E size (.slice ao (n + m) cc) (n + m) (xs ++ news) ∧ Kp B [E] w w' ∧ Keeps (OwnOf v) w w' ∧
   ((Value.slice ao (n + m) cc).ownBlock = v.ownBlock ∨ (Value.slice ao (n + m) cc).ownBlock = some w.heap.size) ∧ ∀ (B' : Nat) (t : Value) (k : Nat) (ys : List Value), Sl w B' E size t k ys → Ahead size v t → Sl w' B' E size t k ys ∧ Ahead size (.slice ao (n + m) cc) t := by
 subst hsize
 subst hby
 obtain ⟨h1, h2⟩ := h
 have hlen : (xs ++ news).length = (n + m) * i.size := by rw [List.length_append, h1, hs.newsLen, Nat.add_mul]
 have hgrow : ∀ (base : Option Addr) (cap : Nat), v = .slice base n cap → cap < n + m → (Builtin.firstCells i.size n (.slice base n cap)).run P w.drew = .ok xs.toArray w.drew →
  ∃ ao cc w', (Builtin.append_ #[t, tx] ty #[v, x]).run P w = .ok (.slice ao (n + m) cc) w' ∧ Sl w' B E i.size (.slice ao (n + m) cc) (n + m) (xs ++ news) ∧ Kp B [E] w w' ∧ Keeps (OwnOf v) w w' ∧
    ((Value.slice ao (n + m) cc).ownBlock = v.ownBlock ∨ (Value.slice ao (n + m) cc).ownBlock = some w.heap.size) ∧ ∀ (B' : Nat) (t : Value) (k : Nat) (ys : List Value), Sl w B' E i.size t k ys → Ahead i.size v t → Sl w' B' E i.size t k ys ∧ Ahead i.size (.slice ao (n + m) cc) t := by
  rintro base cap rfl hg hold
  have hge := grownCap_ge w (n + m) cap E
  have hcm : grownCap w (n + m) cap E ≤ maxLen := grownCap_le_maxLen w (n + m) cap E b1
  have hr := run_append_grow_src (P := P) w t tx ty E i z ht hi hz base n cap xs hold x m news hs hg (by unfold maxLen at b1; omega) (growslice_fits hg b2)
  refine ⟨_, _, _, hr, ⟨hlen, .inr ⟨w.heap.size, 0, _, _, rfl, hB, Blk.new w.drew _ _, hge, hcm, ?_, fun j hj => ?_⟩⟩, (Kp.refl _ _ w).drew.alloc _, (Keeps.refl _ w).drew.alloc _, .inr rfl, fun B' t k ys ht _ => ⟨(ht.drewN 1).alloc _, ahead_new ht (Nat.le_refl _)⟩⟩
  ·simp only [Array.size_append, List.size_toArray, size_zeroCells, hzs, hlen, ← Nat.add_mul, Nat.zero_add]
   rw [show n + m + (grownCap w (n + m) cap E - (n + m)) = grownCap w (n + m) cap E by omega]
   exact Nat.le_refl _
  ·rw [Nat.zero_add, Array.getElem?_append_left (by simp only [List.size_toArray, hlen]; exact hj)]
   simp
 rcases h2 with ⟨rfl, rfl⟩ | ⟨b, off, cap, c, rfl, hBb, hb, h3, h4, h5, h6⟩
 ·obtain rfl : xs = [] := List.eq_nil_of_length_eq_zero (by simpa using h1)
  by_cases hm : m = 0
  ·subst hm
   obtain rfl : news = [] := List.eq_nil_of_length_eq_zero (by simpa using hs.newsLen)
   have : (Builtin.append_ #[t, tx] ty #[.slice none 0 0, x]).run P w = .ok (.slice none 0 0) w := by
    rcases hs.kind with ⟨e', hk⟩ | hk <;> simp [Builtin.append_, run_underlying ht, run_underlying hk, sizeOf, typeInfo, hi, hs.len, hs.cells]
   exact ⟨_, _, _, this, Sl.nil _ _ _ _, Kp.refl _ _ _, Keeps.refl _ _, .inl rfl, fun B' t k ys ht _ => ⟨ht, trivial⟩⟩
  ·exact hgrow none 0 rfl (by omega) (by simp [Builtin.firstCells])
 ·have hcells : ∀ (w1 : World), w1.cell? = w.cell? → (Builtin.firstCells i.size n (.slice (some ⟨b, off, none⟩) n cap)).run P w1 = .ok xs.toArray w1 := fun w1 hw1 =>
   run_firstCells_some w1 i.size n ⟨b, off, none⟩ n cap xs h1 (fun j u hj => by
    rw [Addr.add_lit, hw1, hb.cell, h6 j (by rw [← h1]; exact (List.getElem?_eq_some_iff.1 hj).1)]
    exact hj)
  by_cases hr : n + m ≤ cap
  ·have hnc : n * i.size + news.length ≤ cap * i.size := by rw [hs.newsLen, ← Nat.add_mul]; exact Nat.mul_le_mul_right _ hr
   have hrun := run_append_room_src (P := P) w t tx ty E i ht hi b off n cap x m news hs hr
    (fun j hj => by rw [hb.cell]; simp; omega) (fun j hj => hb.free _)
   obtain ⟨c', g1, g2, g3, g4⟩ := Blk.setCells (w := w) news (off + n * i.size) w c hb
   have hkk : Keeps (One b) w (w.setCells b (off + n * i.size) news) := Keeps.setCells (S := One b) (.inl rfl) _ _ _ (Keeps.refl _ _)
   refine ⟨_, _, _, hrun, ⟨hlen, .inr ⟨b, off, cap, c', rfl, hBb, g1, hr, h4, by omega, fun j hj => ?_⟩⟩, ⟨hkk.os, hkk.tape, hkk.output, hkk.size, fun k hk => ?_⟩, hkk.mono (fun k _ e => by cases e; rfl), .inl rfl, fun B' t k ys ht ha => ⟨sl_ahead hb g1 g2 (fun j hj => g3 j (.inl hj)) hkk ht ha, ahead_more ha⟩⟩
   ·by_cases hjn : j < n * i.size
    ·rw [g3 _ (.inl (by omega)), h6 j hjn, List.getElem?_append_left (by omega)]
    ·have hk := hs.newsLen
     rw [Nat.add_mul] at hj
     rw [show off + j = off + n * i.size + (j - n * i.size) by omega, g4 (by omega) _ (by omega), List.getElem?_append_right (by omega), h1]
   ·by_cases e : k = b
    ·subst e; exact .inr ⟨hBb, c, c', E, by simp, hb, g1⟩
    ·exact .inl (hkk.block k hk e)
  ·exact hgrow _ cap rfl (by omega) (hcells w.drew (by funext a; rfl))
theorem wpList_append_own3 {ops : Array Oper} {rest : List Oper} {o : Oper} {a : Act} {Q : Exit → Act → World → Prop} (hgd : o.guard = none) (s x : Operand) (t tx : TypeId)
 (hop : o.op = Op.call { callee := Callee.builtin Builtin.append, args := #[s, x], argTypes := #[t, tx] })
 (E : TypeId) (i : TypeInfo) (z : Value) (size bytes : Nat) (ht : P.underlying t = some (.slice E)) (hi : P.info? E = some i) (hz : i.zero = some z)
 (hsize : i.size = size) (hby : i.bytes = bytes) (hzs : z.cells.size = size) (B : Nat) (v : Value) (n : Nat) (xs : List Value) (hv : a.eval s = v) (xv : Value) (hxv : a.eval x = xv)
 (m : Nat) (news : List Value) (hB : B ≤ w.heap.size) (h : Sl w B E size v n xs) (hs : Src P size tx xv m news w) (b1 : n + m ≤ maxLen) (b2 : (n + m) * bytes ≤ 140737488355328)
 (hK : ∀ ao cc w', Sl w' B E size (.slice ao (n + m) cc) (n + m) (xs ++ news) → Kp B [E] w w' → Keeps (OwnOf v) w w' → ((Value.slice ao (n + m) cc).ownBlock = v.ownBlock ∨ (Value.slice ao (n + m) cc).ownBlock = some w.heap.size) → (∀ (B' : Nat) (t : Value) (k : Nat) (ys : List Value), Sl w B' E size t k ys → Ahead size v t → Sl w' B' E size t k ys ∧ Ahead size (.slice ao (n + m) cc) t) → wpList P ops Q rest (a.put o.dst (.slice ao (n + m) cc)) w') :
 wpList P ops Q (o :: rest) a w := by
 refine wpList_plain hgd fun K hK' => ?_
 obtain ⟨ao, cc, w', hrun, r1, r2, r3, r4, r5⟩ := run_append_own3 (P := P) t tx o.type E i z size bytes ht hi hz hsize hby hzs B hB v n xs h xv m news hs b1 b2
 unfold Oper.wp
 simp [execOp, hop, resolve, invoke, builtin, hv, hxv, hrun, Result.andThen]
 exact hK' _ _ (hK ao cc w' r1 r2 r3 r4 r5)
theorem step_append_own3 {ops : Array Oper} {o : Oper} {a : Act} {K : Act → World → Prop} {Q : Exit → Act → World → Prop} {F : Prop} (hgd : o.guard = none) (s x : Operand) (t tx : TypeId)
 (hop : o.op = Op.call { callee := Callee.builtin Builtin.append, args := #[s, x], argTypes := #[t, tx] })
 (E : TypeId) (i : TypeInfo) (z : Value) (size bytes : Nat) (ht : P.underlying t = some (.slice E)) (hi : P.info? E = some i) (hz : i.zero = some z)
 (hsize : i.size = size) (hby : i.bytes = bytes) (hzs : z.cells.size = size) (B : Nat) (v : Value) (n : Nat) (xs : List Value) (hv : a.eval s = v) (xv : Value) (hxv : a.eval x = xv)
 (m : Nat) (news : List Value) (hB : B ≤ w.heap.size) (h : Sl w B E size v n xs) (hs : Src P size tx xv m news w) (b1 : n + m ≤ maxLen) (b2 : (n + m) * bytes ≤ 140737488355328)
 (hK : ∀ ao cc w', Sl w' B E size (.slice ao (n + m) cc) (n + m) (xs ++ news) → Kp B [E] w w' → Keeps (OwnOf v) w w' → ((Value.slice ao (n + m) cc).ownBlock = v.ownBlock ∨ (Value.slice ao (n + m) cc).ownBlock = some w.heap.size) → (∀ (B' : Nat) (t : Value) (k : Nat) (ys : List Value), Sl w B' E size t k ys → Ahead size v t → Sl w' B' E size t k ys ∧ Ahead size (.slice ao (n + m) cc) t) → K (a.put o.dst (.slice ao (n + m) cc)) w') :
 if Region.wanted o (yielded ops a.tmps) = true then Oper.wp P o a w K Q else F := by
 have hw : Region.wanted o (yielded ops a.tmps) = true := by simp [Region.wanted, hgd]
 rw [if_pos hw]
 obtain ⟨ao, cc, w', hrun, r1, r2, r3, r4, r5⟩ := run_append_own3 (P := P) t tx o.type E i z size bytes ht hi hz hsize hby hzs B hB v n xs h xv m news hs b1 b2
 unfold Oper.wp
 simp [execOp, hop, resolve, invoke, builtin, hv, hxv, hrun, Result.andThen]
 exact hK ao cc w' r1 r2 r3 r4 r5
end
end Go.Proofs.YtdkogijdfgfpeaaGreatDoor
