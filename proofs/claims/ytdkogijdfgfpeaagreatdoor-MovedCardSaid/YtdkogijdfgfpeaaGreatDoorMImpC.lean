/- Plain: the bytes of right entries are imported; all of them come. -/
import Derived.Test.YtdkogijdfgfpeaaGreatDoorMImpG
import Derived.Test.YtdkogijdfgfpeaaGreatDoorMClosP
import Derived.Test.YtdkogijdfgfpeaaGreatDoorMRead
import Derived.Test.YtdkogijdfgfpeaaGreatDoorMMap
set_option linter.unusedVariables false
namespace Go.Proofs.YtdkogijdfgfpeaaGreatDoor
open Go Go.RowKit
def CX.next (x : CX) (e : Ent) : CX := { x with name := e.path, refs := e.refs, came := x.came ++ [e], order := x.order ++ [e.path] }
theorem pathB_len {p : List UInt8} (h : pathB p = true) : p.length ≤ 12 := by
 unfold pathB at h
 simp only [Bool.and_eq_true, decide_eq_true_eq] at h
 exact h.2
theorem refErr_of {x : CX} {s : List UInt8} (h1 : risesB x.refs s = true) (h2 : s = x.name ∨ (findE x.has s).isSome = true ∨ (findE x.came s).isSome = true) : refErr x s = 0 := by
 unfold refErr
 rw [h1, if_neg (by decide), if_neg]
 rintro ⟨n1, n2, n3⟩
 rcases h2 with h | h | h
 ·exact n1 h
 ·rw [n2] at h; cases h
 ·rw [n3] at h; cases h
theorem rises_of {l r : List (List UInt8)} {s : List UInt8} (h : risingB (l ++ s :: r) = true) : risesB l s = true := by
 have h1 := (List.pairwise_append.1 (risingB_pw h)).2.2
 unfold risesB
 cases hl : l.getLast? with
 | none => rfl
 | some t => exact h1 t (List.mem_of_getLast? hl) s (List.mem_cons_self ..)
theorem refs_comes : ∀ (more : List (List UInt8)) (f : Nat) (x : CX) (ρ : RS) (R : List UInt8), ρ.rest = refsL more ++ (putL wSum ++ R) → ρ.rest.length < f → risingB (x.refs ++ more) = true →
 (∀ r ∈ more, r.length ≤ 12 ∧ (r = x.name ∨ (findE x.has r).isSome = true ∨ (findE x.came r).isSome = true)) → ∃ a, rRefsF f x ρ = .ok ({ x with refs := x.refs ++ more }, ⟨R, a, ρ.nodes⟩)
 | _, 0, _, _, _, _, h, _, _ => absurd h (by omega)
 | [], f + 1, x, ρ, R, hr, hf, _, _ => by
   unfold rRefsF
   rw [rWord_of (s := wSum) (R := R) (by rw [hr]; rfl) (by decide) (by simp)]
   simp only [Except.bind]
   rw [if_neg (by decide), List.append_nil]
   exact ⟨_, rfl⟩
 | r :: l, f + 1, x, ρ, R, hr, hf, hi, hk => by
   have e : refsL (r :: l) = putL wRef ++ (putL r ++ refsL l) := by simp [refsL]
   rw [e] at hr
   obtain ⟨k1, k2⟩ := hk r (List.mem_cons_self ..)
   unfold rRefsF
   rw [rWord_of (s := wRef) (R := putL r ++ (refsL l ++ (putL wSum ++ R))) (by rw [hr]; simp) (by decide) (by simp)]
   simp only [Except.bind]
   rw [if_pos trivial, rNext_of (s := r) (R := refsL l ++ (putL wSum ++ R)) rfl k1 (by decide)]
   simp only
   rw [refErr_of (rises_of hi) k2, if_neg (by decide)]
   have hl : (refsL l ++ (putL wSum ++ R)).length < f := by
    rw [hr] at hf
    have h1 := putL_length wRef
    simp only [List.length_append] at hf ⊢
    omega
   obtain ⟨a, ha⟩ := refs_comes l f { x with refs := x.refs ++ [r] } ⟨refsL l ++ (putL wSum ++ R), ρ.at' + (putL wRef).length + (putL r).length, ρ.nodes⟩ R rfl hl (by simpa using hi) (fun q hq => hk q (List.mem_cons_of_mem _ hq))
   refine ⟨a, ?_⟩
   rw [ha]
   simp
theorem pathErr_of {x : CX} {s : List UInt8} (h1 : pathB s = true) (h2 : findE x.came s = none) : pathErr x s = 0 := by
 unfold pathErr
 rw [h1, h2]
 rfl
theorem entry_reads {x : CX} {e : Ent} {ρ : RS} {R : List UInt8} (h1 : pathB e.path = true) (h2 : findE x.came e.path = none) (h3 : wrongL e.tree = -1) (h4 : risingB e.refs = true)
 (h5 : ∀ r ∈ e.refs, r.length ≤ 12 ∧ (r = e.path ∨ (findE x.has r).isSome = true ∨ (findE x.came r).isSome = true)) (hr : putL wPath ++ ρ.rest = expEnt e ++ R) :
 ∃ p a : Nat, rEntry x ρ = if entErr { x.start e.path with refs := e.refs } e.tree (sumOf (packP e.tree)).data.toList ≠ 0 then .error (entErr { x.start e.path with refs := e.refs } e.tree (sumOf (packP e.tree)).data.toList, (p : Int)) else .ok (x.next e, ⟨R, a, e.tree⟩) := by
 have hr' : ρ.rest = putL e.path ++ (packP e.tree ++ (putL wRefs ++ (refsL e.refs ++ (putL wSum ++ (putL (sumOf (packP e.tree)).data.toList ++ R))))) := by
  unfold expEnt at hr
  simp only [List.append_assoc] at hr
  exact List.append_cancel_left hr
 obtain ⟨y, r, hl, hv, hl30⟩ := VN_of_wrong h3
 have hp : packP e.tree = putL wNar ++ nodeR y (forest r) := by
  rw [pack_ref h3, hl]
  rfl
 have hsl : (sumOf (packP e.tree)).data.toList.length ≤ 8 := by simp [sumOf, sumB, sumL]
 generalize (sumOf (packP e.tree)).data.toList = sm at *
 unfold rEntry
 rw [rNext_of (s := e.path) (R := packP e.tree ++ (putL wRefs ++ (refsL e.refs ++ (putL wSum ++ (putL sm ++ R))))) hr' (pathB_len h1) (by decide)]
 simp only [Except.bind]
 rw [pathErr_of h1 h2, if_neg (by decide)]
 rw [rWord_of (s := wNar) (R := nodeR y (forest r) ++ (putL wRefs ++ (refsL e.refs ++ (putL wSum ++ (putL sm ++ R))))) (by simp only [RS.clear]; rw [hp]; simp) (by decide) (by simp)]
 simp only
 obtain ⟨a, ha⟩ := node_of (e := 5) (path := []) (x := y) (r := r) (R := putL wRefs ++ (refsL e.refs ++ (putL wSum ++ (putL sm ++ R)))) (ρ := ⟨nodeR y (forest r) ++ (putL wRefs ++ (refsL e.refs ++ (putL wSum ++ (putL sm ++ R)))), ρ.at' + (putL e.path).length + (putL wNar).length, []⟩) hv rfl (by rw [hl] at hl30; simp only [List.length_cons, List.length_nil] at hl30 ⊢; omega) (fun g4 f ρ hr hf hn => by
  rcases hv.2 with ⟨k, _⟩ | ⟨_, _, hvf⟩
  ·exact absurd g4 k
  ·exact dirF_of hvf _ f ρ hr hf hn)
 simp only [RS.clear]
 rw [ha]
 simp only
 rw [rWord_of (s := wRefs) (R := refsL e.refs ++ (putL wSum ++ (putL sm ++ R))) rfl (by decide) (by simp)]
 simp only
 obtain ⟨a2, ha2⟩ := refs_comes e.refs ((refsL e.refs ++ (putL wSum ++ (putL sm ++ R))).length + 1) (x.start e.path) ⟨refsL e.refs ++ (putL wSum ++ (putL sm ++ R)), a + (putL wRefs).length, [] ++ y :: r⟩ (putL sm ++ R) rfl (by simp only; omega) (by simpa [CX.start] using h4) h5
 rw [ha2]
 simp only
 rw [rNext_of (s := sm) (R := R) rfl hsl (by decide)]
 simp only [List.nil_append]
 rw [← hl]
 refine ⟨a2, a2 + (putL sm).length, ?_⟩
 have hx : ({ x.start e.path with refs := (x.start e.path).refs ++ e.refs } : CX) = { x.start e.path with refs := e.refs } := by simp [CX.start]
 rw [hx]
 have hput : ({ x.start e.path with refs := e.refs } : CX).put e.tree = x.next e := by
  unfold CX.put
  have he : ({ x.start e.path with refs := e.refs } : CX).ent e.tree = e := rfl
  rw [he]
  show ({ x.start e.path with refs := e.refs, came := setE x.came e, order := x.order ++ [e.path] } : CX) = _
  rw [setE_new h2]
  rfl
 rw [hput]
theorem entErr_of {x : CX} {e : Ent} (h : EntOk x e) : entErr { x.start e.path with refs := e.refs } e.tree (sumOf (packP e.tree)).data.toList = 0 := by
 unfold entErr
 rw [if_neg (by simp)]
 have he : ({ x.start e.path with refs := e.refs } : CX).ent e.tree = e := rfl
 show (match findE x.has e.path with | .some o => if sameE o _ then (0 : Int) else 12 | .none => if x.has.length + freshN x = 10 then 14 else 0) = 0
 cases hf : findE x.has e.path with
 | some o => simp only; rw [he, h.same o hf]; rfl
 | none => simp only; rw [if_neg (h.room hf)]
theorem entry_comes {x : CX} {e : Ent} {ρ : RS} {R : List UInt8} (h : EntOk x e) (hr : putL wPath ++ ρ.rest = expEnt e ++ R) : ∃ a, rEntry x ρ = .ok (x.next e, ⟨R, a, e.tree⟩) := by
 obtain ⟨p, a, hp⟩ := entry_reads h.path h.new h.wrong h.rise (fun r hr => ⟨h.short r hr, h.known r hr⟩) hr
 rw [entErr_of h, if_neg (by decide)] at hp
 exact ⟨a, hp⟩
def Comes : CX → Ents → Prop
 | _, [] => True
 | x, e :: es => EntOk x e ∧ Comes (x.next e) es
def CX.nexts (x : CX) (es : Ents) : CX := es.foldl CX.next x
theorem nexts_has : ∀ (es : Ents) (x : CX), (x.nexts es).has = x.has ∧ (x.nexts es).came = x.came ++ es ∧ (x.nexts es).order = x.order ++ es.map Ent.path
 | [], x => by simp [CX.nexts]
 | e :: es, x => by
   obtain ⟨h1, h2, h3⟩ := nexts_has es (x.next e)
   refine ⟨h1, ?_, ?_⟩
   ·show ((x.next e).nexts es).came = _
    rw [h2]; simp [CX.next]
   ·show ((x.next e).nexts es).order = _
    rw [h3]; simp [CX.next]
theorem expEnt_word (e : Ent) : ∃ t, expEnt e = putL wPath ++ t := ⟨_, rfl⟩
theorem imp_comes : ∀ (es : Ents) (f : Nat) (x : CX) (ρ : RS) (R : List UInt8), ρ.rest = es.flatMap expEnt ++ R → ρ.rest.length < f → Comes x es → ∃ a n, rImpF f x ρ = rImpF (f - es.length) (x.nexts es) ⟨R, a, n⟩ ∧ R.length < f - es.length
 | [], f, x, ρ, R, hr, hf, hc => by
   obtain ⟨rest, at', nodes⟩ := ρ
   simp only [List.flatMap_nil, List.nil_append] at hr
   subst hr
   exact ⟨at', nodes, rfl, hf⟩
 | e :: es, 0, x, ρ, R, hr, hf, hc => absurd hf (by omega)
 | e :: es, f + 1, x, ρ, R, hr, hf, hc => by
   obtain ⟨t, ht⟩ := expEnt_word e
   rw [List.flatMap_cons, List.append_assoc] at hr
   have hr2 : ρ.rest = putL wPath ++ (t ++ (es.flatMap expEnt ++ R)) := by rw [hr, ht]; simp
   obtain ⟨a, ha⟩ := entry_comes (ρ := ⟨t ++ (es.flatMap expEnt ++ R), ρ.at' + (putL wPath).length, ρ.nodes⟩) (R := es.flatMap expEnt ++ R) hc.1 (by simp only; rw [← hr2, hr])
   have hl : (es.flatMap expEnt ++ R).length < f := by
    rw [hr2] at hf
    have h1 := putL_length wPath
    simp only [List.length_append] at hf ⊢
    omega
   obtain ⟨a2, n2, h2, h3⟩ := imp_comes es f (x.next e) ⟨es.flatMap expEnt ++ R, a, e.tree⟩ R rfl hl hc.2
   refine ⟨a2, n2, ?_, by simp only [List.length_cons]; omega⟩
   rw [rImpF, rWord_of (s := wPath) (R := t ++ (es.flatMap expEnt ++ R)) hr2 (by decide) (by simp)]
   simp only [Except.bind]
   rw [if_pos trivial, ha]
   simp only
   rw [h2]
   simp only [List.length_cons]
   rw [show f + 1 - (es.length + 1) = f - es.length by omega]
   rfl
theorem import_exp {has es : Ents} (hc : Comes (startX has) es) : ∃ x, importL has (expL es) = .ok x ∧ x.has = has ∧ x.came = es ∧ x.order = es.map Ent.path := by
 unfold importL
 rw [rWord_of (s := wExport) (R := es.flatMap expEnt ++ putL wEnd) rfl (by decide) (by simp)]
 simp only [Except.bind]
 obtain ⟨a, n, h, hl⟩ := imp_comes es ((expL es).length + 1) (startX has) ⟨es.flatMap expEnt ++ putL wEnd, 0 + (putL wExport).length, []⟩ (putL wEnd) rfl (by unfold expL; simp only [List.length_append]; omega) hc
 rw [h]
 obtain ⟨g, hg⟩ : ∃ g, (expL es).length + 1 - es.length = g + 1 := ⟨(expL es).length + 1 - es.length - 1, by omega⟩
 rw [hg, rImpF, rWord_of (s := wEnd) (R := []) (by simp) (by decide) (by simp)]
 simp only [Except.bind]
 rw [if_neg (by decide)]
 simp only [if_true]
 obtain ⟨h1, h2, h3⟩ := nexts_has es (startX has)
 exact ⟨_, rfl, h1, by rw [h2]; simp [startX], by rw [h3]; simp [startX]⟩
def Job.needs : Job → Bool
 | .word _ .dir => true
 | .name => true
 | _ => false
def Job.left (j : Job) (n : Nat) : Nat :=
 match j with
 | .word _ .dir => n - 1
 | .word _ .next' => 0
 | .word _ .more => 0
 | .cpath => 0
 | _ => n
def OkJ : List Job → Nat → Prop
 | [], _ => True
 | j :: js, n => (j.needs = true → 1 ≤ n) ∧ OkJ js (j.left n)
theorem Job.left_le (j : Job) {n m : Nat} (h : n ≤ m) : j.left n ≤ j.left m := by
 unfold Job.left; split <;> omega
theorem OkJ.mono : ∀ {js : List Job} {n m : Nat}, OkJ js n → n ≤ m → OkJ js m
 | [], _, _, _, _ => trivial
 | j :: js, n, m, h, hm => ⟨fun hn => Nat.le_trans (h.1 hn) hm, OkJ.mono h.2 (j.left_le hm)⟩
theorem fail_above (σ : PSt) (e p : Int) : (σ.fail e p).above = σ.above ∧ (σ.fail e p).nodes = σ.nodes ∧ (σ.fail e p).path = σ.path ∧ (σ.fail e p).at' = σ.at' ∧ (σ.fail e p).rest.length ≤ σ.rest.length := by
 unfold PSt.fail; split
 ·exact ⟨rfl, rfl, rfl, rfl, Nat.zero_le _⟩
 ·exact ⟨rfl, rfl, rfl, rfl, Nat.le_refl _⟩
theorem failIf_above (σ : PSt) (e p : Int) : (σ.failIf e p).above = σ.above := by
 unfold PSt.failIf; split
 ·rfl
 ·exact (fail_above ..).1
theorem okJ_plain {js : List Job} {n : Nat} (h : OkJ js n) (j : Job) (h1 : j.needs = false) (h2 : j.left n = n) : OkJ (j :: js) n := ⟨(fun e => by rw [h1] at e; cases e), (by rw [h2]; exact h)⟩
theorem okJ_dir {js : List Job} {n : Nat} (h : OkJ js (n - 1)) (h1 : 1 ≤ n) : OkJ (dirJob :: js) n := ⟨fun _ => h1, h⟩
theorem okJ_name {js : List Job} {n : Nat} (h : OkJ js n) (h1 : 1 ≤ n) : OkJ (.name :: js) n := ⟨fun _ => h1, h⟩
theorem okJ_node {js : List Job} {n : Nat} (h : OkJ js n) : OkJ (nodeJobs ++ js) n :=
 okJ_plain (okJ_plain (okJ_plain h _ rfl rfl) _ rfl rfl) _ rfl rfl
theorem okJ_step (j : Job) (js : List Job) (s : List UInt8) (p : Int) (σ : PSt) (h : OkJ (j :: js) σ.above.length) : OkJ ((doJob j s p σ).1 ++ js) (doJob j s p σ).2.above.length := by
 obtain ⟨h1, h2⟩ := h
 have hl : OkJ js σ.above.length := h2.mono (by unfold Job.left; split <;> omega)
 cases j with
 | word may act =>
   simp only [doJob]
   split
   ·cases act <;> simp only [doAct]
    ·exact hl
    ·split
     ·rw [(fail_above ..).1]; exact hl
     ·split
      ·rw [(fail_above ..).1]; exact hl
      ·exact hl
    ·split
     ·exact okJ_plain hl _ rfl rfl
     ·split
      ·exact okJ_plain (okJ_plain (okJ_plain hl _ rfl rfl) _ rfl rfl) _ rfl rfl
      ·split
       ·rw [List.length_append]
        exact okJ_dir hl (by simp)
       ·exact hl
    ·split
     ·exact okJ_plain (okJ_plain (okJ_plain (okJ_plain hl _ rfl rfl) _ rfl rfl) _ rfl rfl) _ rfl rfl
     ·exact okJ_plain (okJ_plain hl _ rfl rfl) _ rfl rfl
    ·have hn := h1 rfl
     split
     ·rw [List.length_dropLast]; exact h2
     ·rw [List.append_assoc, List.append_assoc]
      refine okJ_plain (okJ_plain (okJ_name (okJ_plain (okJ_node (okJ_plain (okJ_dir ?_ hn) _ rfl rfl)) _ rfl rfl) hn) _ rfl rfl) _ rfl rfl
      exact h2
    ·split
     ·exact ⟨fun e => (by cases e), h2⟩
     ·exact hl
    ·split
     ·exact ⟨fun e => (by cases e), fun e => (by cases e), h2⟩
     ·exact ⟨fun e => (by cases e), fun e => (by cases e), h2⟩
   ·rw [(fail_above ..).1]; exact hl
 | leads =>
   simp only [doJob]
   split
   ·exact hl
   ·show OkJ js (σ.fail 6 p).above.length
    rw [(fail_above ..).1]; exact hl
 | name =>
   have hn := h1 rfl
   simp only [doJob]
   rw [List.length_append, List.length_dropLast]
   have e : σ.above.length - 1 + [((σ.above.getLastD ([], [])).1, s)].length = σ.above.length := by simp; omega
   rw [e]
   exact hl
 | keep k => exact hl
 | cpath =>
   simp only [doJob]
   show OkJ (.word [wNar] .none :: (nodeJobs ++ [.word [wRefs] .none, moreJob] ++ js)) 0
   refine okJ_plain ?_ _ rfl rfl
   rw [List.append_assoc]
   exact okJ_node (okJ_plain (show OkJ (moreJob :: js) 0 from ⟨fun e => (by cases e), h2⟩) (.word [wRefs] .none) rfl rfl)
 | cref =>
   simp only [doJob]
   show OkJ js (σ.failIf (refErr σ.x s) p).above.length
   rw [failIf_above]; exact hl
 | csum =>
   simp only [doJob]
   show OkJ js (σ.failIf (entErr σ.x σ.nodes s) p).above.length
   rw [failIf_above]; exact hl
structure FitJ (n : Nat) (σ : PSt) : Prop where
 all : σ.at' + σ.rest.length ≤ 549755813888
 todo : n ≤ σ.at' + 4
 nodes : σ.nodes.length ≤ σ.at'
 above : σ.above.length ≤ σ.at'
 path : σ.path.length ≤ σ.at'
 dirs : ∀ o ∈ σ.above, o.1.length ≤ σ.at' ∧ o.2.length ≤ σ.at'
structure Room (n m : Nat) (σ : PSt) : Prop where
 all : σ.at' + σ.rest.length ≤ 549755813888
 todo : n + 8 ≤ σ.at' + 4
 nodes : σ.nodes.length + 8 ≤ σ.at'
 above : σ.above.length + 8 ≤ σ.at'
 path : σ.path.length + 8 ≤ σ.at'
 dirs : ∀ o ∈ σ.above, o.1.length + m + 8 ≤ σ.at' ∧ o.2.length ≤ σ.at'
 str : m ≤ σ.at'
theorem Room.of {n m k : Nat} {σ : PSt} (h : FitJ n σ) (hk : k ≤ σ.rest.length) (hm : m + 8 ≤ k) : Room n m { σ with rest := σ.rest.drop k, at' := σ.at' + k } := by
 obtain ⟨h1, h2, h3, h4, h5, h6⟩ := h
 refine ⟨by simp only [List.length_drop]; omega, by simp only; omega, by simp only; omega, by simp only; omega, by simp only; omega, fun o ho => ?_, by simp only; omega⟩
 have := h6 o ho
 simp only
 omega
theorem Room.fail {n m : Nat} {σ : PSt} (h : Room n m σ) (e p : Int) : Room n m (σ.fail e p) := by
 obtain ⟨h1, h2, h3, h4, h5, h6, h7⟩ := h
 obtain ⟨q1, q2, q3, q4, q5⟩ := fail_above σ e p
 exact ⟨by rw [q4]; omega, by rw [q4]; exact h2, by rw [q2, q4]; exact h3, by rw [q1, q4]; exact h4, by rw [q3, q4]; exact h5, fun o ho => by rw [q4]; exact h6 o (by rwa [q1] at ho), by rw [q4]; exact h7⟩
theorem Room.fit {n m i : Nat} {σ : PSt} (h : Room n m σ) (hi : i ≤ n + 8) : FitJ i σ := by
 obtain ⟨h1, h2, h3, h4, h5, h6, h7⟩ := h
 exact ⟨h1, by omega, by omega, by omega, by omega, fun o ho => by have := h6 o ho; omega⟩
theorem Room.failIf {n m : Nat} {σ : PSt} (h : Room n m σ) (e p : Int) : Room n m (σ.failIf e p) := by
 unfold PSt.failIf; split
 ·exact h
 ·exact h.fail _ _
theorem fit_add {n m i : Nat} {σ : PSt} (h : Room n m σ) (hi : i ≤ n + 8) (k : Int) (d : List UInt8) : FitJ i (σ.add k d) := by
 have hf := h.fit hi
 obtain ⟨h1, h2, h3, h4, h5, h6, h7⟩ := h
 exact ⟨h1, hf.todo, by simp only [PSt.add, List.length_append, List.length_cons, List.length_nil]; omega, hf.above, hf.path, hf.dirs⟩
theorem room_last {n m : Nat} {σ : PSt} (h : Room n m σ) : (σ.above.getLastD ([], [])).1.length + m + 8 ≤ σ.at' ∨ (σ.above.getLastD ([], [])).1 = [] := by
 rcases List.eq_nil_or_concat σ.above with e | ⟨l, o, e⟩
 ·right; rw [e]; rfl
 ·left
  rw [e, List.concat_eq_append, List.getLastD_concat]
  exact (h.dirs o (by rw [e, List.concat_eq_append]; simp)).1
theorem fit_step (j : Job) (s : List UInt8) (p : Int) (σ : PSt) (n : Nat) (h : Room (n + 1) s.length σ) : FitJ ((doJob j s p σ).1.length + n) (doJob j s p σ).2 := by
 cases j with
 | word may act =>
   simp only [doJob]
   split
   ·cases act <;> simp only [doAct]
    ·exact h.fit (by simp; omega)
    ·split
     ·exact (h.fail _ _).fit (by simp; omega)
     ·split
      ·exact (h.fail _ _).fit (by simp; omega)
      ·exact h.fit (by simp; omega)
    ·split
     ·exact h.fit (by simp; omega)
     ·split
      ·exact h.fit (by simp; omega)
      ·split
       ·have hf := fit_add h (i := 1 + n) (by omega) 4 []
        obtain ⟨h1, h2, h3, h4, h5, h6, h7⟩ := h
        refine ⟨hf.all, hf.todo, hf.nodes, ?_, hf.path, fun o ho => ?_⟩
        ·simp only [List.length_append, List.length_cons, List.length_nil, PSt.add]; omega
        ·rcases List.mem_append.1 ho with ho | ho
         ·exact hf.dirs o ho
         ·obtain rfl := List.mem_singleton.1 ho
          exact ⟨hf.path, Nat.zero_le _⟩
       ·exact h.fit (by simp; omega)
    ·split
     ·exact h.fit (by simp; omega)
     ·exact h.fit (by simp; omega)
    ·split
     ·have hf := h.fit (i := n) (by omega)
      refine ⟨hf.all, by simpa using hf.todo, hf.nodes, ?_, hf.path, fun o ho => hf.dirs o (List.dropLast_subset _ ho)⟩
      have := hf.above
      simp only [List.length_dropLast]; omega
     ·exact h.fit (by simp [nodeJobs]; omega)
    ·split
     ·exact h.fit (by simp; omega)
     ·exact h.fit (by simp; omega)
    ·split
     ·exact h.fit (by simp; omega)
     ·exact h.fit (by simp; omega)
   ·exact (h.fail _ _).fit (by simp; omega)
 | leads =>
   simp only [doJob]
   split
   ·exact fit_add h (by simp; omega) _ _
   ·exact fit_add (h.fail _ _) (by simp; omega) _ _
 | name =>
   have key : ∀ σ' : PSt, Room (n + 1) s.length σ' → σ'.above = σ.above → FitJ (([] : List Job).length + n) { σ' with above := σ.above.dropLast ++ [((σ.above.getLastD ([], [])).1, s)], path := joinP (σ.above.getLastD ([], [])).1 s } := by
    intro σ' h' ha
    have hf := h'.fit (i := n) (by omega)
    have hlast := room_last h'
    rw [ha] at hlast
    have hd := h'.dirs
    have hab := h'.above
    have hst := h'.str
    rw [ha] at hd hab
    generalize σ.above.getLastD ([], []) = t at *
    refine ⟨hf.all, by simpa using hf.todo, hf.nodes, ?_, ?_, fun o ho => ?_⟩
    ·simp only [List.length_append, List.length_dropLast, List.length_cons, List.length_nil]; omega
    ·simp only [joinP]
     split
     ·exact hst
     ·rename_i hne
      rcases hlast with h1 | h1
      ·simp only [List.length_append, List.length_cons]; omega
      ·exact absurd h1 hne
    ·rcases List.mem_append.1 ho with ho | ho
     ·have := hd o (List.dropLast_subset _ ho)
      simp only
      omega
     ·obtain rfl := List.mem_singleton.1 ho
      refine ⟨?_, hst⟩
      rcases hlast with h1 | h1
      ·simp only; omega
      ·rw [h1]; exact Nat.zero_le _
   simp only [doJob]
   refine key _ ?_ ?_
   ·split
    ·exact h.fail _ _
    ·split
     ·exact h.fail _ _
     ·exact h
   ·split
    ·exact (fail_above ..).1
    ·split
     ·exact (fail_above ..).1
     ·rfl
 | keep k => exact fit_add h (i := 0 + n) (by omega) k s |> fun h2 => by rw [Nat.zero_add] at h2; exact (by simpa [doJob] using h2)
 | cpath =>
   have hf := (h.failIf (pathErr σ.x s) p).fit (i := (treeJobs ++ [.word [wRefs] .none, moreJob]).length + n) (by simp [treeJobs, nodeJobs]; omega)
   exact ⟨hf.all, hf.todo, Nat.zero_le _, Nat.zero_le _, Nat.zero_le _, fun o ho => by simp [doJob] at ho⟩
 | cref =>
   have hf := (h.failIf (refErr σ.x s) p).fit (i := 0 + n) (by omega)
   exact ⟨hf.all, hf.todo, hf.nodes, hf.above, hf.path, hf.dirs⟩
 | csum =>
   have hf := (h.failIf (entErr σ.x σ.nodes s) p).fit (i := 0 + n) (by omega)
   exact ⟨hf.all, hf.todo, hf.nodes, hf.above, hf.path, hf.dirs⟩
def Job.adds : Job → Bool
 | .word _ .kind => true
 | .word _ .file => true
 | .leads => true
 | .keep _ => true
 | _ => false
def Job.free (j : Job) (f : Bool) : Bool :=
 match j with
 | .word _ .none => f
 | .word _ .open' => true
 | _ => false
def OkA : List Job → Bool → Prop
 | [], _ => True
 | j :: js, f => (j.adds = true → f = true) ∧ OkA js (j.free f)
theorem OkA.up : ∀ {js : List Job} {f : Bool}, OkA js false → OkA js f
 | [], _, _ => trivial
 | j :: js, true, h => by
   refine ⟨fun _ => rfl, ?_⟩
   have h2 := h.2
   cases j with
   | word may act => cases act <;> first | exact OkA.up h2 | exact h2
   | leads => exact h2
   | name => exact h2
   | keep k => exact h2
   | cpath => exact h2
   | cref => exact h2
   | csum => exact h2
 | j :: js, false, h => h
def Cnt (σ : PSt) (f : Bool) : Prop := σ.err = 0 → σ.nodes.length ≤ 30 ∧ (f = true → σ.nodes.length ≤ 29)
theorem Cnt.bad {σ : PSt} {f : Bool} (h : σ.err ≠ 0) : Cnt σ f := fun h0 => absurd h0 h
theorem fail_err (σ : PSt) {e : Int} (he : e ≠ 0) (p : Int) : (σ.fail e p).err ≠ 0 := by
 unfold PSt.fail; split
 ·exact he
 ·assumption
theorem Cnt.down {σ : PSt} {f : Bool} (h : Cnt σ f) : Cnt σ false := fun h0 => ⟨(h h0).1, fun e => by cases e⟩
theorem Cnt.fail {σ : PSt} {f : Bool} (h : Cnt σ f) (e p : Int) : Cnt (σ.fail e p) f := by
 unfold PSt.fail; split
 ·rename_i h0
  intro _
  exact h h0
 ·exact h
theorem Cnt.failIf {σ : PSt} {f : Bool} (h : Cnt σ f) (e p : Int) : Cnt (σ.failIf e p) f := by
 unfold PSt.failIf; split
 ·exact h
 ·exact h.fail _ _
theorem Cnt.add {σ : PSt} (h : Cnt σ true) (k : Int) (d : List UInt8) : Cnt (σ.add k d) false := fun h0 => ⟨by
 have := (h h0).2 rfl
 simp only [PSt.add, List.length_append, List.length_cons, List.length_nil]
 omega, fun e => by cases e⟩
theorem okA_none {js : List Job} {f : Bool} {may : List (List UInt8)} (h : OkA js f) : OkA (.word may .none :: js) f := ⟨fun e => (by cases e), h⟩
theorem okA_add {js : List Job} {j : Job} (h : OkA js false) (hj : j.free true = false) : OkA (j :: js) true := ⟨fun _ => rfl, by rw [hj]; exact h⟩
theorem okA_skip {js : List Job} {j : Job} (h : OkA js false) (h1 : j.adds = false) (hj : j.free false = false) : OkA (j :: js) false := ⟨fun e => (by rw [h1] at e; cases e), by rw [hj]; exact h⟩
theorem okA_node {js : List Job} (h : OkA js false) (f : Bool) : OkA (nodeJobs ++ js) f := ⟨fun e => (by cases e), okA_none (okA_add h rfl)⟩
theorem okA_step (j : Job) (js : List Job) (s : List UInt8) (p : Int) (σ : PSt) (f : Bool) (h : OkA (j :: js) f) (hc : Cnt σ f) : ∃ f', OkA ((doJob j s p σ).1 ++ js) f' ∧ Cnt (doJob j s p σ).2 f' := by
 obtain ⟨h1, h2⟩ := h
 cases j with
 | word may act =>
   simp only [doJob]
   split
   ·cases act <;> simp only [doAct]
    ·exact ⟨f, h2, hc⟩
    ·refine ⟨true, h2, ?_⟩
     split
     ·exact Cnt.bad (fail_err _ (by decide) _)
     ·split
      ·exact Cnt.bad (fail_err _ (by decide) _)
      ·rename_i hn
       exact fun h0 => ⟨(hc h0).1, fun _ => by have := (hc h0).1; omega⟩
    ·obtain rfl := h1 rfl
     have h2 : OkA js false := h2
     split
     ·exact ⟨true, okA_add h2 rfl, hc⟩
     ·split
      ·exact ⟨true, okA_none (okA_add (okA_none h2) rfl), hc⟩
      ·split
       ·exact ⟨false, okA_skip h2 rfl rfl, fun h0 => (hc.add 4 []) h0⟩
       ·exact ⟨false, h2, hc.down⟩
    ·obtain rfl := h1 rfl
     have h2 : OkA js false := h2
     split
     ·exact ⟨true, okA_none (okA_none (okA_add (okA_none h2) rfl)), hc⟩
     ·exact ⟨true, okA_add (okA_none h2) rfl, hc⟩
    ·have h2 : OkA js false := h2
     split
     ·exact ⟨false, h2, fun h0 => hc.down h0⟩
     ·refine ⟨false, ?_, hc.down⟩
      rw [List.append_assoc, List.append_assoc]
      exact okA_none (okA_none (okA_skip (okA_none (okA_node (okA_none (okA_skip h2 rfl rfl)) false)) rfl rfl))
    ·have h2 : OkA js false := h2
     split
     ·exact ⟨false, okA_skip h2 rfl rfl, hc.down⟩
     ·exact ⟨false, h2, hc.down⟩
    ·have h2 : OkA js false := h2
     split
     ·exact ⟨false, okA_skip (okA_skip h2 rfl rfl) rfl rfl, hc.down⟩
     ·exact ⟨false, okA_skip (okA_skip h2 rfl rfl) rfl rfl, hc.down⟩
   ·exact ⟨_, h2, Cnt.bad (fail_err _ (by decide) _)⟩
 | leads =>
   obtain rfl := h1 rfl
   refine ⟨false, h2, ?_⟩
   simp only [doJob]
   split
   ·exact hc.add _ _
   ·exact (hc.fail _ _).add _ _
 | name =>
   refine ⟨false, h2, ?_⟩
   simp only [doJob]
   split
   ·exact fun h0 => (hc.down.fail _ _) h0
   ·split
    ·exact fun h0 => (hc.down.fail _ _) h0
    ·exact fun h0 => hc.down h0
 | keep k =>
   obtain rfl := h1 rfl
   exact ⟨false, h2, hc.add _ _⟩
 | cpath =>
   refine ⟨false, ?_, fun h0 => ⟨Nat.zero_le _, fun e => by cases e⟩⟩
   show OkA (.word [wNar] .none :: (nodeJobs ++ [.word [wRefs] .none, moreJob] ++ js)) false
   rw [List.append_assoc]
   exact okA_none (okA_node (okA_none (okA_skip h2 rfl rfl)) false)
 | cref => exact ⟨false, h2, fun h0 => (by
  have := (hc.down.failIf (refErr σ.x s) p) h0
  exact this)⟩
 | csum => exact ⟨false, h2, fun h0 => (by
  have := (hc.down.failIf (entErr σ.x σ.nodes s) p) h0
  exact this)⟩
structure FitX (σ : PSt) : Prop where
 nsz : ∀ n ∈ σ.nodes, n.path.length ≤ 549755813888 ∧ n.data.length ≤ 549755813888
 name : σ.x.name.length ≤ 549755813888
 refs : σ.x.refs.length ≤ σ.at'
 rsz : ∀ r ∈ σ.x.refs, r.length ≤ 549755813888
 came : σ.x.came.length ≤ σ.at'
 order : σ.x.order.length ≤ σ.at'
 osz : ∀ r ∈ σ.x.order, r.length ≤ 549755813888
 fit : ∀ e ∈ σ.x.came, EntFit e
 once : σ.x.came.Pairwise fun a b => a.path ≠ b.path
theorem pack_room {l : List Node} (h : ∀ n ∈ l, n.path.length ≤ 549755813888 ∧ n.data.length ≤ 549755813888) (hl : l.length ≤ 30) : NodesSmall l ∧ (packP l).length ≤ 70368744177664 := by
 refine ⟨fun n hn => by have := h n hn; omega, ?_⟩
 have h1 := packP_len l
 have h2 : ∀ l : List Node, (∀ n ∈ l, n.path.length ≤ 549755813888 ∧ n.data.length ≤ 549755813888) → (l.map fun x => x.path.length + x.data.length).sum ≤ l.length * 1099511627776 := by
  intro l
  induction l with
  | nil => intro _; simp
  | cons x r ih =>
    intro hx
    have h3 := ih fun y hy => hx y (List.mem_cons_of_mem _ hy)
    have h4 := hx x (List.mem_cons_self ..)
    simp only [List.map_cons, List.sum_cons, List.length_cons, Nat.succ_mul]
    omega
 have h3 := h2 l h
 have h5 : l.length * 1099511627776 ≤ 30 * 1099511627776 := Nat.mul_le_mul_right _ hl
 omega
theorem setE_len (L : Ents) (e : Ent) : (setE L e).length ≤ L.length + 1 := by
 have := List.length_filter_le (fun o : Ent => o.path != e.path) L
 simp only [setE, List.length_append, List.length_cons, List.length_nil]
 omega
theorem setE_mem {L : Ents} {e o : Ent} : o ∈ setE L e ↔ (o ∈ L ∧ o.path ≠ e.path) ∨ o = e := by
 simp [setE]
theorem setE_once {L : Ents} {e : Ent} (h : L.Pairwise fun a b => a.path ≠ b.path) : (setE L e).Pairwise fun a b => a.path ≠ b.path := by
 unfold setE
 rw [List.pairwise_append]
 refine ⟨h.filter _, List.pairwise_singleton _ _, fun a ha b hb => ?_⟩
 obtain rfl := List.mem_singleton.1 hb
 have := (List.mem_filter.1 ha).2
 simpa using this
theorem doAct_x (a : Act1) (s : List UInt8) (p : Int) (σ : PSt) : (doAct a s p σ).2.x = σ.x := by
 cases a <;> simp only [doAct]
 ·split
  ·exact (fail_x ..).1
  ·split
   ·exact (fail_x ..).1
   ·rfl
 ·split
  ·rfl
  ·split
   ·rfl
   ·split <;> rfl
 ·split <;> rfl
 ·split <;> rfl
 ·split <;> rfl
 ·split <;> rfl
theorem doJob_at (j : Job) (s : List UInt8) (p : Int) (σ : PSt) : (doJob j s p σ).2.at' = σ.at' := by
 have hf := fun e p => (fail_above σ e p).2.2.2.1
 have hg : ∀ e p, (σ.failIf e p).at' = σ.at' := fun e p => by
  unfold PSt.failIf; split
  ·rfl
  ·exact hf _ _
 cases j with
 | word may act =>
   simp only [doJob]
   split
   ·cases act <;> simp only [doAct]
    ·split
     ·exact hf _ _
     ·split
      ·exact hf _ _
      ·rfl
    ·split
     ·rfl
     ·split
      ·rfl
      ·split <;> rfl
    ·split <;> rfl
    ·split <;> rfl
    ·split <;> rfl
    ·split <;> rfl
   ·exact hf _ _
 | leads =>
   simp only [doJob]
   split
   ·rfl
   ·exact hf _ _
 | name =>
   simp only [doJob]
   split
   ·exact hf _ _
   ·split
    ·exact hf _ _
    ·rfl
 | keep k => rfl
 | cpath => exact hg _ _
 | cref => exact hg _ _
 | csum => exact hg _ _
theorem doJob_nodes (j : Job) (s : List UInt8) (p : Int) (σ : PSt) : ∀ n ∈ (doJob j s p σ).2.nodes, n ∈ σ.nodes ∨ (n.path = σ.path ∧ (n.data = s ∨ n.data = [])) := by
 have hf := fun e p => (fail_x σ e p).2
 have hp := fun e p => (fail_above σ e p).2.2.1
 have hg := fun e p => (failIf_x σ e p).2
 cases j with
 | word may act =>
   simp only [doJob]
   split
   ·cases act <;> simp only [doAct]
    ·exact fun n hn => .inl hn
    ·split
     ·rw [hf]; exact fun n hn => .inl hn
     ·split
      ·rw [hf]; exact fun n hn => .inl hn
      ·exact fun n hn => .inl hn
    ·split
     ·exact fun n hn => .inl hn
     ·split
      ·exact fun n hn => .inl hn
      ·split
       ·intro n hn
        rcases List.mem_append.1 (show n ∈ σ.nodes ++ [⟨σ.path, 4, []⟩] from hn) with hn | hn
        ·exact .inl hn
        ·obtain rfl := List.mem_singleton.1 hn
         exact .inr ⟨rfl, .inr rfl⟩
       ·exact fun n hn => .inl hn
    ·split <;> exact fun n hn => .inl hn
    ·split <;> exact fun n hn => .inl hn
    ·split <;> exact fun n hn => .inl hn
    ·split <;> exact fun n hn => .inl hn
   ·rw [hf]; exact fun n hn => .inl hn
 | leads =>
   intro n hn
   simp only [doJob] at hn
   split at hn
   ·rcases List.mem_append.1 (show n ∈ σ.nodes ++ [⟨σ.path, 3, s⟩] from hn) with hn | hn
    ·exact .inl hn
    ·obtain rfl := List.mem_singleton.1 hn
     exact .inr ⟨rfl, .inl rfl⟩
   ·rcases List.mem_append.1 (show n ∈ (σ.fail 6 p).nodes ++ [⟨(σ.fail 6 p).path, 3, s⟩] from hn) with hn | hn
    ·rw [hf] at hn; exact .inl hn
    ·obtain rfl := List.mem_singleton.1 hn
     exact .inr ⟨hp _ _, .inl rfl⟩
 | name =>
   simp only [doJob]
   split
   ·rw [hf]; exact fun n hn => .inl hn
   ·split
    ·rw [hf]; exact fun n hn => .inl hn
    ·exact fun n hn => .inl hn
 | keep k =>
   intro n hn
   rcases List.mem_append.1 (show n ∈ σ.nodes ++ [⟨σ.path, k, s⟩] from hn) with hn | hn
   ·exact .inl hn
   ·obtain rfl := List.mem_singleton.1 hn
    exact .inr ⟨rfl, .inl rfl⟩
 | cpath => intro n hn; simp [doJob] at hn
 | cref => simp only [doJob]; rw [hg]; exact fun n hn => .inl hn
 | csum => simp only [doJob]; rw [hg]; exact fun n hn => .inl hn
theorem fitX_step (j : Job) (s : List UInt8) (p : Int) (σ0 σ : PSt) (h : FitX σ0) (hat : σ0.at' + 1 ≤ σ.at') (h39 : σ.at' ≤ 549755813888) (hn : σ.nodes = σ0.nodes) (hx : σ.x = σ0.x) (hs : s.length ≤ 549755813888) (hpath : σ.path.length ≤ 549755813888) (h30 : σ.nodes.length ≤ 30) : FitX (doJob j s p σ).2 := by
 have hnsz : ∀ n ∈ (doJob j s p σ).2.nodes, n.path.length ≤ 549755813888 ∧ n.data.length ≤ 549755813888 := fun n hm => by
  rcases doJob_nodes j s p σ n hm with hm | ⟨h1, h2⟩
  ·rw [hn] at hm; exact h.nsz n hm
  ·rw [h1]
   rcases h2 with h2 | h2
   ·rw [h2]; exact ⟨hpath, hs⟩
   ·rw [h2]; exact ⟨hpath, Nat.zero_le _⟩
 have hat2 := doJob_at j s p σ
 have keep : (doJob j s p σ).2.x = σ.x → FitX (doJob j s p σ).2 := fun e => by
  have e2 := e.trans hx
  exact ⟨hnsz, by rw [e2]; exact h.name, by rw [e2, hat2]; have := h.refs; omega, by rw [e2]; exact h.rsz, by rw [e2, hat2]; have := h.came; omega, by rw [e2, hat2]; have := h.order; omega, by rw [e2]; exact h.osz, by rw [e2]; exact h.fit, by rw [e2]; exact h.once⟩
 cases j with
 | word may act =>
   refine keep ?_
   simp only [doJob]
   split
   ·exact doAct_x ..
   ·exact (fail_x ..).1
 | leads =>
   refine keep ?_
   simp only [doJob]
   split
   ·rfl
   ·exact (fail_x ..).1
 | name =>
   refine keep ?_
   simp only [doJob]
   split
   ·exact (fail_x ..).1
   ·split
    ·exact (fail_x ..).1
    ·rfl
 | keep k => exact keep rfl
 | cpath =>
   refine ⟨hnsz, hs, Nat.zero_le _, fun r hr => by simp [doJob] at hr, ?_, ?_, ?_, ?_, ?_⟩
   ·rw [hat2]; show σ.x.came.length ≤ _; rw [hx]; have := h.came; omega
   ·rw [hat2]; show σ.x.order.length ≤ _; rw [hx]; have := h.order; omega
   ·show ∀ r ∈ σ.x.order, _; rw [hx]; exact h.osz
   ·show ∀ e ∈ σ.x.came, _; rw [hx]; exact h.fit
   ·show σ.x.came.Pairwise _; rw [hx]; exact h.once
 | cref =>
   refine ⟨hnsz, ?_, ?_, ?_, ?_, ?_, ?_, ?_, ?_⟩
   ·show σ.x.name.length ≤ _; rw [hx]; exact h.name
   ·rw [hat2]; show (σ.x.refs ++ [s]).length ≤ _; rw [hx, List.length_append, List.length_singleton]; have := h.refs; omega
   ·show ∀ r ∈ σ.x.refs ++ [s], _
    rw [hx]
    intro r hr
    rcases List.mem_append.1 hr with hr | hr
    ·exact h.rsz r hr
    ·obtain rfl := List.mem_singleton.1 hr; exact hs
   ·rw [hat2]; show σ.x.came.length ≤ _; rw [hx]; have := h.came; omega
   ·rw [hat2]; show σ.x.order.length ≤ _; rw [hx]; have := h.order; omega
   ·show ∀ r ∈ σ.x.order, _; rw [hx]; exact h.osz
   ·show ∀ e ∈ σ.x.came, _; rw [hx]; exact h.fit
   ·show σ.x.came.Pairwise _; rw [hx]; exact h.once
 | csum =>
   refine ⟨hnsz, ?_, ?_, ?_, ?_, ?_, ?_, ?_, ?_⟩
   ·show σ.x.name.length ≤ _; rw [hx]; exact h.name
   ·rw [hat2]; show σ.x.refs.length ≤ _; rw [hx]; have := h.refs; omega
   ·show ∀ r ∈ σ.x.refs, _; rw [hx]; exact h.rsz
   ·rw [hat2]; show (setE σ.x.came _).length ≤ _; have h1 := setE_len σ.x.came (σ.x.ent σ.nodes); rw [hx] at h1 ⊢; have := h.came; omega
   ·rw [hat2]; show (σ.x.order ++ [σ.x.name]).length ≤ _; rw [hx, List.length_append, List.length_singleton]; have := h.order; omega
   ·show ∀ r ∈ σ.x.order ++ [σ.x.name], _
    rw [hx]
    intro r hr
    rcases List.mem_append.1 hr with hr | hr
    ·exact h.osz r hr
    ·obtain rfl := List.mem_singleton.1 hr; exact h.name
   ·show ∀ e ∈ setE σ.x.came (σ.x.ent σ.nodes), _
    intro e he
    rcases setE_mem.1 he with ⟨he, -⟩ | rfl
    ·rw [hx] at he; exact h.fit e he
    ·have hp := pack_room (l := σ.nodes) (by rw [hn]; exact h.nsz) h30
     refine ⟨hp.1, hp.2, ?_, ?_⟩
     ·show σ.x.refs.length ≤ _; rw [hx]; have := h.refs; omega
     ·show ∀ r ∈ σ.x.refs, _; rw [hx]; exact fun r hr => by have := h.rsz r hr; omega
   ·show (setE σ.x.came _).Pairwise _
    refine setE_once ?_
    rw [hx]; exact h.once
end Go.Proofs.YtdkogijdfgfpeaaGreatDoor
