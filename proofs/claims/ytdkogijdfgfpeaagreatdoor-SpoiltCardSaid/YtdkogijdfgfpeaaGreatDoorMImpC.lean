/- Plain: the bytes of right entries are imported; all of them come. -/
import Derived.Test.YtdkogijdfgfpeaaGreatDoorMImpG
import Derived.Test.YtdkogijdfgfpeaaGreatDoorMClosP
set_option linter.unusedVariables false
namespace Go.Proofs.YtdkogijdfgfpeaaGreatDoor
open Go Go.RowKit
def CX.next (x : CX) (e : Ent) : CX := { x with name := e.path, refs := e.refs, came := x.came ++ [e], order := x.order ++ [e.path] }
theorem pathB_len {p : List UInt8} (h : pathB p = true) : p.length ≤ 12 := by
 unfold pathB at h
 simp only [Bool.and_eq_true, decide_eq_true_eq] at h
 exact h.2
theorem refErr_of {x : CX} {s : List UInt8} (h1 : risesB x.refs s = true) (h2 : s = x.name ∨ (findE x.has s).isSome = true ∨ (findE x.came s).isSome = true) : refErr x s = 0 := by
 unfold refErr
 rw [h1, if_neg (by decide), if_neg]
 rintro ⟨n1, n2, n3⟩
 rcases h2 with h | h | h
 ·exact n1 h
 ·rw [n2] at h; cases h
 ·rw [n3] at h; cases h
theorem rises_of {l r : List (List UInt8)} {s : List UInt8} (h : risingB (l ++ s :: r) = true) : risesB l s = true := by
 have h1 := (List.pairwise_append.1 (risingB_pw h)).2.2
 unfold risesB
 cases hl : l.getLast? with
 | none => rfl
 | some t => exact h1 t (List.mem_of_getLast? hl) s (List.mem_cons_self ..)
theorem refs_comes : ∀ (more : List (List UInt8)) (f : Nat) (x : CX) (ρ : RS) (R : List UInt8), ρ.rest = refsL more ++ (putL wSum ++ R) → ρ.rest.length < f → risingB (x.refs ++ more) = true →
 (∀ r ∈ more, r.length ≤ 12 ∧ (r = x.name ∨ (findE x.has r).isSome = true ∨ (findE x.came r).isSome = true)) → ∃ a, rRefsF f x ρ = .ok ({ x with refs := x.refs ++ more }, ⟨R, a, ρ.nodes⟩)
 | _, 0, _, _, _, _, h, _, _ => absurd h (by omega)
 | [], f + 1, x, ρ, R, hr, hf, _, _ => by
   unfold rRefsF
   rw [rWord_of (s := wSum) (R := R) (by rw [hr]; rfl) (by decide) (by simp)]
   simp only [Except.bind]
   rw [if_neg (by decide), List.append_nil]
   exact ⟨_, rfl⟩
 | r :: l, f + 1, x, ρ, R, hr, hf, hi, hk => by
   have e : refsL (r :: l) = putL wRef ++ (putL r ++ refsL l) := by simp [refsL]
   rw [e] at hr
   obtain ⟨k1, k2⟩ := hk r (List.mem_cons_self ..)
   unfold rRefsF
   rw [rWord_of (s := wRef) (R := putL r ++ (refsL l ++ (putL wSum ++ R))) (by rw [hr]; simp) (by decide) (by simp)]
   simp only [Except.bind]
   rw [if_pos trivial, rNext_of (s := r) (R := refsL l ++ (putL wSum ++ R)) rfl k1 (by decide)]
   simp only
   rw [refErr_of (rises_of hi) k2, if_neg (by decide)]
   have hl : (refsL l ++ (putL wSum ++ R)).length < f := by
    rw [hr] at hf
    have h1 := putL_length wRef
    simp only [List.length_append] at hf ⊢
    omega
   obtain ⟨a, ha⟩ := refs_comes l f { x with refs := x.refs ++ [r] } ⟨refsL l ++ (putL wSum ++ R), ρ.at' + (putL wRef).length + (putL r).length, ρ.nodes⟩ R rfl hl (by simpa using hi) (fun q hq => hk q (List.mem_cons_of_mem _ hq))
   refine ⟨a, ?_⟩
   rw [ha]
   simp
theorem pathErr_of {x : CX} {s : List UInt8} (h1 : pathB s = true) (h2 : findE x.came s = none) : pathErr x s = 0 := by
 unfold pathErr
 rw [h1, h2]
 rfl
theorem entry_reads {x : CX} {e : Ent} {ρ : RS} {R : List UInt8} (h1 : pathB e.path = true) (h2 : findE x.came e.path = none) (h3 : wrongL e.tree = -1) (h4 : risingB e.refs = true)
 (h5 : ∀ r ∈ e.refs, r.length ≤ 12 ∧ (r = e.path ∨ (findE x.has r).isSome = true ∨ (findE x.came r).isSome = true)) (hr : putL wPath ++ ρ.rest = expEnt e ++ R) :
 ∃ p a : Nat, rEntry x ρ = if entErr { x.start e.path with refs := e.refs } e.tree (sumOf (packP e.tree)).data.toList ≠ 0 then .error (entErr { x.start e.path with refs := e.refs } e.tree (sumOf (packP e.tree)).data.toList, (p : Int)) else .ok (x.next e, ⟨R, a, e.tree⟩) := by
 have hr' : ρ.rest = putL e.path ++ (packP e.tree ++ (putL wRefs ++ (refsL e.refs ++ (putL wSum ++ (putL (sumOf (packP e.tree)).data.toList ++ R))))) := by
  unfold expEnt at hr
  simp only [List.append_assoc] at hr
  exact List.append_cancel_left hr
 obtain ⟨y, r, hl, hv, hl30⟩ := VN_of_wrong h3
 have hp : packP e.tree = putL wNar ++ nodeR y (forest r) := by
  rw [pack_ref h3, hl]
  rfl
 have hsl : (sumOf (packP e.tree)).data.toList.length ≤ 8 := by simp [sumOf, sumB, sumL]
 generalize (sumOf (packP e.tree)).data.toList = sm at *
 unfold rEntry
 rw [rNext_of (s := e.path) (R := packP e.tree ++ (putL wRefs ++ (refsL e.refs ++ (putL wSum ++ (putL sm ++ R))))) hr' (pathB_len h1) (by decide)]
 simp only [Except.bind]
 rw [pathErr_of h1 h2, if_neg (by decide)]
 rw [rWord_of (s := wNar) (R := nodeR y (forest r) ++ (putL wRefs ++ (refsL e.refs ++ (putL wSum ++ (putL sm ++ R))))) (by simp only [RS.clear]; rw [hp]; simp) (by decide) (by simp)]
 simp only
 obtain ⟨a, ha⟩ := node_of (e := 5) (path := []) (x := y) (r := r) (R := putL wRefs ++ (refsL e.refs ++ (putL wSum ++ (putL sm ++ R)))) (ρ := ⟨nodeR y (forest r) ++ (putL wRefs ++ (refsL e.refs ++ (putL wSum ++ (putL sm ++ R)))), ρ.at' + (putL e.path).length + (putL wNar).length, []⟩) hv rfl (by rw [hl] at hl30; simp only [List.length_cons, List.length_nil] at hl30 ⊢; omega) (fun g4 f ρ hr hf hn => by
  rcases hv.2 with ⟨k, _⟩ | ⟨_, _, hvf⟩
  ·exact absurd g4 k
  ·exact dirF_of hvf _ f ρ hr hf hn)
 simp only [RS.clear]
 rw [ha]
 simp only
 rw [rWord_of (s := wRefs) (R := refsL e.refs ++ (putL wSum ++ (putL sm ++ R))) rfl (by decide) (by simp)]
 simp only
 obtain ⟨a2, ha2⟩ := refs_comes e.refs ((refsL e.refs ++ (putL wSum ++ (putL sm ++ R))).length + 1) (x.start e.path) ⟨refsL e.refs ++ (putL wSum ++ (putL sm ++ R)), a + (putL wRefs).length, [] ++ y :: r⟩ (putL sm ++ R) rfl (by simp only; omega) (by simpa [CX.start] using h4) h5
 rw [ha2]
 simp only
 rw [rNext_of (s := sm) (R := R) rfl hsl (by decide)]
 simp only [List.nil_append]
 rw [← hl]
 refine ⟨a2, a2 + (putL sm).length, ?_⟩
 have hx : ({ x.start e.path with refs := (x.start e.path).refs ++ e.refs } : CX) = { x.start e.path with refs := e.refs } := by simp [CX.start]
 rw [hx]
 have hput : ({ x.start e.path with refs := e.refs } : CX).put e.tree = x.next e := by
  unfold CX.put
  have he : ({ x.start e.path with refs := e.refs } : CX).ent e.tree = e := rfl
  rw [he]
  show ({ x.start e.path with refs := e.refs, came := setE x.came e, order := x.order ++ [e.path] } : CX) = _
  rw [setE_new h2]
  rfl
 rw [hput]
theorem entErr_of {x : CX} {e : Ent} (h : EntOk x e) : entErr { x.start e.path with refs := e.refs } e.tree (sumOf (packP e.tree)).data.toList = 0 := by
 unfold entErr
 rw [if_neg (by simp)]
 have he : ({ x.start e.path with refs := e.refs } : CX).ent e.tree = e := rfl
 show (match findE x.has e.path with | .some o => if sameE o _ then (0 : Int) else 12 | .none => if x.has.length + freshN x = 10 then 14 else 0) = 0
 cases hf : findE x.has e.path with
 | some o => simp only; rw [he, h.same o hf]; rfl
 | none => simp only; rw [if_neg (h.room hf)]
theorem entry_comes {x : CX} {e : Ent} {ρ : RS} {R : List UInt8} (h : EntOk x e) (hr : putL wPath ++ ρ.rest = expEnt e ++ R) : ∃ a, rEntry x ρ = .ok (x.next e, ⟨R, a, e.tree⟩) := by
 obtain ⟨p, a, hp⟩ := entry_reads h.path h.new h.wrong h.rise (fun r hr => ⟨h.short r hr, h.known r hr⟩) hr
 rw [entErr_of h, if_neg (by decide)] at hp
 exact ⟨a, hp⟩
def Comes : CX → Ents → Prop
 | _, [] => True
 | x, e :: es => EntOk x e ∧ Comes (x.next e) es
def CX.nexts (x : CX) (es : Ents) : CX := es.foldl CX.next x
theorem nexts_has : ∀ (es : Ents) (x : CX), (x.nexts es).has = x.has ∧ (x.nexts es).came = x.came ++ es ∧ (x.nexts es).order = x.order ++ es.map Ent.path
 | [], x => by simp [CX.nexts]
 | e :: es, x => by
   obtain ⟨h1, h2, h3⟩ := nexts_has es (x.next e)
   refine ⟨h1, ?_, ?_⟩
   ·show ((x.next e).nexts es).came = _
    rw [h2]; simp [CX.next]
   ·show ((x.next e).nexts es).order = _
    rw [h3]; simp [CX.next]
theorem expEnt_word (e : Ent) : ∃ t, expEnt e = putL wPath ++ t := ⟨_, rfl⟩
theorem imp_comes : ∀ (es : Ents) (f : Nat) (x : CX) (ρ : RS) (R : List UInt8), ρ.rest = es.flatMap expEnt ++ R → ρ.rest.length < f → Comes x es → ∃ a n, rImpF f x ρ = rImpF (f - es.length) (x.nexts es) ⟨R, a, n⟩ ∧ R.length < f - es.length
 | [], f, x, ρ, R, hr, hf, hc => by
   obtain ⟨rest, at', nodes⟩ := ρ
   simp only [List.flatMap_nil, List.nil_append] at hr
   subst hr
   exact ⟨at', nodes, rfl, hf⟩
 | e :: es, 0, x, ρ, R, hr, hf, hc => absurd hf (by omega)
 | e :: es, f + 1, x, ρ, R, hr, hf, hc => by
   obtain ⟨t, ht⟩ := expEnt_word e
   rw [List.flatMap_cons, List.append_assoc] at hr
   have hr2 : ρ.rest = putL wPath ++ (t ++ (es.flatMap expEnt ++ R)) := by rw [hr, ht]; simp
   obtain ⟨a, ha⟩ := entry_comes (ρ := ⟨t ++ (es.flatMap expEnt ++ R), ρ.at' + (putL wPath).length, ρ.nodes⟩) (R := es.flatMap expEnt ++ R) hc.1 (by simp only; rw [← hr2, hr])
   have hl : (es.flatMap expEnt ++ R).length < f := by
    rw [hr2] at hf
    have h1 := putL_length wPath
    simp only [List.length_append] at hf ⊢
    omega
   obtain ⟨a2, n2, h2, h3⟩ := imp_comes es f (x.next e) ⟨es.flatMap expEnt ++ R, a, e.tree⟩ R rfl hl hc.2
   refine ⟨a2, n2, ?_, by simp only [List.length_cons]; omega⟩
   rw [rImpF, rWord_of (s := wPath) (R := t ++ (es.flatMap expEnt ++ R)) hr2 (by decide) (by simp)]
   simp only [Except.bind]
   rw [if_pos trivial, ha]
   simp only
   rw [h2]
   simp only [List.length_cons]
   rw [show f + 1 - (es.length + 1) = f - es.length by omega]
   rfl
theorem import_exp {has es : Ents} (hc : Comes (startX has) es) : ∃ x, importL has (expL es) = .ok x ∧ x.has = has ∧ x.came = es ∧ x.order = es.map Ent.path := by
 unfold importL
 rw [rWord_of (s := wExport) (R := es.flatMap expEnt ++ putL wEnd) rfl (by decide) (by simp)]
 simp only [Except.bind]
 obtain ⟨a, n, h, hl⟩ := imp_comes es ((expL es).length + 1) (startX has) ⟨es.flatMap expEnt ++ putL wEnd, 0 + (putL wExport).length, []⟩ (putL wEnd) rfl (by unfold expL; simp only [List.length_append]; omega) hc
 rw [h]
 obtain ⟨g, hg⟩ : ∃ g, (expL es).length + 1 - es.length = g + 1 := ⟨(expL es).length + 1 - es.length - 1, by omega⟩
 rw [hg, rImpF, rWord_of (s := wEnd) (R := []) (by simp) (by decide) (by simp)]
 simp only [Except.bind]
 rw [if_neg (by decide)]
 simp only [if_true]
 obtain ⟨h1, h2, h3⟩ := nexts_has es (startX has)
 exact ⟨_, rfl, h1, by rw [h2]; simp [startX], by rw [h3]; simp [startX]⟩
theorem import_has {has a b : Ents} {e o : Ent} (hc : Comes (startX has) a) (h1 : pathB e.path = true) (h2 : findE a e.path = none) (h3 : wrongL e.tree = -1) (h4 : risingB e.refs = true)
 (h5 : ∀ r ∈ e.refs, r.length ≤ 12 ∧ (r = e.path ∨ (findE has r).isSome = true ∨ (findE a r).isSome = true)) (h6 : findE has e.path = some o) (h7 : sameE o e = false) : ∃ p : Nat, importL has (expL (a ++ e :: b)) = .error (12, (p : Int)) := by
 unfold importL
 rw [rWord_of (s := wExport) (R := (a ++ e :: b).flatMap expEnt ++ putL wEnd) rfl (by decide) (by simp)]
 simp only [Except.bind]
 obtain ⟨at', n, h, hl⟩ := imp_comes a ((expL (a ++ e :: b)).length + 1) (startX has) ⟨(a ++ e :: b).flatMap expEnt ++ putL wEnd, 0 + (putL wExport).length, []⟩ (expEnt e ++ (b.flatMap expEnt ++ putL wEnd)) (by simp) (by unfold expL; simp only [List.length_append]; omega) hc
 rw [h]
 obtain ⟨t, ht⟩ := expEnt_word e
 obtain ⟨g, hg⟩ : ∃ g, (expL (a ++ e :: b)).length + 1 - a.length = g + 1 := ⟨(expL (a ++ e :: b)).length + 1 - a.length - 1, by omega⟩
 rw [hg, rImpF, rWord_of (s := wPath) (R := t ++ (b.flatMap expEnt ++ putL wEnd)) (by simp only; rw [ht]; simp) (by decide) (by simp)]
 simp only [Except.bind]
 rw [if_pos trivial]
 obtain ⟨q1, q2, q3⟩ := nexts_has a (startX has)
 obtain ⟨p, a2, hp⟩ := entry_reads (x := (startX has).nexts a) (e := e) (ρ := ⟨t ++ (b.flatMap expEnt ++ putL wEnd), at' + (putL wPath).length, n⟩) (R := b.flatMap expEnt ++ putL wEnd) h1 (by rw [q2]; simpa [startX] using h2) h3 h4 (by rw [q1, q2]; simpa [startX] using h5) (by simp only; rw [ht]; simp)
 have h12 : entErr { ((startX has).nexts a).start e.path with refs := e.refs } e.tree (sumOf (packP e.tree)).data.toList = 12 := by
  unfold entErr
  rw [if_neg (by simp)]
  have he : ({ ((startX has).nexts a).start e.path with refs := e.refs } : CX).ent e.tree = e := rfl
  show (match findE ((startX has).nexts a).has e.path with | .some o => if sameE o _ then (0 : Int) else 12 | .none => if ((startX has).nexts a).has.length + freshN ((startX has).nexts a) = 10 then 14 else 0) = 12
  rw [q1]
  show (match findE has e.path with | .some o => if sameE o _ then (0 : Int) else 12 | .none => _) = 12
  rw [h6]
  simp only
  rw [he, h7]
  rfl
 rw [h12, if_pos (by decide)] at hp
 rw [hp]
 exact ⟨p, rfl⟩
end Go.Proofs.YtdkogijdfgfpeaaGreatDoor
