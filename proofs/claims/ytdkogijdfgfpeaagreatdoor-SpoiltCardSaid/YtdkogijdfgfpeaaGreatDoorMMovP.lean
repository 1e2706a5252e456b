/- Plain: what a path leads to, moved into another store: the same there. -/
import Derived.Test.YtdkogijdfgfpeaaGreatDoorMImpC
import Derived.Test.YtdkogijdfgfpeaaGreatDoorMRefN
import Derived.Test.YtdkogijdfgfpeaaGreatDoorMClosW
set_option linter.unusedVariables false
namespace Go.Proofs.YtdkogijdfgfpeaaGreatDoor
open Go Go.RowKit
structure ExOk (es : Ents) : Prop where
 once : es.Pairwise fun a b => a.path ≠ b.path
 good : ∀ e ∈ es, pathB e.path = true ∧ wrongL e.tree = -1 ∧ risingB e.refs = true ∧ ∀ r ∈ e.refs, r.length ≤ 12
 ahead : ∀ a e b, es = a ++ e :: b → ∀ r ∈ e.refs, r = e.path ∨ ∃ o ∈ a, o.path = r
theorem comes_go {has es : Ents} (h : ExOk es) (hs : ∀ e ∈ es, ∀ o, findE has e.path = some o → sameE o e = true) (hr : has.length + es.countP (fun e => (findE has e.path).isNone) ≤ 10) :
 ∀ b a, es = a ++ b → Comes ((startX has).nexts a) b
 | [], a, he => trivial
 | e :: b, a, he => by
   obtain ⟨q1, q2, q3⟩ := nexts_has a (startX has)
   have hem : e ∈ es := by rw [he]; simp
   obtain ⟨g1, g2, g3, g4⟩ := h.good e hem
   have hn : findE a e.path = none := findE_none.2 fun o ho e2 => by
    have h1 := h.once
    rw [he] at h1
    exact (List.pairwise_append.1 h1).2.2 o ho e (List.mem_cons_self ..) e2
   refine ⟨⟨g1, ?_, g2, g3, fun r hrr => ?_, g4, ?_, ?_⟩, ?_⟩
   ·rw [q2]; simpa [startX] using hn
   ·rw [q1, q2]
    rcases h.ahead a e b he r hrr with h1 | ⟨o, ho, rfl⟩
    ·exact .inl h1
    ·exact .inr (.inr (findE_isSome.2 ⟨o, by simpa [startX] using ho, rfl⟩))
   ·rw [q1]
    exact hs e hem
   ·intro hf h10
    rw [q1] at hf h10
    unfold freshN at h10
    rw [q1, q2] at h10
    have h1 : (startX has).has = has := rfl
    have h2 : (startX has).came ++ a = a := rfl
    rw [h1] at hf h10
    rw [h2] at h10
    rw [he, List.countP_append, List.countP_cons] at hr
    rw [hf] at hr
    simp only [Option.isNone_none, if_true] at hr
    omega
   ·have := comes_go h hs hr b (a ++ [e]) (by rw [he]; simp)
    simpa [CX.nexts] using this
theorem ExOk.comes {has es : Ents} (h : ExOk es) (hs : ∀ e ∈ es, ∀ o, findE has e.path = some o → sameE o e = true) (hr : has.length + es.countP (fun e => (findE has e.path).isNone) ≤ 10) : Comes (startX has) es :=
 comes_go h hs hr es [] rfl
theorem ExOk.ofX {x : CX} (h : OkX x) (h0 : x.has = []) : ExOk x.came := by
 refine ⟨h.once, fun e he => ?_, fun a e b hab r hr => ?_⟩
 ·obtain ⟨g1, g2, g3, g4, -⟩ := h.good e he
  exact ⟨g1, g2, g3, g4⟩
 ·have hi : x.came[a.length]? = some e := by rw [hab]; simp
  rcases h.known a.length e hi r hr with h1 | h1 | h1
  ·exact .inl h1
  ·rw [h0] at h1; cases h1
  ·right
   rw [hab, List.take_left' rfl] at h1
   exact findE_isSome.1 h1
theorem entsOf_path {L : Ents} : ∀ {K : List (List UInt8)}, (∀ p ∈ K, (findE L p).isSome = true) → (entsOf L K).map Ent.path = K
 | [], _ => rfl
 | p :: K, h => by
   obtain ⟨e, he⟩ := Option.isSome_iff_exists.1 (h p (List.mem_cons_self ..))
   rw [entsOf_cons he, List.map_cons, entsOf_path fun q hq => h q (List.mem_cons_of_mem _ hq), (findE_some he).2]
theorem told_some {L : Ents} {all out : List (List UInt8)} (h : Told L all out) : ∀ p ∈ out, (findE L p).isSome = true := fun p hp => by
 obtain ⟨a, b, hab⟩ := List.append_of_mem hp
 obtain ⟨e, he, hep, -⟩ := h.ahead a p b hab
 exact findE_isSome.2 ⟨e, he, hep⟩
theorem findE_mem {L : Ents} (hok : StoreOk L) {e : Ent} (he : e ∈ L) : findE L e.path = some e := by
 obtain ⟨o, ho⟩ := Option.isSome_iff_exists.1 (findE_isSome.2 ⟨e, he, rfl⟩)
 obtain ⟨h1, h2⟩ := findE_some ho
 rw [ho, hok.uniq h1 he h2]
theorem ExOk.told {L : Ents} (hok : StoreOk L) {all out : List (List UInt8)} (h : Told L all out) : ExOk (entsOf L out) := by
 have hp := entsOf_path (told_some h)
 refine ⟨?_, fun e he => ?_, fun a e b hab r hr => ?_⟩
 ·have h1 := h.once
  rw [← hp] at h1
  exact (List.pairwise_map.1 h1)
 ·obtain ⟨h1, -⟩ := entsOf_mem he
  obtain ⟨g1, g2, g3⟩ := hok.good e h1
  exact ⟨g1, g2, g3, (hok.refsLen h1).2⟩
 ·have h1 : out = a.map Ent.path ++ e.path :: b.map Ent.path := by rw [← hp, hab]; simp
  obtain ⟨o, ho, hop, hr2⟩ := h.ahead _ _ _ h1
  obtain ⟨h2, -⟩ := entsOf_mem (L := L) (K := out) (e := e) (by rw [hab]; simp)
  have := hok.uniq ho h2 hop
  subst this
  rcases hr2 r hr with h3 | h3
  ·exact .inl h3
  ·right
   obtain ⟨q, hq, hqp⟩ := List.mem_map.1 h3
   exact ⟨q, hq, hqp⟩
theorem commit_new : ∀ (es : Ents) (L : Ents) (out : List (List UInt8)), (∀ e ∈ es, findE L e.path = none) → (es.Pairwise fun a b => a.path ≠ b.path) → (es.foldl comF (L, out)).2 = out ++ es.map Ent.path
 | [], L, out, _, _ => by simp
 | e :: es, L, out, h, hp => by
   have h1 : comF (L, out) e = (putE L e, out ++ [e.path]) := by
    unfold comF
    simp only
    rw [h e (List.mem_cons_self ..)]
    rfl
   rw [List.foldl_cons, h1, commit_new es (putE L e) (out ++ [e.path]) (fun o ho => findE_none.2 fun q hq e2 => ?_) (List.pairwise_cons.1 hp).2]
   ·simp
   ·rcases putE_mem.1 hq with rfl | hq
    ·exact (List.pairwise_cons.1 hp).1 o ho e2
    ·exact findE_none.1 (h o (List.mem_cons_of_mem _ ho)) q hq e2
structure Moved0 (es L' : Ents) : Prop where
 ok : StoreOk L'
 len : L'.length = es.length
 mem : ∀ e, e ∈ L' ↔ e ∈ es
theorem moved_start {x : CX} (h : OkX x) (h0 : x.has = []) : Moved0 x.came (commitL [] x.came).1 ∧ (commitL [] x.came).2 = x.came.map Ent.path := by
 have hc := commit_ok h x.came.length (Nat.le_refl _)
 rw [List.take_length, h0] at hc
 have hnew := commit_new x.came [] [] (fun e _ => rfl) h.once
 refine ⟨⟨hc.ok, ?_, fun e => ⟨fun he => ?_, fun he => ?_⟩⟩, by rw [commitL, hnew]; simp⟩
 ·rw [hc.len]
  have : (x.came.countP fun e => (findE [] e.path).isNone) = x.came.length := List.countP_eq_length.2 fun e _ => rfl
  rw [this]
  simp
 ·rcases hc.mem e he with h1 | h1
  ·cases h1
  ·exact h1
 ·have h1 := (hc.some e.path).2 (.inr (findE_isSome.2 ⟨e, he, rfl⟩))
  obtain ⟨o, ho, hop⟩ := findE_isSome.1 h1
  rcases hc.mem o ho with h2 | h2
  ·cases h2
  ·have : o = e := by
    obtain ⟨i, hi, rfl⟩ := List.getElem_of_mem h2
    obtain ⟨j, hj, rfl⟩ := List.getElem_of_mem he
    rcases Nat.lt_trichotomy i j with hl | hl | hl
    ·exact absurd hop (List.pairwise_iff_getElem.1 h.once i j hi hj hl)
    ·subst hl; rfl
    ·exact absurd hop.symm (List.pairwise_iff_getElem.1 h.once j i hj hi hl)
   rw [← this]
   exact ho
theorem moved_bytes {es L' : Ents} {K' : List (List UInt8)} (h : ExOk es) (hm : Moved0 es L') (hR' : ReachOf L' (es.map Ent.path) K') : (expL (entsOf L' (closL L' K'))).length = (expL es).length := by
 have hac : Acyc L' fun p => (idxL (es.map Ent.path) p).toNat := fun e he r hr => by
  obtain ⟨a, b, hab⟩ := List.append_of_mem ((hm.mem e).1 he)
  rcases h.ahead a e b hab r hr with h1 | ⟨o, ho, rfl⟩
  ·exact .inl h1
  ·right
   have hnd : (es.map Ent.path).Nodup := List.pairwise_map.2 h.once
   have hie : (es.map Ent.path)[a.length]? = some e.path := by rw [hab]; simp
   obtain ⟨j, hj, hoj⟩ := List.getElem_of_mem ho
   have hio : (es.map Ent.path)[j]? = some o.path := by rw [hab, List.map_append, List.getElem?_append_left (by simpa using hj)]; simp [hj, hoj]
   have huniq : ∀ {i k : Nat} {p : List UInt8}, (es.map Ent.path)[i]? = some p → (es.map Ent.path)[k]? = some p → i = k := fun {i k p} hi hk => by
    obtain ⟨h1, h2⟩ := List.getElem?_eq_some_iff.1 hi
    obtain ⟨h3, h4⟩ := List.getElem?_eq_some_iff.1 hk
    rcases Nat.lt_trichotomy i k with hl | hl | hl
    ·exact absurd (h2.trans h4.symm) (List.pairwise_iff_getElem.1 hnd i k h1 h3 hl)
    ·exact hl
    ·exact absurd (h4.trans h2.symm) (List.pairwise_iff_getElem.1 hnd k i h3 h1 hl)
   obtain ⟨i1, hi1, -, hi2⟩ := idxL_at (List.mem_of_getElem? hie)
   obtain ⟨j1, hj1, -, hj2⟩ := idxL_at (List.mem_of_getElem? hio)
   have e1 := huniq hie hi2
   have e2 := huniq hio hj2
   show (idxL (es.map Ent.path) o.path).toNat < (idxL (es.map Ent.path) e.path).toNat
   rw [hi1, hj1]
   omega
 have hall := closL_all hac (all := K') hR'.keys
 have hT := closL_told L' K'
 have hp : (entsOf L' (closL L' K')).Perm es := by
  refine (List.perm_ext_iff_of_nodup ?_ ?_).2 fun e => ?_
  ·have h1 := hT.once
   rw [← entsOf_path (told_some hT)] at h1
   exact List.Pairwise.imp (fun {a b} hab e => hab (by rw [e])) (List.pairwise_map.1 h1)
  ·exact h.once.imp fun {a b} hab e => hab (by rw [e])
  ·constructor
   ·intro he
    exact (hm.mem e).1 (entsOf_mem he).1
   ·intro he
    refine List.mem_filterMap.2 ⟨e.path, hall _ (hR'.has _ (List.mem_map_of_mem he)), findE_mem hm.ok ((hm.mem e).2 he)⟩
 have h2 := (hp.flatMap_right expEnt).length_eq
 unfold expL
 simp only [List.length_append]
 omega
end Go.Proofs.YtdkogijdfgfpeaaGreatDoor
