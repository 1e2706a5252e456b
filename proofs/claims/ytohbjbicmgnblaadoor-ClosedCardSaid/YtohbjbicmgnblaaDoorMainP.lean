/- Plain: the telling: what is counted, what is ready. -/
import Derived.Test.YtohbjbicmgnblaaDoorChecked
import Derived.Test.YtohbjbicmgnblaaDoorReachP
import Derived.Test.YtohbjbicmgnblaaDoorHeapP
namespace Go.Proofs.YtohbjbicmgnblaaDoor
open Go Go.RowKit
set_option linter.unusedVariables false

/-- references of an entry that are neither itself nor told -/
def cntO (out : List (List UInt8)) (e : Ent) : Nat := (e.refs.filter fun r => r != e.path && !out.contains r).length
theorem cntO_nil (e : Ent) : cntO [] e = cntE e := by simp [cntO, cntE]
theorem cntO_zero {out : List (List UInt8)} {e : Ent} : cntO out e = 0 ↔ ∀ r ∈ e.refs, r = e.path ∨ r ∈ out := by
  unfold cntO
  rw [List.length_eq_zero_iff, List.filter_eq_nil_iff]
  refine forall_congr' fun r => forall_congr' fun _ => ?_
  by_cases h1 : r = e.path <;> by_cases h2 : r ∈ out <;> simp [h1, h2]
theorem cntO_other {out : List (List UInt8)} {e : Ent} {x : List UInt8} (h : x ∉ e.refs ∨ x = e.path) : cntO (out ++ [x]) e = cntO out e := by
  unfold cntO
  congr 1
  refine List.filter_congr fun r hr => ?_
  by_cases h1 : r = e.path
  · simp [h1]
  · have hne : r ≠ x := fun e2 => by
      rcases h with h | h
      · exact h (by rw [← e2]; exact hr)
      · exact h1 (e2.trans h)
    simp [hne]
theorem cntO_one {out : List (List UInt8)} {e : Ent} {x : List UInt8} (hn : e.refs.Nodup) (hx : x ∈ e.refs) (hne : x ≠ e.path) (ho : x ∉ out) : cntO out e = cntO (out ++ [x]) e + 1 := by
  unfold cntO
  have h1 : (e.refs.filter fun r => r != e.path && !out.contains r).Nodup := hn.filter _
  have h2 : x ∈ e.refs.filter fun r => r != e.path && !out.contains r := List.mem_filter.2 ⟨hx, by simp [hne, ho]⟩
  have h3 := List.length_erase_of_mem h2
  have h4 := List.length_pos_of_mem h2
  rw [List.Nodup.erase_eq_filter h1, List.filter_filter] at h3
  have h5 : (e.refs.filter fun a => a != x && (a != e.path && !out.contains a)) = e.refs.filter fun r => r != e.path && !(out ++ [x]).contains r := by
    refine List.filter_congr fun r _ => ?_
    by_cases h1 : r = e.path <;> by_cases h2 : r ∈ out <;> by_cases h3 : r = x <;> simp [h1, h2, h3]
  rw [h5] at h3
  omega
theorem ivn_inj {a b : Nat} (h : ivn a = ivn b) : a = b := by
  unfold ivn at h
  simp only [Value.int.injEq, true_and] at h
  omega
theorem StoreOk.uniq {L : Ents} (h : StoreOk L) {a b : Ent} (ha : a ∈ L) (hb : b ∈ L) (he : a.path = b.path) : a = b := by
  have hr := h.rise
  clear h
  induction L with
  | nil => cases ha
  | cons x r ih =>
    obtain ⟨h1, h2⟩ := List.pairwise_cons.1 hr
    rcases List.mem_cons.1 ha with ha2 | ha2 <;> rcases List.mem_cons.1 hb with hb2 | hb2
    · rw [ha2, hb2]
    · have := h1 b hb2
      rw [← ha2, he, bytesLess_irrefl] at this
      cases this
    · have := h1 a ha2
      rw [← hb2, he, bytesLess_irrefl] at this
      cases this
    · exact ih ha2 hb2 h2
theorem risingB_pw : ∀ {l : List (List UInt8)}, risingB l = true → l.Pairwise fun a b => Op.bytesLess a b = true
  | [], _ => List.Pairwise.nil
  | [a], _ => List.pairwise_singleton _ _
  | a :: b :: r, h => by
    rw [risingB, Bool.and_eq_true] at h
    have ih := risingB_pw h.2
    refine List.pairwise_cons.2 ⟨fun y hy => ?_, ih⟩
    rcases List.mem_cons.1 hy with rfl | hy
    · exact h.1
    · exact bytesLess_trans h.1 ((List.pairwise_cons.1 ih).1 y hy)
theorem risingB_nodup {l : List (List UInt8)} (h : risingB l = true) : l.Nodup := (risingB_pw h).imp fun {a b} h e => by
  rw [e, bytesLess_irrefl] at h
  cases h
theorem StoreOk.nodup {L : Ents} (h : StoreOk L) {e : Ent} (he : e ∈ L) : e.refs.Nodup := risingB_nodup (h.good e he).2.2
/-- the keys: each an entry's path, whose references are keys -/
def KeysOk (L : Ents) (K : List (List UInt8)) : Prop := ∀ k ∈ K, ∃ e ∈ L, e.path = k ∧ ∀ r ∈ e.refs, r ∈ K
/-- the map: keys, and what stands at each -/
structure MapTo (L : Ents) (N : MapL) (K : List (List UInt8)) (cnt : Ent → Nat) : Prop where
  keys : N.map Prod.fst = K
  vals : ∀ e ∈ L, e.path ∈ K → getM N e.path = some (ivn (cnt e))
theorem inM_keys {N : MapL} {k : List UInt8} : InM N k ↔ k ∈ N.map Prod.fst := by
  unfold InM
  cases hg : getM N k with
  | none =>
    have := getM_none.1 hg
    simp
    intro v hv
    exact this _ hv rfl
  | some v =>
    simp
    unfold getM at hg
    obtain ⟨x, hx, -⟩ := Option.map_eq_some_iff.1 hg
    have h1 := List.mem_of_find?_eq_some hx
    have h2 := List.find?_some hx
    simp only [beq_iff_eq] at h2
    exact ⟨x.2, by rw [← h2]; exact h1⟩
theorem putM_keys {N : MapL} {k : List UInt8} (v : Value) (h : k ∈ N.map Prod.fst) : (putM N k v).map Prod.fst = N.map Prod.fst := by
  obtain ⟨u, hu⟩ := inM_keys.2 h
  rw [putM, hu]
  simp only [Option.isSome_some, if_true]
  exact setM_fst N k v
/-- the heap: what is not told and stands at nought -/
structure HpIs (h : List (List UInt8)) (P : List UInt8 → Prop) : Prop where
  once : h.Nodup
  mem : ∀ y, y ∈ h ↔ P y
theorem HpIs.perm {h h' : List (List UInt8)} {P : List UInt8 → Prop} (hh : HpIs h P) (hp : h'.Perm h) : HpIs h' P := ⟨hp.nodup_iff.2 hh.once, fun y => hp.mem_iff.trans (hh.mem y)⟩
theorem HpIs.congr {h : List (List UInt8)} {P Q : List UInt8 → Prop} (hh : HpIs h P) (hp : ∀ y, P y ↔ Q y) : HpIs h Q := ⟨hh.once, fun y => (hh.mem y).trans (hp y)⟩
theorem HpIs.snoc {h h' : List (List UInt8)} {P Q : List UInt8 → Prop} {x : List UInt8} (hh : HpIs h P) (hp : h'.Perm (h ++ [x])) (hx : ¬ P x) (hq : ∀ y, Q y ↔ P y ∨ y = x) : HpIs h' Q := by
  refine HpIs.perm ⟨?_, fun y => ?_⟩ hp
  · rw [List.nodup_append]
    exact ⟨hh.once, by simp, fun a ha b hb e => hx ((hh.mem x).1 (by rw [List.mem_singleton] at hb; rw [← hb, ← e]; exact ha))⟩
  · rw [List.mem_append, hq, hh.mem, List.mem_singleton]
/-- before the telling, in the first round: todo are still to be looked at -/
structure FirstSt (L : Ents) (K : List (List UInt8)) (N : MapL) (todo h : List (List UInt8)) : Prop where
  map : MapTo L N K (cntO [])
  heap : HpIs h fun y => y ∉ todo ∧ getM N y = some (ivn 0)
/-- in the telling -/
structure TellSt (L : Ents) (K : List (List UInt8)) (N : MapL) (out h : List (List UInt8)) : Prop where
  map : MapTo L N K (cntO out)
  heap : HpIs h fun y => y ∉ out ∧ getM N y = some (ivn 0)
  told : Told L K out
  clos : closL L K = closF L K (L.length + 1 - out.length) out
/-- in the telling, in a round: x has just been told -/
structure RoundSt (L : Ents) (K : List (List UInt8)) (N : MapL) (out : List (List UInt8)) (x : List UInt8) (todo h : List (List UInt8)) : Prop where
  map : MapTo L N K (fun e => if e.path ∈ todo then cntO out e else cntO (out ++ [x]) e)
  heap : HpIs h fun y => y ∉ out ++ [x] ∧ getM N y = some (ivn 0)
  told : Told L K (out ++ [x])
  clos : closL L K = closF L K (L.length + 1 - (out ++ [x]).length) (out ++ [x])
theorem FirstSt.start {L : Ents} {K : List (List UInt8)} {N : MapL} (hm : MapTo L N K (cntO [])) : FirstSt L K N K [] := ⟨hm, by simp, fun y => by
  simp only [List.not_mem_nil, false_iff]
  rintro ⟨h1, h2⟩
  exact h1 (by rw [← hm.keys]; exact inM_keys.1 ⟨_, h2⟩)⟩
theorem FirstSt.pass {L : Ents} {K : List (List UInt8)} {N : MapL} {todo h : List (List UInt8)} {k : List UInt8} {n : Nat} (hs : FirstSt L K N todo h) (hv : getM N k = some (ivn n)) (hn : n ≠ 0) : FirstSt L K N (todo.filter fun x => x != k) h := by
  refine ⟨hs.map, hs.heap.congr fun y => ?_⟩
  constructor
  · rintro ⟨h1, h2⟩
    exact ⟨fun h3 => h1 (List.mem_filter.1 h3).1, h2⟩
  · rintro ⟨h1, h2⟩
    refine ⟨fun h3 => h1 (List.mem_filter.2 ⟨h3, ?_⟩), h2⟩
    have : y ≠ k := fun e => by
      rw [e, hv] at h2
      exact hn (ivn_inj (Option.some.inj h2))
    simpa using this
theorem FirstSt.push {L : Ents} {K : List (List UInt8)} {N : MapL} {todo h h' : List (List UInt8)} {k : List UInt8} (hs : FirstSt L K N todo h) (hk : k ∈ todo) (hv : getM N k = some (ivn 0)) (hp : h'.Perm (h ++ [k])) : FirstSt L K N (todo.filter fun x => x != k) h' := by
  refine ⟨hs.map, hs.heap.snoc hp (fun h => h.1 hk) fun y => ?_⟩
  constructor
  · rintro ⟨h1, h2⟩
    by_cases e : y = k
    · exact .inr e
    · exact .inl ⟨fun h3 => h1 (List.mem_filter.2 ⟨h3, by simpa using e⟩), h2⟩
  · rintro (⟨h1, h2⟩ | rfl)
    · exact ⟨fun h3 => h1 (List.mem_filter.1 h3).1, h2⟩
    · exact ⟨fun h3 => by have := (List.mem_filter.1 h3).2; simp at this, hv⟩
theorem FirstSt.done {L : Ents} {K : List (List UInt8)} {N : MapL} {h : List (List UInt8)} (hs : FirstSt L K N [] h) : TellSt L K N [] h :=
  ⟨hs.map, hs.heap, Told.nil _ _, by simp [closL]⟩
theorem TellSt.ready {L : Ents} {K : List (List UInt8)} {N : MapL} {out h : List (List UInt8)} (hs : TellSt L K N out h) {e : Ent} (he : e ∈ L) : readyB L K out e = true ↔ e.path ∈ h := by
  rw [ready_iff, hs.heap.mem, ← cntO_zero]
  constructor
  · rintro ⟨h1, h2, h3⟩
    exact ⟨h2, by rw [hs.map.vals e he h1, h3]⟩
  · rintro ⟨h1, h2⟩
    have hk : e.path ∈ K := by rw [← hs.map.keys]; exact inM_keys.1 ⟨_, h2⟩
    rw [hs.map.vals e he hk] at h2
    exact ⟨hk, h1, ivn_inj (Option.some.inj h2)⟩
theorem TellSt.done {L : Ents} {K : List (List UInt8)} {N : MapL} {out : List (List UInt8)} (hs : TellSt L K N out []) : out = closL L K := by
  rw [hs.clos]
  have hf : L.find? (readyB L K out) = none := List.find?_eq_none.2 fun e he hr => by
    have := (hs.ready he).1 hr
    cases this
  obtain ⟨f, hf2⟩ : ∃ f, L.length + 1 - out.length = f + 1 := ⟨L.length - out.length, by have := toldc_len hs.told; omega⟩
  rw [hf2, closF, hf]
theorem find_least {L : Ents} (hr : L.Pairwise fun a b => Op.bytesLess a.path b.path = true) {p : Ent → Bool} {e : Ent} (he : e ∈ L) (hp : p e = true) (hl : ∀ y ∈ L, p y = true → leT e.path y.path) : L.find? p = some e := by
  obtain ⟨a, b, rfl⟩ := List.append_of_mem he
  refine List.find?_eq_some_iff_append.2 ⟨hp, a, b, rfl, fun y hy => ?_⟩
  cases hpy : p y with
  | false => rfl
  | true =>
    have h1 := hl y (List.mem_append.2 (.inl hy)) hpy
    have h2 := (List.pairwise_append.1 hr).2.2 y hy e (List.mem_cons_self ..)
    unfold leT at h1
    rw [h2] at h1
    cases h1
/-- the least is told -/
theorem TellSt.pop {L : Ents} {K : List (List UInt8)} {N : MapL} {out h h' : List (List UInt8)} {x : List UInt8} (hs : TellSt L K N out h) (hok : StoreOk L) (hk : KeysOk L K) (hp : (h' ++ [x]).Perm h) (hl : ∀ y ∈ h, leT x y) : RoundSt L K N out x K h' := by
  have hx : x ∈ h := hp.mem_iff.1 (by simp)
  obtain ⟨hxo, hxv⟩ := (hs.heap.mem x).1 hx
  have hxk : x ∈ K := by rw [← hs.map.keys]; exact inM_keys.1 ⟨_, hxv⟩
  obtain ⟨e, he, rfl, -⟩ := hk x hxk
  have hrd := (hs.ready he).2 hx
  have hf : L.find? (readyB L K out) = some e := find_least hok.rise he hrd fun y hy hyr => hl _ ((hs.ready hy).1 hyr)
  have hnd := hp.nodup_iff.2 hs.heap.once
  refine ⟨⟨hs.map.keys, fun y hy hyk => by rw [if_pos hyk]; exact hs.map.vals y hy hyk⟩, ⟨(List.nodup_append.1 hnd).1, fun y => ?_⟩, hs.told.step he hrd, ?_⟩
  · have h1 := hp.mem_iff (a := y)
    rw [hs.heap.mem, List.mem_append, List.mem_singleton] at h1
    constructor
    · intro hy
      obtain ⟨h2, h3⟩ := h1.1 (.inl hy)
      refine ⟨fun h4 => ?_, h3⟩
      rcases List.mem_append.1 h4 with h4 | h4
      · exact h2 h4
      · rw [List.mem_singleton] at h4
        exact (List.nodup_append.1 hnd).2.2 y hy e.path (by simp) h4
    · rintro ⟨h2, h3⟩
      rcases h1.2 ⟨fun h4 => h2 (List.mem_append.2 (.inl h4)), h3⟩ with h4 | h4
      · exact h4
      · exact absurd (by rw [h4]; simp) h2
  · rw [hs.clos]
    obtain ⟨f, hf2⟩ : ∃ f, L.length + 1 - out.length = f + 1 := ⟨L.length - out.length, by have := toldc_len hs.told; omega⟩
    rw [hf2, closF, hf]
    simp only [List.length_append, List.length_singleton]
    congr 1
    omega
theorem RoundSt.done {L : Ents} {K : List (List UInt8)} {N : MapL} {out h : List (List UInt8)} {x : List UInt8} (hs : RoundSt L K N out x [] h) : TellSt L K N (out ++ [x]) h :=
  ⟨⟨hs.map.keys, fun y hy hyk => by have := hs.map.vals y hy hyk; rwa [if_neg (by simp)] at this⟩, hs.heap, hs.told, hs.clos⟩
/-- who does not have x as another's reference -/
theorem RoundSt.pass {L : Ents} {K : List (List UInt8)} {N : MapL} {out h todo : List (List UInt8)} {x : List UInt8} (hs : RoundSt L K N out x todo h) (hok : StoreOk L) {e : Ent} (he : e ∈ L) (hx : x ∉ e.refs ∨ x = e.path) : RoundSt L K N out x (todo.filter fun y => y != e.path) h := by
  refine ⟨⟨hs.map.keys, fun y hy hyk => ?_⟩, hs.heap, hs.told, hs.clos⟩
  rw [hs.map.vals y hy hyk]
  by_cases hye : y.path = e.path
  · have := hok.uniq hy he hye
    subst this
    rw [cntO_other hx]
    simp
  · have h1 : (y.path ∈ todo.filter fun z => z != e.path) ↔ y.path ∈ todo := by
      rw [List.mem_filter]
      constructor
      · exact fun h => h.1
      · exact fun h => ⟨h, by simpa using hye⟩
    by_cases h2 : y.path ∈ todo
    · rw [if_pos h2, if_pos (h1.2 h2)]
    · rw [if_neg h2, if_neg (fun h => h2 (h1.1 h))]
theorem RoundSt.fresh {L : Ents} {K : List (List UInt8)} {N : MapL} {out h todo : List (List UInt8)} {x : List UInt8} (hs : RoundSt L K N out x todo h) : x ∉ out := fun hx => by
  have := (List.nodup_append.1 hs.told.once).2.2 x hx x (by simp)
  exact this rfl
theorem RoundSt.val {L : Ents} {K : List (List UInt8)} {N : MapL} {out h todo : List (List UInt8)} {x : List UInt8} (hs : RoundSt L K N out x todo h) (hok : StoreOk L) {e : Ent} (he : e ∈ L) (hk : e.path ∈ K) (ht : e.path ∈ todo) (hx : x ∈ e.refs) (hne : x ≠ e.path) :
    getM N e.path = some (ivn (cntO (out ++ [x]) e + 1)) := by
  rw [hs.map.vals e he hk, if_pos ht, cntO_one (hok.nodup he) hx hne hs.fresh]
theorem RoundSt.stepM {L : Ents} {K : List (List UInt8)} {N : MapL} {out h todo : List (List UInt8)} {x : List UInt8} (hs : RoundSt L K N out x todo h) (hok : StoreOk L) {e : Ent} (he : e ∈ L) (hk : e.path ∈ K) :
    MapTo L (putM N e.path (ivn (cntO (out ++ [x]) e))) K (fun y => if y.path ∈ (todo.filter fun y => y != e.path) then cntO out y else cntO (out ++ [x]) y) := by
  refine ⟨by rw [putM_keys _ (by rw [hs.map.keys]; exact hk)]; exact hs.map.keys, fun y hy hyk => ?_⟩
  rw [getM_put]
  by_cases hye : y.path = e.path
  · have := hok.uniq hy he hye
    subst this
    simp
  · rw [if_neg hye, hs.map.vals y hy hyk]
    have h1 : (y.path ∈ todo.filter fun z => z != e.path) ↔ y.path ∈ todo := by
      rw [List.mem_filter]
      constructor
      · exact fun h => h.1
      · exact fun h => ⟨h, by simpa using hye⟩
    by_cases h2 : y.path ∈ todo
    · rw [if_pos h2, if_pos (h1.2 h2)]
    · rw [if_neg h2, if_neg (fun h => h2 (h1.1 h))]
/-- one less, and not nought -/
theorem RoundSt.less {L : Ents} {K : List (List UInt8)} {N : MapL} {out h todo : List (List UInt8)} {x : List UInt8} (hs : RoundSt L K N out x todo h) (hok : StoreOk L) {e : Ent} (he : e ∈ L) (hk : e.path ∈ K) (ht : e.path ∈ todo) (hx : x ∈ e.refs) (hne : x ≠ e.path)
    (hz : cntO (out ++ [x]) e ≠ 0) : RoundSt L K (putM N e.path (ivn (cntO (out ++ [x]) e))) out x (todo.filter fun y => y != e.path) h := by
  have hv := hs.val hok he hk ht hx hne
  refine ⟨hs.stepM hok he hk, hs.heap.congr fun y => ?_, hs.told, hs.clos⟩
  rw [getM_put]
  by_cases hye : y = e.path
  · subst hye
    rw [if_pos rfl, hv]
    constructor
    · rintro ⟨-, h2⟩
      exact absurd (ivn_inj (Option.some.inj h2)) (by omega)
    · rintro ⟨-, h2⟩
      exact absurd (ivn_inj (Option.some.inj h2)) hz
  · rw [if_neg hye]
/-- one less, and nought -/
theorem RoundSt.push {L : Ents} {K : List (List UInt8)} {N : MapL} {out h h' todo : List (List UInt8)} {x : List UInt8} (hs : RoundSt L K N out x todo h) (hok : StoreOk L) {e : Ent} (he : e ∈ L) (hk : e.path ∈ K) (ht : e.path ∈ todo) (hx : x ∈ e.refs) (hne : x ≠ e.path)
    (hz : cntO (out ++ [x]) e = 0) (hp : h'.Perm (h ++ [e.path])) : RoundSt L K (putM N e.path (ivn (cntO (out ++ [x]) e))) out x (todo.filter fun y => y != e.path) h' := by
  have hv := hs.val hok he hk ht hx hne
  have hno : e.path ∉ out ++ [x] := fun hm => by
    rcases List.mem_append.1 hm with hm | hm
    · obtain ⟨a, b, hab⟩ := List.append_of_mem hm
      obtain ⟨e', he', hep, hr⟩ := hs.told.ahead a e.path (b ++ [x]) (by rw [hab]; simp)
      have := hok.uniq he' he hep
      subst this
      rcases hr x hx with h1 | h1
      · exact hne h1
      · exact hs.fresh (by rw [hab]; exact List.mem_append.2 (.inl h1))
    · rw [List.mem_singleton] at hm
      exact hne hm.symm
  refine ⟨hs.stepM hok he hk, hs.heap.snoc hp (fun h => ?_) fun y => ?_, hs.told, hs.clos⟩
  · rw [hv] at h
    exact absurd (ivn_inj (Option.some.inj h.2)) (by omega)
  · rw [getM_put]
    by_cases hye : y = e.path
    · subst hye
      rw [if_pos rfl, hz]
      simp [hno]
    · rw [if_neg hye]
      simp [hye]
theorem KeysOk.len {L : Ents} {K : List (List UInt8)} (h : KeysOk L K) (hn : K.Nodup) : K.length ≤ L.length := by
  have := nodup_len K (L.map Ent.path) hn fun k hk => by
    obtain ⟨e, he, hep, -⟩ := h k hk
    exact List.mem_map.2 ⟨e, he, hep⟩
  simpa using this
theorem HpIs.len {h K : List (List UInt8)} {P : List UInt8 → Prop} (hh : HpIs h P) (hp : ∀ y, P y → y ∈ K) : h.length ≤ K.length := nodup_len h K hh.once fun y hy => hp y ((hh.mem y).1 hy)
theorem MapTo.mem {L : Ents} {N : MapL} {K : List (List UInt8)} {cnt : Ent → Nat} (h : MapTo L N K cnt) {y : List UInt8} {v : Value} (hv : getM N y = some v) : y ∈ K := by
  rw [← h.keys]
  exact inM_keys.1 ⟨v, hv⟩
theorem cntO_le (out : List (List UInt8)) (e : Ent) : cntO out e ≤ e.refs.length := List.length_filter_le _ _
theorem filter_less {l : List (List UInt8)} {k : List UInt8} (h : k ∈ l) : (l.filter fun x => x != k).length < l.length := by
  rw [List.length_filter_lt_length_iff_exists]
  exact ⟨k, h, by simp⟩
end Go.Proofs.YtohbjbicmgnblaaDoor
