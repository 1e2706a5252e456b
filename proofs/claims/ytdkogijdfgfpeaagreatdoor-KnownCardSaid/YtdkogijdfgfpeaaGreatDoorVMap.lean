/- Maps of strings in memory: what a block holds, entry by entry, in the order of their coming; look-up, store, len. No program in sight. -/
import Derived.Test.YtdkogijdfgfpeaaGreatDoorVBuild
import Derived.Maps.OwnOps
import Derived.Maps.OwnSet
import Derived.Maps.RangeWalk
import Derived.Test.YtdkogijdfgfpeaaGreatDoorVOwn
import Derived.Deep.RegionHeld3
import Derived.Carry
set_option linter.unusedVariables false
namespace Go.Proofs.YtdkogijdfgfpeaaGreatDoor
open Go Go.RowKit Go.MapKept Go.ChangeShapes Go.WideShapes Go.ChangeMaps
abbrev MapL := List (List UInt8 × Value)
structure MapOf (es : Array MapEntry) (clock : Nat) (m : MapL) : Prop where
 ents : es.toList.map (fun e => (e.key, e.val)) = m.map (fun x => (sv x.1, x.2))
 keys : (m.map Prod.fst).Nodup
 born : (es.toList.map (·.born)).Nodup
 old : ∀ e ∈ es.toList, e.born < clock
 small : ∀ x ∈ m, x.1.length ≤ 1099511627776
def MapAt (w : World) (b : Nat) (m : MapL) : Prop := ∃ (es : Array MapEntry) (clock : Nat), w.heap[b]? = some (.map es clock) ∧ MapOf es clock m
def getM (m : MapL) (k : List UInt8) : Option Value := (m.find? fun x => x.1 == k).map Prod.snd
def setM (m : MapL) (k : List UInt8) (v : Value) : MapL := m.map fun x => if x.1 = k then (x.1, v) else x
def putM (m : MapL) (k : List UInt8) (v : Value) : MapL := if (getM m k).isSome then setM m k v else m ++ [(k, v)]
theorem getM_none {m : MapL} {k : List UInt8} : getM m k = none ↔ ∀ x ∈ m, x.1 ≠ k := by
 unfold getM
 rw [Option.map_eq_none_iff, List.find?_eq_none]
 simp
theorem getM_mem {m : MapL} (hn : (m.map Prod.fst).Nodup) {k : List UInt8} {v : Value} : getM m k = some v ↔ (k, v) ∈ m := by
 unfold getM
 induction m with
 | nil => simp
 | cons x r ih =>
   simp only [List.map_cons, List.nodup_cons] at hn
   rw [List.find?_cons]
   by_cases h : x.1 = k
   ·have hb : (x.1 == k) = true := by simpa using h
    rw [hb]
    simp only [Option.map_some, Option.some.injEq, List.mem_cons]
    constructor
    ·rintro rfl; left; rw [← h]
    ·rintro (e | e)
     ·rw [← e]
     ·exact absurd (List.mem_map.2 ⟨_, e, rfl⟩) (by rw [← h] at *; exact hn.1)
   ·have hb : (x.1 == k) = false := by simpa using h
    rw [hb]
    simp only
    rw [ih hn.2, List.mem_cons]
    constructor
    ·exact .inr
    ·rintro (e | e)
     ·rw [← e] at h; exact absurd rfl h
     ·exact e
theorem svj {a b : List UInt8} (h : sv a = sv b) : a = b := by
 unfold sv at h
 have h1 := congrArg (fun v => match v with | Value.string s => s.data.toList | _ => []) h
 simpa using h1
section
variable {P : Program} {w : World} {t kt et : TypeId} {b : Nat} {m : MapL}
theorem MapOf.key {es : Array MapEntry} {clock : Nat} (h : MapOf es clock m) {e : MapEntry} (he : e ∈ es.toList) : ∃ x ∈ m, e.key = sv x.1 ∧ e.val = x.2 := by
 have h1 : (e.key, e.val) ∈ es.toList.map (fun e => (e.key, e.val)) := List.mem_map.2 ⟨e, he, rfl⟩
 rw [h.ents] at h1
 obtain ⟨x, hx, hxe⟩ := List.mem_map.1 h1
 simp only [Prod.mk.injEq] at hxe
 exact ⟨x, hx, hxe.1.symm, hxe.2.symm⟩
theorem MapOf.ent {es : Array MapEntry} {clock : Nat} (h : MapOf es clock m) {x : List UInt8 × Value} (hx : x ∈ m) : ∃ e ∈ es.toList, e.key = sv x.1 ∧ e.val = x.2 := by
 have h1 : (sv x.1, x.2) ∈ m.map (fun x => (sv x.1, x.2)) := List.mem_map.2 ⟨x, hx, rfl⟩
 rw [← h.ents] at h1
 obtain ⟨e, he, hxe⟩ := List.mem_map.1 h1
 simp only [Prod.mk.injEq] at hxe
 exact ⟨e, he, hxe.1, hxe.2⟩
theorem keyOf_sv (hk : P.underlying kt = some .string) {k : List UInt8} (hkl : k.length ≤ 1099511627776) : ∃ l, keyOf P kt (sv k) = some l := by
 have hs : (⟨k.toArray⟩ : ByteArray).size ≤ maxLen := by show k.toArray.size ≤ _; simp [maxLen]; omega
 exact ⟨_, WideMaps.keyOf_string_mk hk hs⟩
theorem find_map (hk : P.underlying kt = some .string) {es : Array MapEntry} {clock : Nat} (h : MapOf es clock m) {k : List UInt8} (hkl : k.length ≤ 1099511627776) (w : World) :
 ((Instr.findKey kt (sv k) es.toList).run P w = .ok none w ∧ getM m k = none) ∨ ∃ j e, (Instr.findKey kt (sv k) es.toList).run P w = .ok (some (j, e.val)) w ∧ es.toList[j]? = some e ∧ e.key = sv k ∧ getM m k = some e.val := by
 obtain ⟨l, hl⟩ := keyOf_sv hk hkl
 rcases (Maps.string_keyed hk).find w hl es.toList (fun e he => by
  obtain ⟨x, hx, hxe, -⟩ := h.key he
  rw [hxe]
  exact keyOf_sv hk (h.small x hx)) with ⟨h1, h2⟩ | ⟨j, e, h1, h2, h3⟩
 ·refine .inl ⟨h1, getM_none.2 fun x hx e => ?_⟩
  obtain ⟨y, hy, hye, -⟩ := h.ent hx
  exact h2 y hy (by rw [hye, e])
 ·refine .inr ⟨j, e, h1, h2, h3, ?_⟩
  obtain ⟨x, hx, hxe, hxv⟩ := h.key (List.mem_of_getElem? h2)
  rw [getM_mem h.keys, hxv]
  have : x.1 = k := svj (by rw [← hxe, h3])
  rw [← this]
  exact hx
theorem run_lookup_map (ht : P.underlying t = some (.map kt et)) (hk : P.underlying kt = some .string) {z : Value} (hz : (zeroValue et).run P w = .ok z w) (h : MapAt w b m) {k : List UInt8} (hkl : k.length ≤ 1099511627776) (ok : Bool) :
 (Instr.lookup t (.map (some b)) (sv k) ok).run P w = .ok (if ok = true then .tuple #[(getM m k).getD z, .bool (getM m k).isSome] else (getM m k).getD z) w := by
 obtain ⟨es, clock, hb, hm⟩ := h
 obtain ⟨l, hl⟩ := keyOf_sv hk hkl
 rcases find_map hk hm hkl w with ⟨h1, h2⟩ | ⟨j, e, h1, h2, h3, h4⟩
 ·cases ok <;> simp [Instr.lookup, run_underlying ht, MapKept.run_getObj_map hb, (Maps.string_keyed hk).check w _ hl, h1, hz, h2, Result.andThen]
 ·cases ok <;> simp [Instr.lookup, run_underlying ht, MapKept.run_getObj_map hb, (Maps.string_keyed hk).check w _ hl, h1, h4, Result.andThen]
theorem setM_fst (m : MapL) (k : List UInt8) (v : Value) : (setM m k v).map Prod.fst = m.map Prod.fst := by
 unfold setM
 rw [List.map_map]
 refine List.map_congr_left fun x hx => ?_
 simp only [Function.comp]
 split <;> rfl
theorem run_store_fine (ht : P.underlying t = some (.map kt et)) (hk : P.underlying kt = some .string) {es : Array MapEntry} {clock : Nat} (hb : w.heap[b]? = some (.map es clock)) (hm : MapOf es clock m) {k : List UInt8} (hkl : k.length ≤ 1099511627776) (v : Value) :
 ∃ es' clock', (Instr.mapUpdate t (.map (some b)) (sv k) v).run P w = .ok () { w with heap := w.heap.setIfInBounds b (.map es' clock') } ∧ MapOf es' clock' (putM m k v) ∧ Keeps (One b) w { w with heap := w.heap.setIfInBounds b (.map es' clock') } ∧
   ((getM m k).isSome = true → clock' = clock ∧ es'.toList.map (fun e => (e.key, e.born)) = es.toList.map (fun e => (e.key, e.born))) := by
 obtain ⟨l, hl⟩ := keyOf_sv hk hkl
 have hkeep : ∀ o : Obj, Keeps (One b) w { w with heap := w.heap.setIfInBounds b o } := fun o =>
  ⟨rfl, rfl, rfl, by simp, fun k' hk' hn => by
   show (w.heap.setIfInBounds b o)[k']? = _
   rw [Array.getElem?_setIfInBounds_ne (fun e => hn e.symm)]⟩
 have hlt : b < w.heap.size := (Array.getElem?_eq_some_iff.1 hb).1
 rcases find_map hk hm hkl w with ⟨h1, h2⟩ | ⟨j, e, h1, h2, h3, h4⟩
 ·refine ⟨es.push { key := sv k, val := v, born := clock }, clock + 1, by simp [Instr.mapUpdate, run_underlying ht, MapKept.run_getObj_map hb, (Maps.string_keyed hk).check w _ hl, h1, MapKept.run_setObj_map _ hb, Result.andThen], ?_, hkeep _, fun hs => by rw [h2] at hs; cases hs⟩
  have hp : putM m k v = m ++ [(k, v)] := by rw [putM, h2]; rfl
  rw [hp]
  refine ⟨by simp [hm.ents], ?_, ?_, ?_, ?_⟩
  ·rw [List.map_append, List.nodup_append]
   refine ⟨hm.keys, by simp, fun a ha b' hb' e => ?_⟩
   simp only [List.map_cons, List.map_nil, List.mem_singleton] at hb'
   obtain ⟨x, hx, rfl⟩ := List.mem_map.1 ha
   exact getM_none.1 h2 x hx (e.trans hb')
  ·simp only [Array.toList_push, List.map_append, List.map_cons, List.map_nil]
   rw [List.nodup_append]
   refine ⟨hm.born, by simp, fun a ha b' hb' e => ?_⟩
   simp only [List.mem_singleton] at hb'
   obtain ⟨x, hx, rfl⟩ := List.mem_map.1 ha
   have := hm.old x hx
   omega
  ·intro x hx
   simp only [Array.toList_push, List.mem_append, List.mem_singleton] at hx
   rcases hx with hx | rfl
   ·have := hm.old x hx; omega
   ·exact Nat.lt_succ_self _
  ·intro x hx
   rcases List.mem_append.1 hx with hx | hx
   ·exact hm.small x hx
   ·obtain rfl := List.mem_singleton.1 hx
    exact hkl
 ·have hj : es[j]? = some e := by simpa using h2
  have hmod : (es.modify j fun e => { e with key := sv k, val := v }).toList = es.toList.set j { e with key := sv k, val := v } := by
   apply List.ext_getElem?
   intro i
   rw [Array.getElem?_toList, Array.getElem?_modify, List.getElem?_set]
   by_cases hij : j = i
   ·subst hij
    rw [if_pos rfl, if_pos rfl, if_pos (List.getElem?_eq_some_iff.1 h2).1, hj]
    rfl
   ·rw [if_neg hij, if_neg hij, Array.getElem?_toList]
  have hfine : (es.modify j fun e => { e with key := sv k, val := v }).toList.map (fun e => (e.key, e.born)) = es.toList.map (fun e => (e.key, e.born)) := by
   rw [hmod, List.map_set]
   have hjl : j < es.toList.length := (List.getElem?_eq_some_iff.1 h2).1
   have h5 : (es.toList.map (fun e => (e.key, e.born)))[j]'(by simpa using hjl) = (sv k, e.born) := by
    rw [List.getElem_map, (List.getElem?_eq_some_iff.1 h2).2, h3]
   show (es.toList.map (fun e => (e.key, e.born))).set j (sv k, e.born) = _
   rw [← h5, List.set_getElem_self]
  refine ⟨es.modify j fun e => { e with key := sv k, val := v }, clock, by simp [Instr.mapUpdate, run_underlying ht, MapKept.run_getObj_map hb, (Maps.string_keyed hk).check w _ hl, h1, hj, h3, (Maps.string_keyed hk).stays w hl, MapKept.run_setObj_map _ hb, Result.andThen], ?_, hkeep _, fun _ => ⟨rfl, hfine⟩⟩
  have hp : putM m k v = setM m k v := by rw [putM, h4]; rfl
  rw [hp]
  have hjl : j < es.toList.length := (List.getElem?_eq_some_iff.1 h2).1
  have hbornj : es.toList[j].born = e.born := by
   have := (List.getElem?_eq_some_iff.1 h2).2
   rw [this]
  have hborn : (es.toList.set j { e with key := sv k, val := v }).map (·.born) = es.toList.map (·.born) := by
   rw [List.map_set]
   have : (es.toList.map (·.born))[j]'(by simpa using hjl) = e.born := by rw [List.getElem_map]; exact hbornj
   show (es.toList.map (·.born)).set j e.born = _
   rw [← this, List.set_getElem_self]
  have hml : m.length = es.toList.length := by
   have := congrArg List.length hm.ents
   simpa using this.symm
  have hat : ∀ (i : Nat) (hi : i < m.length), (es.toList[i]'(by omega)).key = sv m[i].1 := fun i hi => by
   have := congrArg (fun l => l[i]?) hm.ents
   simp only [List.getElem?_map, List.getElem?_eq_getElem hi, List.getElem?_eq_getElem (show i < es.toList.length by omega), Option.map_some, Option.some.injEq, Prod.mk.injEq] at this
   exact this.1
  refine ⟨?_, by rw [setM_fst]; exact hm.keys, by rw [hmod, hborn]; exact hm.born, ?_, ?_⟩
  ·rw [hmod, List.map_set, hm.ents]
   apply List.ext_getElem?
   intro i
   rw [List.getElem?_set]
   unfold setM
   simp only [List.length_map, List.getElem?_map]
   by_cases hij : j = i
   ·subst hij
    have hjm : j < m.length := by omega
    rw [if_pos rfl, if_pos hjm, List.getElem?_eq_getElem hjm]
    have hk2 : m[j].1 = k := svj (by rw [← hat j hjm]; have := (List.getElem?_eq_some_iff.1 h2).2; rw [this]; exact h3)
    simp [hk2]
   ·rw [if_neg hij]
    cases hmi : m[i]? with
    | none => rfl
    | some x =>
      have hne : x.1 ≠ k := by
       intro e2
       obtain ⟨hi, hxi⟩ := List.getElem?_eq_some_iff.1 hmi
       have hjm : j < m.length := by omega
       have hk2 : m[j].1 = k := svj (by rw [← hat j hjm]; have := (List.getElem?_eq_some_iff.1 h2).2; rw [this]; exact h3)
       have h1' : (m.map Prod.fst)[i]'(by simpa using hi) = (m.map Prod.fst)[j]'(by simpa using hjm) := by simp [hxi, e2, hk2]
       rcases Nat.lt_trichotomy i j with hl1 | hl1 | hl1
       ·exact List.pairwise_iff_getElem.1 hm.keys i j _ _ hl1 h1'
       ·exact hij hl1.symm
       ·exact List.pairwise_iff_getElem.1 hm.keys j i _ _ hl1 h1'.symm
      simp [hne]
  ·intro x hx
   rw [hmod] at hx
   obtain ⟨y, hy, hyb⟩ : ∃ y ∈ es.toList, y.born = x.born := by
    have h5 : x.born ∈ (es.toList.set j { e with key := sv k, val := v }).map (·.born) := List.mem_map.2 ⟨x, hx, rfl⟩
    rw [hborn] at h5
    obtain ⟨y, hy, hyb⟩ := List.mem_map.1 h5
    exact ⟨y, hy, hyb⟩
   rw [← hyb]
   exact hm.old y hy
  ·intro x hx
   unfold setM at hx
   obtain ⟨y, hy, rfl⟩ := List.mem_map.1 hx
   have := hm.small y hy
   split <;> exact this
theorem MapAt.keeps {S : Nat → Prop} {w' : World} (h : MapAt w b m) (hk : Keeps S w w') (hn : ¬ S b) : MapAt w' b m := by
 obtain ⟨es, clock, hb, hm⟩ := h
 exact ⟨es, clock, (hk.block b (Array.getElem?_eq_some_iff.1 hb).1 hn).trans hb, hm⟩
theorem MapAt.lt (h : MapAt w b m) : b < w.heap.size := by
 obtain ⟨es, clock, hb, hm⟩ := h
 exact (Array.getElem?_eq_some_iff.1 hb).1
theorem MapAt.made (w : World) : MapAt (w.alloc (.map #[] 0)) w.heap.size [] := ⟨#[], 0, heap_alloc_new w _, ⟨rfl, by simp, by simp, by simp, by simp⟩⟩
theorem run_len_map (ht : P.underlying t = some (.map kt et)) (h : MapAt w b m) (ty : TypeId) : (Builtin.len_ #[t] ty #[.map (some b)]).run P w = .ok (.int .i64 m.length) w := by
 obtain ⟨es, clock, hb, hm⟩ := h
 have hml : m.length = es.size := by
  have := congrArg List.length hm.ents
  simpa using this.symm
 simp [Builtin.len_, run_underlying ht, MapKept.run_getObj_map hb, Result.andThen, hml, goInt]
end
end Go.Proofs.YtdkogijdfgfpeaaGreatDoor
namespace Go.Proofs.YtdkogijdfgfpeaaGreatDoor
open Go Go.RowKit Go.MapKept Go.ChangeShapes Go.WideShapes Go.ChangeMaps
def MapIt (w : World) (r b : Nat) (m : MapL) (todo : List (List UInt8)) : Prop := ∃ (es : Array MapEntry) (clock since : Nat) (seen : Array Nat) (c0 : Nat),
 w.heap[b]? = some (.map es clock) ∧ MapOf es clock m ∧ w.heap[r]? = some (.mapIter (some b) since seen c0) ∧ (∀ x ∈ es.toList, x.born < since) ∧ since ≤ c0 ∧ since ≤ clock ∧
 ((es.toList.map fun e => (e.key, e.born)).filter fun p => !seen.contains p.2).map Prod.fst = todo.map sv
section
variable {P : Program} {w : World} {t kt et : TypeId} {b r : Nat} {m : MapL} {todo : List (List UInt8)}
theorem MapIt.map (h : MapIt w r b m todo) : MapAt w b m := by
 obtain ⟨es, clock, since, seen, c0, hb, hm, -⟩ := h
 exact ⟨es, clock, hb, hm⟩
theorem MapIt.lt (h : MapIt w r b m todo) : r < w.heap.size := by
 obtain ⟨es, clock, since, seen, c0, hb, hm, hr, -⟩ := h
 exact (Array.getElem?_eq_some_iff.1 hr).1
theorem MapIt.ne (h : MapIt w r b m todo) : r ≠ b := by
 obtain ⟨es, clock, since, seen, c0, hb, hm, hr, -⟩ := h
 intro e
 rw [e, hb] at hr
 cases hr
theorem MapIt.keeps {S : Nat → Prop} {w' : World} (h : MapIt w r b m todo) (hk : Keeps S w w') (hb' : ¬ S b) (hr' : ¬ S r) : MapIt w' r b m todo := by
 have h1 := h.map.lt
 have h2 := h.lt
 obtain ⟨es, clock, since, seen, c0, hb, hm, hr, rest⟩ := h
 exact ⟨es, clock, since, seen, c0, (hk.block b h1 hb').trans hb, hm, (hk.block r h2 hr').trans hr, rest⟩
theorem run_range_m (ht : P.underlying t = some (.map kt et)) (h : MapAt w b m) : (Instr.range t (.map (some b))).run P w = .ok (.pointer (some ⟨w.heap.size, 0, none⟩)) (w.alloc (.mapIter (some b) (h.choose_spec.choose) #[] (h.choose_spec.choose))) ∧ MapIt (w.alloc (.mapIter (some b) (h.choose_spec.choose) #[] (h.choose_spec.choose))) w.heap.size b m (m.map Prod.fst) := by
 obtain ⟨hb, hm⟩ := h.choose_spec.choose_spec
 have hlt := h.lt
 refine ⟨run_range_map w t kt et b _ _ ht hb, h.choose, h.choose_spec.choose, h.choose_spec.choose, #[], h.choose_spec.choose, ((MapKept.heap_alloc w _).2 b hlt).trans hb, hm, (MapKept.heap_alloc w _).1, hm.old, Nat.le_refl _, Nat.le_refl _, ?_⟩
 have h1 := congrArg (List.map Prod.fst) hm.ents
 simp only [List.map_map] at h1
 have h2 : (h.choose.toList.map fun e => (e.key, e.born)).filter (fun p => !(#[] : Array Nat).contains p.2) = h.choose.toList.map fun e => (e.key, e.born) := List.filter_eq_self.2 (by simp)
 rw [h2, List.map_map, List.map_map]
 exact h1
theorem left_list (es : Array MapEntry) (seen : Array Nat) : ((es.toList.map fun e => (e.key, e.born)).filter fun p => !seen.contains p.2).map Prod.fst = (leftOf es seen).toList.map (·.key) := by
 unfold leftOf
 rw [Array.toList_filter, List.filter_map, List.map_map]
 rfl
theorem MapIt.next (h : MapIt w r b m todo) (ty : TypeId) :
 (todo = [] ∧ (Instr.next (.pointer (some ⟨r, 0, none⟩)) false ty).run P w = .ok (.tuple #[.bool false]) w) ∨
 ∃ k v w', k ∈ todo ∧ getM m k = some v ∧ (Instr.next (.pointer (some ⟨r, 0, none⟩)) false ty).run P w = .ok (.tuple #[.bool true, sv k, v]) w' ∧ MapIt w' r b m (todo.filter fun x => x != k) ∧ Keeps (One r) w w' ∧ w'.heap.size = w.heap.size ∧
   (Instr.entry (.pointer (some ⟨r, 0, none⟩))).run P w' = .ok (.tuple #[sv k, v]) w' := by
 classical
 have hne := h.ne
 obtain ⟨es, clock, since, seen, c0, hb, hm, hr, hold, hsc, hsk, htd⟩ := h
 rw [left_list] at htd
 rcases run_next_at (P := P) w ty r b since c0 seen es clock hr hb hold hsc with ⟨h0, hrun⟩ | ⟨e, he, w1, hal, hrun⟩
 ·left
  have h1 : (leftOf es seen).toList = [] := by simpa using h0
  rw [h1] at htd
  exact ⟨by simpa using htd.symm, hrun⟩
 ·right
  obtain ⟨hem, hes⟩ := mem_left he
  obtain ⟨x, hx, hxk, hxv⟩ := hm.key hem
  have hr1 : w1.heap[r]? = some (.mapIter (some b) since seen c0) := by rcases hal with rfl | rfl <;> exact hr
  have hb1 : w1.heap[b]? = some (.map es clock) := by rcases hal with rfl | rfl <;> exact hb
  have hset := heap_set (o' := .mapIter (some b) since (seen.push e.born) clock) hr1
  have hb' : (setBlock w1 r (.mapIter (some b) since (seen.push e.born) clock)).heap[b]? = some (.map es clock) := (hset.2 b (fun e1 => hne e1.symm)).trans hb1
  refine ⟨x.1, x.2, setBlock w1 r (.mapIter (some b) since (seen.push e.born) clock), ?_, (getM_mem hm.keys).2 hx, by rw [← hxk, ← hxv]; exact hrun, ⟨es, clock, since, seen.push e.born, clock, hb', hm, hset.1, hold, hsk, hsk, ?_⟩, ?_, ?_, by
   rw [← hxk, ← hxv]
   exact run_entry_at _ r b since seen es clock e hset.1 hb' hem hm.born⟩
  ·have : sv x.1 ∈ todo.map sv := by
    rw [← htd, ← hxk]
    exact List.mem_map.2 ⟨e, he, rfl⟩
   obtain ⟨y, hy, hyx⟩ := List.mem_map.1 this
   rw [← svj hyx]
   exact hy
  ·-- the left ones
   have h1 : (todo.filter fun y => y != x.1).map sv = (todo.map sv).filter fun v => decide (v ≠ sv x.1) := by
    rw [List.filter_map]
    congr 1
    refine List.filter_congr fun y hy => ?_
    simp only [Function.comp]
    by_cases hyx : y = x.1
    ·simp [hyx]
    ·have : sv y ≠ sv x.1 := fun e2 => hyx (svj e2)
     simp [hyx, this]
   rw [h1, ← htd, left_list]
   have h2 : leftOf es (seen.push e.born) = (leftOf es seen).filter fun y => decide (y.born ≠ e.born) := by
    unfold leftOf
    rw [Array.filter_filter]
    congr 1
    funext y
    rw [contains_push]
    by_cases hy : y.born = e.born <;> simp [hy]
   rw [h2, Array.toList_filter, List.filter_map]
   congr 1
   refine List.filter_congr fun y hy => ?_
   simp only [Function.comp]
   obtain ⟨hym, -⟩ := mem_left hy
   rw [← hxk]
   by_cases hye : y.born = e.born
   ·have : y = e := born_inj hm.born hym hem hye
    simp [this]
   ·have : y.key ≠ e.key := by
     intro e2
     have hlen : es.toList.length = m.length := by simpa using congrArg List.length hm.ents
     obtain ⟨i, hi, hiy⟩ := List.getElem_of_mem hym
     obtain ⟨j, hj, hje⟩ := List.getElem_of_mem hem
     have hat : ∀ (i : Nat) (hi : i < es.toList.length), (es.toList[i]).key = sv (m[i]'(by omega)).1 := fun i hi => by
      have := congrArg (fun l => l[i]?) hm.ents
      simp only [List.getElem?_map, List.getElem?_eq_getElem hi, List.getElem?_eq_getElem (show i < m.length by omega), Option.map_some, Option.some.injEq, Prod.mk.injEq] at this
      exact this.1
     have h3 : (m[i]'(by omega)).1 = (m[j]'(by omega)).1 := svj (by rw [← hat i hi, ← hat j hj, hiy, hje, e2])
     have h4 : (m.map Prod.fst)[i]'(by simp; omega) = (m.map Prod.fst)[j]'(by simp; omega) := by simpa using h3
     have hij : i = j := by
      rcases Nat.lt_trichotomy i j with hl1 | hl1 | hl1
      ·exact absurd h4 (List.pairwise_iff_getElem.1 hm.keys i j _ _ hl1)
      ·exact hl1
      ·exact absurd h4.symm (List.pairwise_iff_getElem.1 hm.keys j i _ _ hl1)
     subst hij
     exact hye (by rw [← hiy, ← hje])
    simp [hye, this]
  ·rcases hal with rfl | rfl <;> exact ⟨rfl, rfl, rfl, by simp [setBlock], fun i _ hi => hset.2 i (fun e1 => hi e1)⟩
  ·rcases hal with rfl | rfl <;> simp [setBlock]
theorem MapIt.store (ht : P.underlying t = some (.map kt et)) (hk : P.underlying kt = some .string) (h : MapIt w r b m todo) {k : List UInt8} (hkl : k.length ≤ 1099511627776) (v : Value) (hin : (getM m k).isSome = true) :
 ∃ w', (Instr.mapUpdate t (.map (some b)) (sv k) v).run P w = .ok () w' ∧ MapIt w' r b (putM m k v) todo ∧ Keeps (One b) w w' ∧ w'.heap.size = w.heap.size := by
 have hne := h.ne
 obtain ⟨es, clock, since, seen, c0, hb, hm, hr, hold, hsc, hsk, htd⟩ := h
 obtain ⟨es', clock', h1, h2, h3, h4⟩ := run_store_fine ht hk hb hm hkl v
 obtain ⟨rfl, h5⟩ := h4 hin
 refine ⟨_, h1, ⟨es', _, since, seen, c0, (heap_set hb).1, h2, ((heap_set hb).2 r hne).trans hr, fun x hx => ?_, hsc, hsk, by rw [h5]; exact htd⟩, h3, by simp⟩
 have h6 : (x.key, x.born) ∈ es'.toList.map (fun e => (e.key, e.born)) := List.mem_map.2 ⟨x, hx, rfl⟩
 rw [h5] at h6
 obtain ⟨y, hy, hyx⟩ := List.mem_map.1 h6
 simp only [Prod.mk.injEq] at hyx
 rw [← hyx.2]
 exact hold y hy
end
section
variable {P : Program} (w : World) {ops : Array Oper} {rest : List Oper} {o : Oper} {a : Act} {Q : Exit → Act → World → Prop}
theorem wpl_look (hg : o.guard = none) (m x : Operand) (t : TypeId) (hop : o.op = Op.lookup t m x false) (kt et : TypeId) (ht : P.underlying t = some (.map kt et)) (hk : P.underlying kt = some .string) (z : Value) (hz : (zeroValue et).run P w = .ok z w)
 (b : Nat) (M : MapL) (hm : a.eval m = .map (some b)) (h : MapAt w b M) (k : List UInt8) (hx : a.eval x = sv k) (hkl : k.length ≤ 1099511627776)
 (hK : wpList P ops Q rest (a.put o.dst ((getM M k).getD z)) w) : wpList P ops Q (o :: rest) a w := by
 refine wpList_plain hg fun K' hK' => ?_
 have hrun := run_lookup_map ht hk hz h hkl false
 unfold Oper.wp
 simp [execOp, hop, hm, hx, hrun, Result.andThen]
 exact hK' _ _ hK
theorem wpl_lookw (hw : Region.wanted o (yielded ops a.tmps) = true) (m x : Operand) (t : TypeId) (hop : o.op = Op.lookup t m x false) (kt et : TypeId) (ht : P.underlying t = some (.map kt et)) (hk : P.underlying kt = some .string) (z : Value) (hz : (zeroValue et).run P w = .ok z w)
 (b : Nat) (M : MapL) (hm : a.eval m = .map (some b)) (h : MapAt w b M) (k : List UInt8) (hx : a.eval x = sv k) (hkl : k.length ≤ 1099511627776)
 (hK : wpList P ops Q rest (a.put o.dst ((getM M k).getD z)) w) : wpList P ops Q (o :: rest) a w := by
 refine wpList_step fun K' hK' => ?_
 rw [if_pos hw]
 have hrun := run_lookup_map ht hk hz h hkl false
 unfold Oper.wp
 simp [execOp, hop, hm, hx, hrun, Result.andThen]
 exact hK' _ _ hK
theorem wpl_looko (hg : o.guard = none) (m x : Operand) (t : TypeId) (hop : o.op = Op.lookup t m x true) (kt et : TypeId) (ht : P.underlying t = some (.map kt et)) (hk : P.underlying kt = some .string) (z : Value) (hz : (zeroValue et).run P w = .ok z w)
 (b : Nat) (M : MapL) (hm : a.eval m = .map (some b)) (h : MapAt w b M) (k : List UInt8) (hx : a.eval x = sv k) (hkl : k.length ≤ 1099511627776)
 (hK : wpList P ops Q rest (a.put o.dst (.tuple #[(getM M k).getD z, .bool (getM M k).isSome])) w) : wpList P ops Q (o :: rest) a w := by
 refine wpList_plain hg fun K' hK' => ?_
 have hrun := run_lookup_map ht hk hz h hkl true
 unfold Oper.wp
 simp [execOp, hop, hm, hx, hrun, Result.andThen]
 exact hK' _ _ hK
theorem wpl_store (hg : o.guard = none) (m x y : Operand) (t : TypeId) (hop : o.op = Op.mapUpdate t m x y) (kt et : TypeId) (ht : P.underlying t = some (.map kt et)) (hk : P.underlying kt = some .string)
 (b : Nat) (M : MapL) (hm : a.eval m = .map (some b)) (h : MapAt w b M) (k : List UInt8) (hx : a.eval x = sv k) (hkl : k.length ≤ 1099511627776) (v : Value) (hy : a.eval y = v)
 (hK : ∀ w', MapAt w' b (putM M k v) → Keeps (One b) w w' → w'.heap.size = w.heap.size → wpList P ops Q rest (a.put o.dst (.tuple #[])) w') : wpList P ops Q (o :: rest) a w := by
 refine wpList_plain hg fun K' hK' => ?_
 obtain ⟨es, clock, hb, hM⟩ := h
 obtain ⟨es', clock', h1, h2, h3, -⟩ := run_store_fine ht hk hb hM hkl v
 unfold Oper.wp
 simp [execOp, hop, hm, hx, hy, h1, Result.andThen]
 exact hK' _ _ (hK _ ⟨es', clock', (heap_set hb).1, h2⟩ h3 (by simp))
theorem wpl_storei (hg : o.guard = none) (m x y : Operand) (t : TypeId) (hop : o.op = Op.mapUpdate t m x y) (kt et : TypeId) (ht : P.underlying t = some (.map kt et)) (hk : P.underlying kt = some .string)
 (r b : Nat) (M : MapL) (todo : List (List UInt8)) (hm : a.eval m = .map (some b)) (h : MapIt w r b M todo) (k : List UInt8) (hx : a.eval x = sv k) (hkl : k.length ≤ 1099511627776) (v : Value) (hy : a.eval y = v) (hin : (getM M k).isSome = true)
 (hK : ∀ w', MapIt w' r b (putM M k v) todo → Keeps (One b) w w' → w'.heap.size = w.heap.size → wpList P ops Q rest (a.put o.dst (.tuple #[])) w') : wpList P ops Q (o :: rest) a w := by
 refine wpList_plain hg fun K' hK' => ?_
 obtain ⟨w', h1, h2, h3, h4⟩ := h.store ht hk hkl v hin
 unfold Oper.wp
 simp [execOp, hop, hm, hx, hy, h1, Result.andThen]
 exact hK' _ _ (hK _ h2 h3 h4)
theorem wpl_range (hg : o.guard = none) (m : Operand) (t : TypeId) (hop : o.op = Op.range t m) (kt et : TypeId) (ht : P.underlying t = some (.map kt et)) (b : Nat) (M : MapL) (hm : a.eval m = .map (some b)) (h : MapAt w b M)
 (hK : ∀ w', MapIt w' w.heap.size b M (M.map Prod.fst) → Keeps Non w w' → w'.heap.size = w.heap.size + 1 → wpList P ops Q rest (a.put o.dst (.pointer (some ⟨w.heap.size, 0, none⟩))) w') : wpList P ops Q (o :: rest) a w := by
 refine wpList_plain hg fun K' hK' => ?_
 obtain ⟨h1, h2⟩ := run_range_m ht h
 unfold Oper.wp
 simp [execOp, hop, hm, h1, Result.andThen]
 exact hK' _ _ (hK _ h2 ((Keeps.refl _ _).alloc _) (by simp))
theorem wpl_next (hg : o.guard = none) (it : Operand) (hop : o.op = Op.next it false) (r b : Nat) (M : MapL) (todo : List (List UInt8)) (hit : a.eval it = .pointer (some ⟨r, 0, none⟩)) (h : MapIt w r b M todo)
 (hDone : todo = [] → wpList P ops Q rest (a.put o.dst (.tuple #[.bool false])) w)
 (hMore : ∀ k v w', k ∈ todo → getM M k = some v → MapIt w' r b M (todo.filter fun x => x != k) → Keeps (One r) w w' → w'.heap.size = w.heap.size → (Instr.entry (.pointer (some ⟨r, 0, none⟩))).run P w' = .ok (.tuple #[sv k, v]) w' →
   wpList P ops Q rest (a.put o.dst (.tuple #[.bool true, sv k, v])) w') : wpList P ops Q (o :: rest) a w := by
 refine wpList_plain hg fun K' hK' => ?_
 unfold Oper.wp
 rcases h.next (P := P) o.type with ⟨h0, hrun⟩ | ⟨k, v, w', hkt, hv, hrun, hit', hkp, hsz, hen⟩
 ·simp [execOp, hop, hit, hrun, Result.andThen]
  exact hK' _ _ (hDone h0)
 ·simp [execOp, hop, hit, hrun, Result.andThen]
  exact hK' _ _ (hMore k v w' hkt hv hit' hkp hsz hen)
end
end Go.Proofs.YtdkogijdfgfpeaaGreatDoor
namespace Go.Proofs.YtdkogijdfgfpeaaGreatDoor
open Go Go.RowKit
theorem Rd.keepc {S : Nat → Prop} {w w' : World} {size : Nat} {v : Value} {n : Nat} {xs : List Value} (h : Rd w size v n xs) (k : Keeps S w w') (hs : ∀ b c T fr, v.ownBlock = some b → w.heap[b]? = some (.cells c T fr) → ¬ S b) : Rd w' size v n xs := by
 obtain ⟨h1, h2 | ⟨b', off, cap, rfl, h2, h3, h4, h5⟩⟩ := h
 ·exact ⟨h1, .inl h2⟩
 ·refine ⟨h1, .inr ⟨_, _, _, rfl, h2, h3, Nat.lt_of_lt_of_le h4 k.size, fun j hj => ?_⟩⟩
  have h6 := h5 j hj
  rw [← h6]
  have hx : xs[j]? ≠ none := by rw [List.getElem?_eq_getElem (by omega)]; simp
  rw [← h6] at hx
  have : ∃ c T fr, w.heap[b']? = some (.cells c T fr) := by
   simp only [World.cell?] at hx
   split at hx
   ·rename_i c T fr hb
    exact ⟨_, _, _, hb⟩
   ·exact absurd rfl hx
  obtain ⟨c, T, fr, hb⟩ := this
  simp only [World.cell?, k.block b' h4 (hs b' c T fr rfl hb)]
theorem Sl.own {w : World} {B : Nat} {E : TypeId} {size : Nat} {v : Value} {n : Nat} {xs : List Value} (h : Sl w B E size v n xs) (b : Nat) (hb : v.ownBlock = some b) : B ≤ b ∧ b < w.heap.size := by
 obtain ⟨h1, ⟨rfl, rfl⟩ | ⟨b', off, cap, c, rfl, hB, hb', h2, h3, h4, h5⟩⟩ := h
 ·cases hb
 ·cases hb
  exact ⟨hB, hb'.lt⟩
abbrev TE : TypeId := 80
abbrev TS : TypeId := 84
def pv (b : Nat) : Value := .pointer (some ⟨b, 0, none⟩)
structure EntAt (w : World) (F : Nat → Prop) (p : Nat) (e : Ent) : Prop where
 own : F p
 blk : ∃ vt vr, Blk w p #[sv (packP e.tree), vt, vr] TE ∧ Rd w 3 vt e.tree.length (nodeCells e.tree) ∧ Rd w 1 vr e.refs.length (svs e.refs) ∧ (∀ b, vt.ownBlock = some b → F b) ∧ (∀ b, vr.ownBlock = some b → F b)
structure EntFit (e : Ent) : Prop where
 nodes : NodesSmall e.tree
 pack : (packP e.tree).length ≤ 70368744177664
 refs : e.refs.length ≤ 1099511627776
 ref : ∀ r ∈ e.refs, r.length ≤ 1099511627776
structure StoreAt (w : World) (F : Nat → Prop) (s : Nat) (L : Ents) : Prop where
 top : ∀ k, F k → tabTop ≤ k
 lt : ∀ k, F k → k < w.heap.size
 own : F s
 ok : StoreOk L
 fit : ∀ e ∈ L, EntFit e
 map : ∃ mb m, F mb ∧ Blk w s #[.map (some mb)] TS ∧ MapAt w mb m ∧ m.length = L.length ∧ (∀ x ∈ m, ∃ e ∈ L, e.path = x.1) ∧ ∀ e ∈ L, ∃ p, getM m e.path = some (pv p) ∧ EntAt w F p e
theorem EntAt.keeps {S F : Nat → Prop} {w w' : World} {p : Nat} {e : Ent} (h : EntAt w F p e) (k : Keeps S w w') (hs : ∀ b c T fr, F b → w.heap[b]? = some (.cells c T fr) → ¬ S b) : EntAt w' F p e := by
 obtain ⟨ho, vt, vr, h1, h2, h3, h4, h5⟩ := h
 exact ⟨ho, vt, vr, h1.keeps k (hs p _ _ _ ho h1), h2.keepc k (fun b c T fr hb hc => hs b c T fr (h4 b hb) hc), h3.keepc k (fun b c T fr hb hc => hs b c T fr (h5 b hb) hc), h4, h5⟩
theorem EntAt.wide {F F' : Nat → Prop} {w : World} {p : Nat} {e : Ent} (h : EntAt w F p e) (hf : ∀ k, F k → F' k) : EntAt w F' p e := by
 obtain ⟨ho, vt, vr, h1, h2, h3, h4, h5⟩ := h
 exact ⟨hf _ ho, vt, vr, h1, h2, h3, fun b hb => hf _ (h4 b hb), fun b hb => hf _ (h5 b hb)⟩
theorem StoreAt.keeps {S F : Nat → Prop} {w w' : World} {s : Nat} {L : Ents} (h : StoreAt w F s L) (k : Keeps S w w') (hs : ∀ b, F b → ¬ S b) : StoreAt w' F s L := by
 obtain ⟨mb, m, h1, h2, h3, h4, h5, h6⟩ := h.map
 exact ⟨h.top, fun b hb => Nat.lt_of_lt_of_le (h.lt b hb) k.size, h.own, h.ok, h.fit, mb, m, h1, h2.keeps k (hs s h.own), h3.keeps k (hs mb h1), h4, h5, fun e he => by
  obtain ⟨p, hp, he2⟩ := h6 e he
  exact ⟨p, hp, he2.keeps k fun b _ _ _ hb _ => hs b hb⟩⟩
theorem StoreAt.non {F : Nat → Prop} {w w' : World} {s : Nat} {L : Ents} (h : StoreAt w F s L) (k : Keeps Non w w') : StoreAt w' F s L := h.keeps k fun _ _ h => h
theorem StoreAt.look {F : Nat → Prop} {w : World} {mb : Nat} {L : Ents} {m : MapL} (hm : MapAt w mb m) (h5 : ∀ x ∈ m, ∃ e ∈ L, e.path = x.1) (h6 : ∀ e ∈ L, ∃ p, getM m e.path = some (pv p) ∧ EntAt w F p e) (k : List UInt8) :
 (findE L k = none ∧ getM m k = none) ∨ ∃ e p, findE L k = some e ∧ e ∈ L ∧ e.path = k ∧ getM m k = some (pv p) ∧ EntAt w F p e := by
 cases hf : findE L k with
 | none =>
   left
   refine ⟨rfl, getM_none.2 fun x hx e2 => ?_⟩
   obtain ⟨e, he, hex⟩ := h5 x hx
   exact findE_none.1 hf e he (hex.trans e2)
 | some e =>
   right
   obtain ⟨he, rfl⟩ := findE_some hf
   obtain ⟨p, hp, hE⟩ := h6 e he
   exact ⟨e, p, rfl, he, rfl, hp, hE⟩
set_option maxHeartbeats 800000 in
set_option maxRecDepth 100000 in
theorem new_any (w : World) (hT : tabTop ≤ w.heap.size) :
 Calls Tryz.prog 44 #[] w fun e w' => ∃ s, e = .returned (pv s) ∧ w.heap.size ≤ s ∧ StoreAt w' (fun k => w.heap.size ≤ k ∧ k < w'.heap.size) s [] ∧ Keeps Non w w' := by
 have hmm := @run_makeMap Tryz.prog
 go_enter Tryz.func44, Tryz.ntmps44
 go_wp2_with fail
 go_ret
 have h1 := MapAt.made w
 have h2 := Blk.new (w.alloc (.map #[] 0)) #[.map (some w.heap.size)] TS
 have hkp : Keeps Non w ((w.alloc (.map #[] 0)).alloc (.cells #[.map (some w.heap.size)] TS)) := ((Keeps.refl _ _).alloc _).alloc _
 refine ⟨w.heap.size + 1, by simp [pv], by omega, ⟨fun k hk => by omega, fun k hk => hk.2, ⟨by omega, by simp⟩, ⟨by simp, by simp, by simp, by simp⟩, by simp, w.heap.size, [], ⟨Nat.le_refl _, by simp; omega⟩, by simpa using h2, ?_, rfl, by simp, by simp⟩, hkp⟩
 exact h1.keeps ((Keeps.refl Non _).alloc _) (fun h => h)
set_option maxHeartbeats 800000 in
set_option maxRecDepth 100000 in
theorem sameE_any {F F' : Nat → Prop} {p q : Nat} {a b : Ent} (w : World) (ha : EntAt w F p a) (hb : EntAt w F' q b) :
 Calls Tryz.prog 59 #[pv p, pv q] w fun e w' => e = .returned (.bool (sameE a b)) ∧ ∃ n, w' = w.drewN n := by
 obtain ⟨-, vt, vr, h1, h2, h3, h4, h5⟩ := ha
 obtain ⟨-, ut, ur, g1, g2, g3, g4, g5⟩ := hb
 have c0 := h1.cell 0
 have c2 := h1.cell 2
 have d0 := g1.cell 0
 have d2 := g1.cell 2
 simp only [List.getElem?_toArray, List.getElem?_cons_zero, List.getElem?_cons_succ] at c0 c2 d0 d2
 have HEQ : Hid (∀ n, Calls Tryz.prog 95 #[vr, ur] (w.drewN n) fun e w' => e = .returned (.bool (a.refs == b.refs)) ∧ ∃ m, w' = w.drewN m) := fun n =>
  (eqs_any _ _ _ _ _ (h3.non ((Keeps.refl _ _).drewN n)) (g3.non ((Keeps.refl _ _).drewN n))).mono fun e w' h => ⟨h.1, by
    obtain ⟨m, hm⟩ := h.2
    rw [hm]
    exact drewN_more ⟨n, rfl⟩ m⟩
 clear h1 h2 h3 h4 h5 g1 g2 g3 g4 g5
 unfold sv at c0 d0
 unfold sameE pv
 generalize packP a.tree = x at *
 generalize packP b.tree = y at *
 by_cases he : x = y
 ·have hb : (x == y) = true := by rw [he]; exact beq_self_eq_true _
  clear he
  go_enter Tryz.func59, Tryz.ntmps59
  go_upto_region 1 with (fail)
  go_quiet (first | (go_at_call 95; exact (HEQ.out _)))
  go_wp2_with fail
  go_ret
  refine ⟨bool_ret ?_, _, rfl⟩
  rw [hb, Bool.true_and]
 ·have hb : (x == y) = false := by rw [beq_eq_false_iff_ne]; exact he
  clear he
  go_enter Tryz.func59, Tryz.ntmps59
  go_upto_region 1 with (fail)
  go_quiet (fail)
  go_wp2_with fail
  go_ret
  refine ⟨bool_ret ?_, _, rfl⟩
  rw [hb, Bool.false_and]
end Go.Proofs.YtdkogijdfgfpeaaGreatDoor
