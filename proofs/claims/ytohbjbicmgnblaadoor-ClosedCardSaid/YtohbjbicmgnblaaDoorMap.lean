/- Maps of strings in memory: what a block holds, entry by entry, in the order of their coming; look-up, store, len. No program in sight. -/
import Derived.Test.YtohbjbicmgnblaaDoorPut
import Derived.Maps.OwnOps
import Derived.Maps.OwnSet
namespace Go.Proofs.YtohbjbicmgnblaaDoor
open Go Go.RowKit Go.MapKept Go.ChangeShapes Go.WideShapes Go.ChangeMaps
set_option linter.unusedVariables false

abbrev MapL := List (List UInt8 × Value)
structure MapOf (es : Array MapEntry) (clock : Nat) (m : MapL) : Prop where
  ents : es.toList.map (fun e => (e.key, e.val)) = m.map (fun x => (sv x.1, x.2))
  keys : (m.map Prod.fst).Nodup
  born : (es.toList.map (·.born)).Nodup
  old : ∀ e ∈ es.toList, e.born < clock
  small : ∀ x ∈ m, x.1.length ≤ 1099511627776
/-- block b is the map m -/
def MapAt (w : World) (b : Nat) (m : MapL) : Prop := ∃ (es : Array MapEntry) (clock : Nat), w.heap[b]? = some (.map es clock) ∧ MapOf es clock m
def getM (m : MapL) (k : List UInt8) : Option Value := (m.find? fun x => x.1 == k).map Prod.snd
def setM (m : MapL) (k : List UInt8) (v : Value) : MapL := m.map fun x => if x.1 = k then (x.1, v) else x
def putM (m : MapL) (k : List UInt8) (v : Value) : MapL := if (getM m k).isSome then setM m k v else m ++ [(k, v)]
theorem getM_none {m : MapL} {k : List UInt8} : getM m k = none ↔ ∀ x ∈ m, x.1 ≠ k := by
  unfold getM
  rw [Option.map_eq_none_iff, List.find?_eq_none]
  simp
theorem getM_mem {m : MapL} (hn : (m.map Prod.fst).Nodup) {k : List UInt8} {v : Value} : getM m k = some v ↔ (k, v) ∈ m := by
  unfold getM
  induction m with
  | nil => simp
  | cons x r ih =>
    simp only [List.map_cons, List.nodup_cons] at hn
    rw [List.find?_cons]
    by_cases h : x.1 = k
    · have hb : (x.1 == k) = true := by simpa using h
      rw [hb]
      simp only [Option.map_some, Option.some.injEq, List.mem_cons]
      constructor
      · rintro rfl; left; rw [← h]
      · rintro (e | e)
        · rw [← e]
        · exact absurd (List.mem_map.2 ⟨_, e, rfl⟩) (by rw [← h] at *; exact hn.1)
    · have hb : (x.1 == k) = false := by simpa using h
      rw [hb]
      simp only
      rw [ih hn.2, List.mem_cons]
      constructor
      · exact .inr
      · rintro (e | e)
        · rw [← e] at h; exact absurd rfl h
        · exact e
theorem svj {a b : List UInt8} (h : sv a = sv b) : a = b := by
  unfold sv at h
  have h1 := congrArg (fun v => match v with | Value.string s => s.data.toList | _ => []) h
  simpa using h1
section
variable {P : Program} {w : World} {t kt et : TypeId} {b : Nat} {m : MapL}
theorem MapOf.key {es : Array MapEntry} {clock : Nat} (h : MapOf es clock m) {e : MapEntry} (he : e ∈ es.toList) : ∃ x ∈ m, e.key = sv x.1 ∧ e.val = x.2 := by
  have h1 : (e.key, e.val) ∈ es.toList.map (fun e => (e.key, e.val)) := List.mem_map.2 ⟨e, he, rfl⟩
  rw [h.ents] at h1
  obtain ⟨x, hx, hxe⟩ := List.mem_map.1 h1
  simp only [Prod.mk.injEq] at hxe
  exact ⟨x, hx, hxe.1.symm, hxe.2.symm⟩
theorem MapOf.ent {es : Array MapEntry} {clock : Nat} (h : MapOf es clock m) {x : List UInt8 × Value} (hx : x ∈ m) : ∃ e ∈ es.toList, e.key = sv x.1 ∧ e.val = x.2 := by
  have h1 : (sv x.1, x.2) ∈ m.map (fun x => (sv x.1, x.2)) := List.mem_map.2 ⟨x, hx, rfl⟩
  rw [← h.ents] at h1
  obtain ⟨e, he, hxe⟩ := List.mem_map.1 h1
  simp only [Prod.mk.injEq] at hxe
  exact ⟨e, he, hxe.1, hxe.2⟩
theorem keyOf_sv (hk : P.underlying kt = some .string) {k : List UInt8} (hkl : k.length ≤ 1099511627776) : ∃ l, keyOf P kt (sv k) = some l := by
  have hs : (⟨k.toArray⟩ : ByteArray).size ≤ maxLen := by show k.toArray.size ≤ _; simp [maxLen]; omega
  exact ⟨_, WideMaps.keyOf_string_mk hk hs⟩
theorem find_map (hk : P.underlying kt = some .string) {es : Array MapEntry} {clock : Nat} (h : MapOf es clock m) {k : List UInt8} (hkl : k.length ≤ 1099511627776) (w : World) :
    ((Instr.findKey kt (sv k) es.toList).run P w = .ok none w ∧ getM m k = none) ∨ ∃ j e, (Instr.findKey kt (sv k) es.toList).run P w = .ok (some (j, e.val)) w ∧ es.toList[j]? = some e ∧ e.key = sv k ∧ getM m k = some e.val := by
  obtain ⟨l, hl⟩ := keyOf_sv hk hkl
  rcases (Maps.string_keyed hk).find w hl es.toList (fun e he => by
    obtain ⟨x, hx, hxe, -⟩ := h.key he
    rw [hxe]
    exact keyOf_sv hk (h.small x hx)) with ⟨h1, h2⟩ | ⟨j, e, h1, h2, h3⟩
  · refine .inl ⟨h1, getM_none.2 fun x hx e => ?_⟩
    obtain ⟨y, hy, hye, -⟩ := h.ent hx
    exact h2 y hy (by rw [hye, e])
  · refine .inr ⟨j, e, h1, h2, h3, ?_⟩
    obtain ⟨x, hx, hxe, hxv⟩ := h.key (List.mem_of_getElem? h2)
    rw [getM_mem h.keys, hxv]
    have : x.1 = k := svj (by rw [← hxe, h3])
    rw [← this]
    exact hx
/-- m[k], with ok or without -/
theorem run_lookup_map (ht : P.underlying t = some (.map kt et)) (hk : P.underlying kt = some .string) {z : Value} (hz : (zeroValue et).run P w = .ok z w) (h : MapAt w b m) {k : List UInt8} (hkl : k.length ≤ 1099511627776) (ok : Bool) :
    (Instr.lookup t (.map (some b)) (sv k) ok).run P w = .ok (if ok = true then .tuple #[(getM m k).getD z, .bool (getM m k).isSome] else (getM m k).getD z) w := by
  obtain ⟨es, clock, hb, hm⟩ := h
  obtain ⟨l, hl⟩ := keyOf_sv hk hkl
  rcases find_map hk hm hkl w with ⟨h1, h2⟩ | ⟨j, e, h1, h2, h3, h4⟩
  · cases ok <;> simp [Instr.lookup, run_underlying ht, MapKept.run_getObj_map hb, (Maps.string_keyed hk).check w _ hl, h1, hz, h2, Result.andThen]
  · cases ok <;> simp [Instr.lookup, run_underlying ht, MapKept.run_getObj_map hb, (Maps.string_keyed hk).check w _ hl, h1, h4, Result.andThen]
theorem setM_fst (m : MapL) (k : List UInt8) (v : Value) : (setM m k v).map Prod.fst = m.map Prod.fst := by
  unfold setM
  rw [List.map_map]
  refine List.map_congr_left fun x hx => ?_
  simp only [Function.comp]
  split <;> rfl
/-- m[k] = v -/
theorem run_store_fine (ht : P.underlying t = some (.map kt et)) (hk : P.underlying kt = some .string) {es : Array MapEntry} {clock : Nat} (hb : w.heap[b]? = some (.map es clock)) (hm : MapOf es clock m) {k : List UInt8} (hkl : k.length ≤ 1099511627776) (v : Value) :
    ∃ es' clock', (Instr.mapUpdate t (.map (some b)) (sv k) v).run P w = .ok () { w with heap := w.heap.setIfInBounds b (.map es' clock') } ∧ MapOf es' clock' (putM m k v) ∧ Keeps (One b) w { w with heap := w.heap.setIfInBounds b (.map es' clock') } ∧
      ((getM m k).isSome = true → clock' = clock ∧ es'.toList.map (fun e => (e.key, e.born)) = es.toList.map (fun e => (e.key, e.born))) := by
  obtain ⟨l, hl⟩ := keyOf_sv hk hkl
  have hkeep : ∀ o : Obj, Keeps (One b) w { w with heap := w.heap.setIfInBounds b o } := fun o =>
    ⟨rfl, rfl, rfl, by simp, fun k' hk' hn => by
      show (w.heap.setIfInBounds b o)[k']? = _
      rw [Array.getElem?_setIfInBounds_ne (fun e => hn e.symm)]⟩
  have hlt : b < w.heap.size := (Array.getElem?_eq_some_iff.1 hb).1
  rcases find_map hk hm hkl w with ⟨h1, h2⟩ | ⟨j, e, h1, h2, h3, h4⟩
  · refine ⟨es.push { key := sv k, val := v, born := clock }, clock + 1, by simp [Instr.mapUpdate, run_underlying ht, MapKept.run_getObj_map hb, (Maps.string_keyed hk).check w _ hl, h1, MapKept.run_setObj_map _ hb, Result.andThen], ?_, hkeep _, fun hs => by rw [h2] at hs; cases hs⟩
    have hp : putM m k v = m ++ [(k, v)] := by rw [putM, h2]; rfl
    rw [hp]
    refine ⟨by simp [hm.ents], ?_, ?_, ?_, ?_⟩
    · rw [List.map_append, List.nodup_append]
      refine ⟨hm.keys, by simp, fun a ha b' hb' e => ?_⟩
      simp only [List.map_cons, List.map_nil, List.mem_singleton] at hb'
      obtain ⟨x, hx, rfl⟩ := List.mem_map.1 ha
      exact getM_none.1 h2 x hx (e.trans hb')
    · simp only [Array.toList_push, List.map_append, List.map_cons, List.map_nil]
      rw [List.nodup_append]
      refine ⟨hm.born, by simp, fun a ha b' hb' e => ?_⟩
      simp only [List.mem_singleton] at hb'
      obtain ⟨x, hx, rfl⟩ := List.mem_map.1 ha
      have := hm.old x hx
      omega
    · intro x hx
      simp only [Array.toList_push, List.mem_append, List.mem_singleton] at hx
      rcases hx with hx | rfl
      · have := hm.old x hx; omega
      · exact Nat.lt_succ_self _
    · intro x hx
      rcases List.mem_append.1 hx with hx | hx
      · exact hm.small x hx
      · obtain rfl := List.mem_singleton.1 hx
        exact hkl
  · have hj : es[j]? = some e := by simpa using h2
    have hmod : (es.modify j fun e => { e with key := sv k, val := v }).toList = es.toList.set j { e with key := sv k, val := v } := by
      apply List.ext_getElem?
      intro i
      rw [Array.getElem?_toList, Array.getElem?_modify, List.getElem?_set]
      by_cases hij : j = i
      · subst hij
        rw [if_pos rfl, if_pos rfl, if_pos (List.getElem?_eq_some_iff.1 h2).1, hj]
        rfl
      · rw [if_neg hij, if_neg hij, Array.getElem?_toList]
    have hfine : (es.modify j fun e => { e with key := sv k, val := v }).toList.map (fun e => (e.key, e.born)) = es.toList.map (fun e => (e.key, e.born)) := by
      rw [hmod, List.map_set]
      have hjl : j < es.toList.length := (List.getElem?_eq_some_iff.1 h2).1
      have h5 : (es.toList.map (fun e => (e.key, e.born)))[j]'(by simpa using hjl) = (sv k, e.born) := by
        rw [List.getElem_map, (List.getElem?_eq_some_iff.1 h2).2, h3]
      show (es.toList.map (fun e => (e.key, e.born))).set j (sv k, e.born) = _
      rw [← h5, List.set_getElem_self]
    refine ⟨es.modify j fun e => { e with key := sv k, val := v }, clock, by simp [Instr.mapUpdate, run_underlying ht, MapKept.run_getObj_map hb, (Maps.string_keyed hk).check w _ hl, h1, hj, h3, (Maps.string_keyed hk).stays w hl, MapKept.run_setObj_map _ hb, Result.andThen], ?_, hkeep _, fun _ => ⟨rfl, hfine⟩⟩
    have hp : putM m k v = setM m k v := by rw [putM, h4]; rfl
    rw [hp]
    have hjl : j < es.toList.length := (List.getElem?_eq_some_iff.1 h2).1
    have hbornj : es.toList[j].born = e.born := by
      have := (List.getElem?_eq_some_iff.1 h2).2
      rw [this]
    have hborn : (es.toList.set j { e with key := sv k, val := v }).map (·.born) = es.toList.map (·.born) := by
      rw [List.map_set]
      have : (es.toList.map (·.born))[j]'(by simpa using hjl) = e.born := by rw [List.getElem_map]; exact hbornj
      show (es.toList.map (·.born)).set j e.born = _
      rw [← this, List.set_getElem_self]
    have hml : m.length = es.toList.length := by
      have := congrArg List.length hm.ents
      simpa using this.symm
    have hat : ∀ (i : Nat) (hi : i < m.length), (es.toList[i]'(by omega)).key = sv m[i].1 := fun i hi => by
      have := congrArg (fun l => l[i]?) hm.ents
      simp only [List.getElem?_map, List.getElem?_eq_getElem hi, List.getElem?_eq_getElem (show i < es.toList.length by omega), Option.map_some, Option.some.injEq, Prod.mk.injEq] at this
      exact this.1
    refine ⟨?_, by rw [setM_fst]; exact hm.keys, by rw [hmod, hborn]; exact hm.born, ?_, ?_⟩
    · rw [hmod, List.map_set, hm.ents]
      apply List.ext_getElem?
      intro i
      rw [List.getElem?_set]
      unfold setM
      simp only [List.length_map, List.getElem?_map]
      by_cases hij : j = i
      · subst hij
        have hjm : j < m.length := by omega
        rw [if_pos rfl, if_pos hjm, List.getElem?_eq_getElem hjm]
        have hk2 : m[j].1 = k := svj (by rw [← hat j hjm]; have := (List.getElem?_eq_some_iff.1 h2).2; rw [this]; exact h3)
        simp [hk2]
      · rw [if_neg hij]
        cases hmi : m[i]? with
        | none => rfl
        | some x =>
          have hne : x.1 ≠ k := by
            intro e2
            obtain ⟨hi, hxi⟩ := List.getElem?_eq_some_iff.1 hmi
            have hjm : j < m.length := by omega
            have hk2 : m[j].1 = k := svj (by rw [← hat j hjm]; have := (List.getElem?_eq_some_iff.1 h2).2; rw [this]; exact h3)
            have h1' : (m.map Prod.fst)[i]'(by simpa using hi) = (m.map Prod.fst)[j]'(by simpa using hjm) := by simp [hxi, e2, hk2]
            rcases Nat.lt_trichotomy i j with hl1 | hl1 | hl1
            · exact List.pairwise_iff_getElem.1 hm.keys i j _ _ hl1 h1'
            · exact hij hl1.symm
            · exact List.pairwise_iff_getElem.1 hm.keys j i _ _ hl1 h1'.symm
          simp [hne]
    · intro x hx
      rw [hmod] at hx
      obtain ⟨y, hy, hyb⟩ : ∃ y ∈ es.toList, y.born = x.born := by
        have h5 : x.born ∈ (es.toList.set j { e with key := sv k, val := v }).map (·.born) := List.mem_map.2 ⟨x, hx, rfl⟩
        rw [hborn] at h5
        obtain ⟨y, hy, hyb⟩ := List.mem_map.1 h5
        exact ⟨y, hy, hyb⟩
      rw [← hyb]
      exact hm.old y hy
    · intro x hx
      unfold setM at hx
      obtain ⟨y, hy, rfl⟩ := List.mem_map.1 hx
      have := hm.small y hy
      split <;> exact this
theorem run_store_map (ht : P.underlying t = some (.map kt et)) (hk : P.underlying kt = some .string) (h : MapAt w b m) {k : List UInt8} (hkl : k.length ≤ 1099511627776) (v : Value) :
    ∃ w', (Instr.mapUpdate t (.map (some b)) (sv k) v).run P w = .ok () w' ∧ MapAt w' b (putM m k v) ∧ Keeps (One b) w w' := by
  obtain ⟨es, clock, hb, hm⟩ := h
  obtain ⟨es', clock', h1, h2, h3, -⟩ := run_store_fine ht hk hb hm hkl v
  exact ⟨_, h1, ⟨es', clock', (heap_set hb).1, h2⟩, h3⟩
theorem MapAt.keeps {S : Nat → Prop} {w' : World} (h : MapAt w b m) (hk : Keeps S w w') (hn : ¬ S b) : MapAt w' b m := by
  obtain ⟨es, clock, hb, hm⟩ := h
  exact ⟨es, clock, (hk.block b (Array.getElem?_eq_some_iff.1 hb).1 hn).trans hb, hm⟩
theorem MapAt.lt (h : MapAt w b m) : b < w.heap.size := by
  obtain ⟨es, clock, hb, hm⟩ := h
  exact (Array.getElem?_eq_some_iff.1 hb).1
theorem MapAt.made (w : World) : MapAt (w.alloc (.map #[] 0)) w.heap.size [] := ⟨#[], 0, heap_alloc_new w _, ⟨rfl, by simp, by simp, by simp, by simp⟩⟩
theorem run_len_map (ht : P.underlying t = some (.map kt et)) (h : MapAt w b m) (ty : TypeId) : (Builtin.len_ #[t] ty #[.map (some b)]).run P w = .ok (.int .i64 m.length) w := by
  obtain ⟨es, clock, hb, hm⟩ := h
  have hml : m.length = es.size := by
    have := congrArg List.length hm.ents
    simpa using this.symm
  simp [Builtin.len_, run_underlying ht, MapKept.run_getObj_map hb, Result.andThen, hml, goInt]
end
end Go.Proofs.YtohbjbicmgnblaaDoor
