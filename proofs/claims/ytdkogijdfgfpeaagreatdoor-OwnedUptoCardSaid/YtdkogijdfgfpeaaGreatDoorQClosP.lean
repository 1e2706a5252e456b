/- Plain: what the document's Closure gathers and tells. -/
import Derived.Test.YtdkogijdfgfpeaaGreatDoorChecked
import Derived.Test.YtdkogijdfgfpeaaGreatDoorClosP
import Derived.Test.YtdkogijdfgfpeaaGreatDoorClosW
import Derived.Test.YtdkogijdfgfpeaaGreatDoorQStore
import Derived.Test.YtdkogijdfgfpeaaGreatDoorOwn
import Derived.Test.YtdkogijdfgfpeaaGreatDoorGet
import Derived.Test.YtdkogijdfgfpeaaGreatDoorStr
import Derived.Deep.RegionHeld3
namespace Go.Proofs.YtdkogijdfgfpeaaGreatDoor
open Go Go.RowKit
set_option linter.unusedVariables false

/-- the list of what is reached: the roots, and more; k of it gone over, and of the k-th j references -/
structure QAll (L : Ents) (roots ext : List (List UInt8)) (k j : Nat) : Prop where
  ents : ∀ p ∈ roots ++ ext, ∃ e ∈ L, e.path = p
  least : ∀ X, ShutX L X → (∀ r ∈ roots, X r) → ∀ p ∈ roots ++ ext, X p
  shut : ∀ i p, i < k → (roots ++ ext)[i]? = some p → ∀ e ∈ L, e.path = p → ∀ r ∈ e.refs, r ∈ roots ++ ext
  part : ∀ p, (roots ++ ext)[k]? = some p → ∀ e ∈ L, e.path = p → ∀ r ∈ e.refs.take j, r ∈ roots ++ ext
  once : ext.Nodup
theorem QAll.len {L : Ents} {roots ext : List (List UInt8)} {k j : Nat} (h : QAll L roots ext k j) : ext.length ≤ L.length := by
  have := nodup_len ext (L.map Ent.path) h.once fun p hp => by
    obtain ⟨e, he, hep⟩ := h.ents p (List.mem_append.2 (.inr hp))
    exact List.mem_map.2 ⟨e, he, hep⟩
  simpa using this
theorem QAll.start {L : Ents} {roots : List (List UInt8)} (h : ∀ r ∈ roots, (findE L r).isSome = true) : QAll L roots [] 0 0 :=
  ⟨fun p hp => by rw [List.append_nil] at hp; exact findE_isSome.1 (h p hp), fun X _ hr p hp => by rw [List.append_nil] at hp; exact hr p hp, fun i p hi => by omega, fun p _ e _ _ r hr => by simp at hr, by simp⟩
/-- a reference that is there already -/
theorem QAll.pass {L : Ents} {roots ext : List (List UInt8)} {k j : Nat} {e : Ent} {r : List UInt8} (h : QAll L roots ext k j) (hok : StoreOk L) (he : e ∈ L) (hk : (roots ++ ext)[k]? = some e.path) (hr : e.refs[j]? = some r) (hin : r ∈ roots ++ ext) : QAll L roots ext k (j + 1) := by
  refine ⟨h.ents, h.least, h.shut, fun p hp e' he' hep r' hr' => ?_, h.once⟩
  rw [hk, Option.some.injEq] at hp
  have := hok.uniq he' he (hep.trans hp.symm)
  subst this
  rw [List.take_add_one, hr, List.mem_append] at hr'
  rcases hr' with hr' | hr'
  · exact h.part _ hk e' he rfl r' hr'
  · simp only [Option.toList_some, List.mem_singleton] at hr'
    rw [hr']
    exact hin
/-- a reference that is new -/
theorem QAll.more {L : Ents} {roots ext : List (List UInt8)} {k j : Nat} {e : Ent} {r : List UInt8} (h : QAll L roots ext k j) (hok : StoreOk L) (he : e ∈ L) (hk : (roots ++ ext)[k]? = some e.path) (hr : e.refs[j]? = some r) (hin : r ∉ roots ++ ext) : QAll L roots (ext ++ [r]) k (j + 1) := by
  have hkl : k < (roots ++ ext).length := (List.getElem?_eq_some_iff.1 hk).1
  have hassoc : roots ++ (ext ++ [r]) = (roots ++ ext) ++ [r] := by simp
  have hrm := List.mem_of_getElem? hr
  have hsub : ∀ x, x ∈ roots ++ ext → x ∈ roots ++ (ext ++ [r]) := fun x hx => by rw [hassoc]; exact List.mem_append.2 (.inl hx)
  have hat : ∀ i, i ≤ k → (roots ++ (ext ++ [r]))[i]? = (roots ++ ext)[i]? := fun i hi => by rw [hassoc, List.getElem?_append_left (by omega)]
  refine ⟨fun p hp => ?_, fun X hs hX p hp => ?_, fun i p hi hp e' he' hep r' hr' => ?_, fun p hp e' he' hep r' hr' => ?_, ?_⟩
  · rw [hassoc] at hp
    rcases List.mem_append.1 hp with hp | hp
    · exact h.ents p hp
    · rw [List.mem_singleton.1 hp]
      exact findE_isSome.1 (hok.has e he r hrm)
  · rw [hassoc] at hp
    rcases List.mem_append.1 hp with hp | hp
    · exact h.least X hs hX p hp
    · rw [List.mem_singleton.1 hp]
      exact hs e he (h.least X hs hX _ (List.mem_of_getElem? hk)) r hrm
  · rw [hat i (by omega)] at hp
    exact hsub _ (h.shut i p hi hp e' he' hep r' hr')
  · rw [hat k (Nat.le_refl _)] at hp
    rw [hk, Option.some.injEq] at hp
    have := hok.uniq he' he (hep.trans hp.symm)
    subst this
    rw [List.take_add_one, hr, List.mem_append] at hr'
    rcases hr' with hr' | hr'
    · exact hsub _ (h.part _ hk e' he rfl r' hr')
    · simp only [Option.toList_some, List.mem_singleton] at hr'
      rw [hr', hassoc]
      simp
  · rw [List.nodup_append]
    exact ⟨h.once, by simp, fun a ha b hb e2 => hin (by rw [List.mem_singleton] at hb; rw [← hb, ← e2]; exact List.mem_append.2 (.inr ha))⟩
/-- one is gone over -/
theorem QAll.next {L : Ents} {roots ext : List (List UInt8)} {k j : Nat} {e : Ent} (h : QAll L roots ext k j) (hok : StoreOk L) (he : e ∈ L) (hk : (roots ++ ext)[k]? = some e.path) (hj : j = e.refs.length) : QAll L roots ext (k + 1) 0 := by
  subst hj
  refine ⟨h.ents, h.least, fun i p hi hp e' he' hep r' hr' => ?_, fun p _ e _ _ r hr => by simp at hr, h.once⟩
  by_cases hik : i < k
  · exact h.shut i p hik hp e' he' hep r' hr'
  · have : i = k := by omega
    subst this
    rw [hk, Option.some.injEq] at hp
    have := hok.uniq he' he (hep.trans hp.symm)
    subst this
    exact h.part _ hk e' he rfl r' (by rw [List.take_length]; exact hr')
/-- all is gone over: what is reached -/
theorem QAll.same {L : Ents} {roots ext K : List (List UInt8)} {k j : Nat} (h : QAll L roots ext k j) (hk : k = (roots ++ ext).length) (hR : ReachOf L roots K) (hok : StoreOk L) : closL L (roots ++ ext) = closL L K := by
  refine closF_same (fun p => ?_) _ _
  have h1 : p ∈ roots ++ ext ↔ p ∈ K := by
    constructor
    · exact h.least (· ∈ K) (fun e he hp r hr => by
        obtain ⟨e', he', hep, hre⟩ := hR.keys _ hp
        have := hok.uniq he' he hep
        subst this
        exact hre r hr) hR.has p
    · exact hR.least (· ∈ roots ++ ext) (fun e he hp r hr => by
        obtain ⟨i, hi, hip⟩ := List.getElem_of_mem hp
        exact h.shut i e.path (by omega) (by rw [List.getElem?_eq_getElem hi, hip]) e he rfl r hr) (fun r hr => List.mem_append.2 (.inl hr)) p
  rw [Bool.eq_iff_iff, List.contains_iff_mem, List.contains_iff_mem]
  exact h1
/-- the telling: out so far, i entries looked at in this round, none of them ready -/
structure QOut (L : Ents) (all out : List (List UInt8)) (i : Nat) : Prop where
  told : Told L all out
  clos : closL L all = closF L all (L.length + 1 - out.length) out
  seen : ∀ e ∈ L.take i, readyB L all out e = false
theorem QOut.start (L : Ents) (all : List (List UInt8)) : QOut L all [] 0 := ⟨Told.nil _ _, by simp [closL], by simp⟩
theorem QOut.pass {L : Ents} {all out : List (List UInt8)} {i : Nat} {e : Ent} (h : QOut L all out i) (he : L[i]? = some e) (hr : readyB L all out e = false) : QOut L all out (i + 1) := ⟨h.told, h.clos, fun e' he' => by
  rw [List.take_add_one, he, List.mem_append] at he'
  rcases he' with he' | he'
  · exact h.seen e' he'
  · simp only [Option.toList_some, List.mem_singleton] at he'
    rw [he']
    exact hr⟩
theorem QOut.tell {L : Ents} {all out : List (List UInt8)} {i : Nat} {e : Ent} (h : QOut L all out i) (he : L[i]? = some e) (hr : readyB L all out e = true) : QOut L all (out ++ [e.path]) 0 := by
  have hel := List.mem_of_getElem? he
  have hf : L.find? (readyB L all out) = some e := by
    obtain ⟨hi, hie⟩ := List.getElem?_eq_some_iff.1 he
    refine List.find?_eq_some_iff_append.2 ⟨hr, L.take i, L.drop (i + 1), ?_, fun y hy => by simp [h.seen y hy]⟩
    rw [← hie, ← List.drop_eq_getElem_cons hi, List.take_append_drop]
  refine ⟨h.told.step hel hr, ?_, by simp⟩
  rw [h.clos]
  obtain ⟨f, hf2⟩ : ∃ f, L.length + 1 - out.length = f + 1 := ⟨L.length - out.length, by have := toldc_len h.told; omega⟩
  rw [hf2, closF, hf]
  simp only [List.length_append, List.length_singleton]
  congr 1
  omega
theorem QOut.done {L : Ents} {all out : List (List UInt8)} {i : Nat} (h : QOut L all out i) (hi : i = L.length) : out = closL L all := by
  subst hi
  have hs := h.seen
  rw [List.take_length] at hs
  rw [h.clos]
  obtain ⟨f, hf2⟩ : ∃ f, L.length + 1 - out.length = f + 1 := ⟨L.length - out.length, by have := toldc_len h.told; omega⟩
  rw [hf2, closF, List.find?_eq_none.2 fun e he hr => by rw [hs e he] at hr; cases hr]
end Go.Proofs.YtdkogijdfgfpeaaGreatDoor
/- The document's store: Closure. -/
namespace Go.Proofs.YtdkogijdfgfpeaaGreatDoor
open Go Go.RowKit
set_option linter.unusedVariables false

/-- what Closure tells -/
def QClosPost (w : World) (L : Ents) (roots : List (List UInt8)) (ed : Ending) (w' : World) : Prop :=
  ((∃ r ∈ roots, findE L r = none) ∧ ed = .returned (.tuple #[.slice none 0 0, .int .i64 15]) ∧ Keeps Non w w') ∨
  ((∀ r ∈ roots, (findE L r).isSome = true) ∧ ∀ K, ReachOf L roots K → ∃ v, ed = .returned (.tuple #[v, .int .i64 0]) ∧ Sl w' w.heap.size 9 1 v (closL L K).length (svs (closL L K)) ∧ Keeps Non w w')
set_option maxHeartbeats 3200000 in
set_option maxRecDepth 100000 in
theorem rclosure_any {G : Nat → Prop} {r : Nat} {L : Ents} (w : World) (h : QAt w G r L) (hok : StoreOk L) (hfl : ∀ e ∈ L, EntFit e) (roots : List (List UInt8)) (vr : Value) (hr : Rd w 1 vr roots.length (svs roots)) (hrl : roots.length ≤ 1099511627776) :
    Calls Tryz.prog 67 #[pv r, vr] w (QClosPost w L roots) := by
  obtain ⟨vq, T, g1, g2⟩ := h.mem
  obtain ⟨qa, qc, rfl, hq1, hq2⟩ := g2.sl.shape
  have HQL := Lib.hid g2
  have HBR := Lib.hid g1
  have HTL : Hid (T.length = L.length) := g2.len
  have HOK := Lib.hid hok
  have HFL := Lib.hid hfl
  have HR := Lib.hid hr
  have ht10 : T.length ≤ 10 := by have := g2.len; have := hok.ten; omega
  obtain ⟨va, vc, rfl, hc1, hc2⟩ := hr.shape
  unfold maxLen at hq2 hc2
  clear h hok hfl hr g1 g2
  unfold pv
  go_enter Tryz.func67, Tryz.ntmps67
  go_wp2_with fail
  go_loopg [6, 21] roots.length (fun gk av iv wr => ∃ k : Nat, gk = roots.length - k ∧ k ≤ roots.length ∧ iv = .int .i64 k ∧ Hid (Keeps Non w wr) ∧ Hid (∀ x ∈ roots.take k, (findE L x).isSome = true) ∧ Hid (Sl wr w.heap.size 9 1 av k (svs (roots.take k))))
  case atStart => exact ⟨0, rfl, Nat.zero_le _, rfl, Keeps.refl _ _, by show ∀ x ∈ _, _; simp, Sl.nil _ _ _ _⟩
  case round =>
    obtain ⟨k, rfl, hk, rfl, HK, HF, HA⟩ := hrel
    obtain ⟨aa, ac, rfl, -, -⟩ := HA.out.shape
    by_cases hlt : k < roots.length
    · have cr := (HBR.out.keeps HK.out fun h => h).cell 0
      simp only [List.getElem?_toArray, List.getElem?_cons_zero] at cr
      obtain ⟨b, off, cp, hsh, -, -, -, hbl, hc, -⟩ := (HR.out.non HK.out).pos (by omega)
      cases hsh
      have d0 : wr.cell? ⟨b, off + k, none⟩ = some (sv roots[k]) := (hc k (by omega)).trans (svs_get roots k hlt)
      have HX : Hid (roots[k]? = some roots[k] ∧ roots[k] ∈ roots) := ⟨List.getElem?_eq_getElem hlt, List.getElem_mem _⟩
      clear hc
      generalize roots[k] = x at *
      unfold sv at d0
      have HAT0 := (HQL.out.non HK.out).at ⟨x.toArray⟩
      rcases idxL_find L x with ⟨hf, hi⟩ | ⟨i, e, -, -, -, hi, -, hf⟩
      · have HFN := Lib.hid hf
        have hi2 : idxL (L.map Ent.path) (⟨x.toArray⟩ : ByteArray).data.toList = -1 := hi
        rw [hi2] at HAT0
        have HAT := Lib.hid HAT0
        clear HAT0 hi hi2 hf
        go_wp2_with fail
        refine HAT.out.mono ?_
        rintro ed w6 ⟨rfl, hk6⟩
        have HK6 : Hid (Keeps Non w w6) := HK.out.trans hk6 fun _ h => h.elim
        clear hk6 cr d0
        go_wp2_with fail
        refine bodyPost_ret (v := .tuple #[.slice none 0 0, .int .i64 15]) (by simp [results, Tryz.results67, go_sem]) rfl ?_
        exact .inl ⟨⟨x, HX.out.2, HFN.out⟩, rfl, HK6.out⟩
      · have HFN := Lib.hid hf
        have hi2 : idxL (L.map Ent.path) (⟨x.toArray⟩ : ByteArray).data.toList = (i : Int) := hi
        rw [hi2] at HAT0
        have HAT := Lib.hid HAT0
        have dn : decide ((i : Int) < 0) = false := decide_eq_false (by omega)
        clear HAT0 hi hi2 hf
        go_wp2_with fail
        refine HAT.out.mono ?_
        rintro ed w6 ⟨rfl, hk6⟩
        have HK6 : Hid (Keeps Non w w6) := HK.out.trans hk6 fun _ h => h.elim
        have HA6 := Lib.hid (HA.out.keep fun b c _ _ hbk => hbk.keeps hk6 fun h => h)
        clear hk6 cr d0
        obtain ⟨i1, hj, hj0, hj1, hj2⟩ := info_parts infoStr
        have hsl := HA6.out
        have hsz := HK6.out.size
        go_wp2_with (at_builtin; refine wpList_append_own2 rfl _ _ 26 26 rfl 9 i1 _ 1 16 Tryz.underlying26 hj hj0 hj1 hj2 rfl w.heap.size _ _ _ rfl _ rfl 1 (svs [x]) ?d11 (hsl.alloc _) ?d12 ?d13 ?d14 ?_)
        try (case d11 => simp; omega)
        case d12 => exact Src.ofSl Tryz.underlying26 (Sl.of_new w6 0 (Nat.zero_le _) 9 1 1 [.string ⟨x.toArray⟩] rfl (by simp [maxLen])) (by intro u hu; simp only [svs, sv, List.map, List.mem_cons, List.not_mem_nil, or_false] at hu; subst hu; rfl)
        case d13 => unfold maxLen; omega
        case d14 => omega
        intro ao cc w8 hs8 hk8 hkk8 hb8
        have HS8 : Hid (Sl w8 w.heap.size 9 1 (.slice ao (k + 1) cc) (k + 1) (svs (roots.take (k + 1)))) := by
          show Sl _ _ _ _ _ _ _
          have : svs (roots.take (k + 1)) = svs (roots.take k) ++ svs [x] := by
            rw [List.take_add_one, HX.out.1]
            simp [svs]
          rw [this]
          exact hs8
        have HK8 : Hid (Keeps Non w w8) := (HK6.out.alloc _).trans hkk8 fun j hj => .inr (hsl.own j hj).1
        clear hs8 hk8 hkk8 hb8 hsl hsz hj hj0 hj1 hj2
        go_wp2_with fail
        go_roundg (roots.length - (k + 1))
        case measure => omega
        case rel =>
          refine ⟨k + 1, rfl, by omega, by go_num, HK8, ?_, HS8⟩
          show ∀ y ∈ _, _
          intro y hy
          rw [List.take_add_one, HX.out.1, List.mem_append] at hy
          rcases hy with hy | hy
          · exact HF.out y hy
          · simp only [Option.toList_some, List.mem_singleton] at hy
            rw [hy]
            exact HFN.out
    · have hk2 : roots.length = k := by omega
      subst hk2
      have HALL : Hid (∀ x ∈ roots, (findE L x).isSome = true) := by
        have h1 := HF.out
        rw [List.take_length] at h1
        exact h1
      have HQ0 := Lib.hid (QAll.start HALL.out)
      have HS0 : Hid (Sl wr w.heap.size 9 1 (.slice aa roots.length ac) (roots ++ []).length (svs (roots ++ []))) := by
        have h1 := HA.out
        rw [List.take_length] at h1
        show Sl _ _ _ _ _ _ _
        rw [List.append_nil]
        exact h1
      clear HF HA
      go_wp2_with fail
      go_loopg [6, 9] (roots.length + L.length + 1) (fun gk av iv wr => ∃ (k : Nat) (ext : List (List UInt8)), gk = roots.length + L.length + 1 - k ∧ k ≤ (roots ++ ext).length ∧ iv = .int .i64 k ∧ Hid (Keeps Non w wr) ∧ Hid (QAll L roots ext k 0) ∧ Hid (Sl wr w.heap.size 9 1 av (roots ++ ext).length (svs (roots ++ ext))))
      case atStart => exact ⟨0, [], rfl, Nat.zero_le _, rfl, HK, HQ0, HS0⟩
      case round =>
        clear HK HQ0 HS0
        obtain ⟨k, ext, rfl, hk, rfl, HK, HQA, HA⟩ := hrel
        have hel10 := HQA.out.len
        have hall : (roots ++ ext).length = roots.length + ext.length := by simp
        obtain ⟨al, hal⟩ : ∃ al, al = (roots ++ ext).length := ⟨_, rfl⟩
        rw [← hal] at HA hk
        obtain ⟨aa, ac, rfl, -, -⟩ := HA.out.shape
        by_cases hlt : k < al
        · have hlt' : k < (roots ++ ext).length := by omega
          obtain ⟨p, hp⟩ : ∃ p, (roots ++ ext)[k]? = some p := ⟨_, List.getElem?_eq_getElem hlt'⟩
          have hpm := List.mem_of_getElem? hp
          obtain ⟨e, hel, hep⟩ := HQA.out.ents p hpm
          subst hep
          have HP := Lib.hid hp
          have HEL := Lib.hid hel
          have hfe : findE L e.path ≠ none := fun hf => findE_none.1 hf e hel rfl
          rcases idxL_find L e.path with ⟨hf, -⟩ | ⟨i, e', hLi, hel', hep', hi, hil, -⟩
          · exact absurd hf hfe
          have := HOK.out.uniq hel' hel hep'
          subst this
          have hQ := HQL.out.non HK.out
          have hiT : i < T.length := by rw [HTL.out]; exact hil
          obtain ⟨x, hx⟩ : ∃ x, T[i]? = some x := ⟨_, List.getElem?_eq_getElem hiT⟩
          have hX := hQ.ents i e' x hLi hx
          obtain ⟨b, off, cp, hsh, -, -, -, hbl, hcc, -⟩ := hQ.rd.pos (by omega)
          cases hsh
          obtain ⟨t1, t2, t3⟩ := trip_at T i x hx
          have c2 := (hcc (i * 3 + 2) (by omega)).trans t3
          obtain ⟨x0, x1, x2⟩ := x
          simp only at c2
          obtain ⟨xa2, xc2, hx2, hxc1, hxc2⟩ := hX.refs.shape
          simp only at hx2
          subst hx2
          unfold maxLen at hxc2
          have hL10 : L.length ≤ 10 := HOK.out.ten
          rw [← Nat.add_assoc] at c2
          obtain ⟨ab, ao, ac', hsh, -, -, -, hal1, hac, -⟩ := HA.out.rd.pos (by omega)
          cases hsh
          have c3 : wr.cell? ⟨ab, ao + k, none⟩ = some (sv e'.path) := (hac k (by omega)).trans (by simp only [svs, List.getElem?_map, hp]; rfl)
          unfold sv at c3
          have hr0 := HBR.out.keeps HK.out fun h => h
          have HCC : Hid (∀ wx, Keeps Non wr wx → wx.cell? ⟨r, 0, none⟩ = some (.slice (some ⟨b, off, none⟩) T.length qc) ∧ wx.cell? ⟨b, off + i * 3 + 2, none⟩ = some (.slice xa2 e'.refs.length xc2) ∧ wx.cell? ⟨ab, ao + k, none⟩ = some (.string ⟨e'.path.toArray⟩)) := fun wx hk => by
            have h1 := (hr0.keeps hk fun h => h).cell 0
            simp only [List.getElem?_toArray, List.getElem?_cons_zero] at h1
            refine ⟨h1, ?_, ?_⟩
            · rw [World.cell?, hk.block b hbl fun h => h]
              exact c2
            · rw [World.cell?, hk.block ab hal1 fun h => h]
              exact c3
          have HAT : Hid (∀ wx, Keeps Non wr wx → Calls Tryz.prog 98 #[.slice (some ⟨b, off, none⟩) T.length qc, .string ⟨e'.path.toArray⟩] wx fun ed w' => ed = .returned (.int .i64 (i : Int)) ∧ Keeps Non wx w') := fun wx hk => by
            have h1 := (hQ.non hk).at ⟨e'.path.toArray⟩
            have h2 : idxL (L.map Ent.path) (⟨e'.path.toArray⟩ : ByteArray).data.toList = (i : Int) := hi
            rw [h2] at h1
            exact h1
          have HRF : Hid (Rd w 1 (.slice xa2 e'.refs.length xc2) e'.refs.length (svs e'.refs)) := (HQL.out.ents i e' _ hLi hx).refs
          have HFR := Lib.hid (HFL.out e' hel)
          obtain ⟨q0, q1, q2⟩ := HCC.out wr (Keeps.refl _ _)
          have p1 : (0 : Int) ≤ (i : Int) := by omega
          have p2 : (i : Int) < (T.length : Int) := by omega
          have p3 : (0 : Int) ≤ (k : Int) := by omega
          have p4 : (k : Int) < (al : Int) := by omega
          have HAL := Lib.hid hal
          clear hQ hX hcc t1 t2 t3 c2 c3 hac hr0 hx hLi hel' hep' hi hfe hel hp hpm hal hall hlt'
          go_upto_region 12 with (fail)
          have hc : Keeps Non wr wr := Keeps.refl _ _
          go_region_held3 (fun w' => w'.cell? ⟨r, 0, none⟩ = some (.slice (some ⟨b, off, none⟩) T.length qc) ∧ w'.cell? ⟨b, off + i * 3 + 2, none⟩ = some (.slice xa2 e'.refs.length xc2) ∧ w'.cell? ⟨ab, ao + k, none⟩ = some (.string ⟨e'.path.toArray⟩)) (first | exact ⟨q0, q1, q2⟩ | exact HCC.out _ hc | exact HCC.out _ hc.drew) (first
            | (go_at_call 98
               refine (HAT.out _ (by first | exact hc | exact hc.drew)).mono ?_
               rintro ed w' ⟨rfl, hk⟩
               replace hc := Keeps.tn hc (by first | exact hk | exact hk.un)
               clear hk
               obtain ⟨q0, q1, q2⟩ := HCC.out _ hc))
          have HC6 := Lib.hid hc
          clear hc q0 q1 q2 HAT HCC p1 p2 p3 p4
          generalize w' = w6 at *
          have HK6 : Hid (Keeps Non w w6) := HK.out.tn HC6.out
          have HA6 : Hid (Sl w6 w.heap.size 9 1 (.slice (some ⟨ab, ao, none⟩) al ac) (roots ++ ext).length (svs (roots ++ ext))) := by
            have h1 := HA.out.keep fun b c _ _ hbk => hbk.keeps HC6.out fun h => h
            rw [← HAL.out]
            exact h1
          go_wp2_with fail
          go_loopg [6, 60] e'.refs.length (fun gk av iv wq => ∃ (j : Nat) (ext' : List (List UInt8)), gk = e'.refs.length - j ∧ j ≤ e'.refs.length ∧ iv = .int .i64 j ∧ Hid (Keeps Non w wq) ∧ Hid (QAll L roots ext' k j ∧ (roots ++ ext')[k]? = some e'.path) ∧ Hid (Sl wq w.heap.size 9 1 av (roots ++ ext').length (svs (roots ++ ext'))))
          case atStart => exact ⟨0, ext, rfl, Nat.zero_le _, rfl, HK6, ⟨HQA.out, HP.out⟩, HA6⟩
          case round =>
            obtain ⟨j, ext', rfl, hj, rfl, HKq, HQq, HAq⟩ := hrel
            obtain ⟨ql, hql⟩ : ∃ ql, ql = (roots ++ ext').length := ⟨_, rfl⟩
            rw [← hql] at HAq
            obtain ⟨aq, cq, rfl, hcq1, hcq2⟩ := HAq.out.shape
            have hql2 : ql ≤ roots.length + 10 := by
              have h1 := HQq.out.1.len
              have h2 := HOK.out.ten
              rw [hql, List.length_append]
              omega
            have HQL2 := Lib.hid hql
            clear hql
            by_cases hjl : j < e'.refs.length
            · obtain ⟨fb', fo, fc, hsh, -, -, -, hfb, hfc, -⟩ := (HRF.out.non HKq.out).pos (by omega)
              cases hsh
              have d0 := (hfc j (by omega)).trans (svs_get e'.refs j hjl)
              have HX : Hid (e'.refs[j]? = some e'.refs[j]) := List.getElem?_eq_getElem hjl
              clear hfc
              generalize e'.refs[j] = x at *
              unfold sv at d0
              have HIN0 := rin_any (roots ++ ext') (.slice aq ql cq) ⟨x.toArray⟩ wr (by rw [← HQL2.out]; exact HAq.out.rd)
              by_cases hin : x ∈ roots ++ ext'
              · have HIN : Hid (Calls Tryz.prog 103 #[.slice aq ql cq, .string ⟨x.toArray⟩] wr fun ed w' => ed = .returned (.bool true) ∧ wr = w') := HIN0.mono (by rintro ed w' ⟨rfl, rfl⟩; exact ⟨bool_ret (decide_eq_true (by simpa using hin)), rfl⟩)
                have HQ2 := Lib.hid (HQq.out.1.pass HOK.out HEL.out HQq.out.2 HX.out hin)
                clear HIN0 hin
                go_wp2_with fail
                refine HIN.out.mono ?_
                rintro ed w9 ⟨rfl, rfl⟩
                go_wp2_with fail
                go_roundg (e'.refs.length - (j + 1))
                case measure => omega
                case rel => exact ⟨j + 1, ext', rfl, by omega, by go_num, HKq, ⟨HQ2.out, HQq.out.2⟩, by rw [← HQL2.out]; exact HAq⟩
              · have HIN : Hid (Calls Tryz.prog 103 #[.slice aq ql cq, .string ⟨x.toArray⟩] wr fun ed w' => ed = .returned (.bool false) ∧ wr = w') := HIN0.mono (by rintro ed w' ⟨rfl, rfl⟩; exact ⟨bool_ret (decide_eq_false (by simpa using hin)), rfl⟩)
                have HQ2 := Lib.hid (HQq.out.1.more HOK.out HEL.out HQq.out.2 HX.out hin)
                have HP2 : Hid ((roots ++ (ext' ++ [x]))[k]? = some e'.path) := by
                  show _ = _
                  rw [← List.append_assoc, List.getElem?_append_left (List.getElem?_eq_some_iff.1 HQq.out.2).1]
                  exact HQq.out.2
                clear HIN0 hin
                go_wp2_with fail
                refine HIN.out.mono ?_
                rintro ed w9 ⟨rfl, rfl⟩
                obtain ⟨i1, hj, hj0, hj1, hj2⟩ := info_parts infoStr
                have hsl := HAq.out
                have hsz := HKq.out.size
                go_wp2_with (at_builtin; refine wpList_append_own2 rfl _ _ 26 26 rfl 9 i1 _ 1 16 Tryz.underlying26 hj hj0 hj1 hj2 rfl w.heap.size _ _ _ rfl _ rfl 1 (svs [x]) ?d21 (hsl.alloc _) ?d22 ?d23 ?d24 ?_)
                try (case d21 => simp; omega)
                case d22 => exact Src.ofSl Tryz.underlying26 (Sl.of_new wr 0 (Nat.zero_le _) 9 1 1 [.string ⟨x.toArray⟩] rfl (by simp [maxLen])) (by intro u hu; simp only [svs, sv, List.map, List.mem_cons, List.not_mem_nil, or_false] at hu; subst hu; rfl)
                case d23 => unfold maxLen; omega
                case d24 => omega
                intro ao9 cc9 w8 hs8 hk8 hkk8 hb8
                have HS8 : Hid (Sl w8 w.heap.size 9 1 (.slice ao9 (ql + 1) cc9) (roots ++ (ext' ++ [x])).length (svs (roots ++ (ext' ++ [x])))) := by
                  show Sl _ _ _ _ _ _ _
                  rw [← List.append_assoc, List.length_append, ← HQL2.out, show svs ((roots ++ ext') ++ [x]) = svs (roots ++ ext') ++ svs [x] by simp [svs]]
                  exact hs8
                have HK8 : Hid (Keeps Non w w8) := (HKq.out.alloc _).trans hkk8 fun j hj => .inr (hsl.own j hj).1
                clear hs8 hk8 hkk8 hb8 hsl hsz hj0 hj1 hj2
                go_wp2_with fail
                go_roundg (e'.refs.length - (j + 1))
                case measure => omega
                case rel => exact ⟨j + 1, ext' ++ [x], rfl, by omega, by go_num, HK8, ⟨HQ2.out, HP2.out⟩, HS8⟩
            · have hj2 : j = e'.refs.length := by omega
              have HQ2 := Lib.hid (HQq.out.1.next HOK.out HEL.out HQq.out.2 hj2)
              have hkl : k < (roots ++ ext').length := (List.getElem?_eq_some_iff.1 HQq.out.2).1
              have hkb : k < roots.length + L.length := by
                have h1 := HQq.out.1.len
                rw [List.length_append] at hkl
                omega
              have HKZ : Hid (Keeps Non w wr) := HKq
              have d9 : ¬ j < e'.refs.length := hjl
              have HAZ : Hid (Sl wr w.heap.size 9 1 (.slice aq ql cq) (roots ++ ext').length (svs (roots ++ ext'))) := by rw [← HQL2.out]; exact HAq
              have HJ2 := Lib.hid hj2
              clear hj2 hql2
              go_wp2_with fail
              go_roundg (roots.length + L.length + 1 - (k + 1))
              case measure => omega
              case rel => exact ⟨k + 1, ext', by omega, hkl, by go_num, HKZ, HQ2, HAZ⟩
        · have hkal : k = (roots ++ ext).length := by omega
          have HSAME : Hid (∀ K, ReachOf L roots K → closL L (roots ++ ext) = closL L K) := fun K hK => HQA.out.same hkal hK HOK.out
          have hA2 : Sl wr w.heap.size 9 1 (.slice aa al ac) al (svs (roots ++ ext)) := HA.out
          clear hall hel10 HQA hkal HA
          generalize roots ++ ext = A at *
          have HAL := Lib.hid hal
          have HA := Lib.hid hA2
          clear hal hA2 hk
          go_wp2_with fail
          go_loopg [12, 13] (2 * L.length + 3) (fun gk ov uv wr => ∃ (out : List (List UInt8)) (i ol : Nat) (u : Bool), gk = 2 * (L.length + 1 - out.length) + (if u = true then 1 else 0) ∧ uv = .bool u ∧ Hid (ol = out.length) ∧ Hid (QOut L A out i ∧ (u = true → i = 0) ∧ (u = false → i = L.length)) ∧ Hid (Keeps Non w wr) ∧ Hid (Sl wr w.heap.size 9 1 (.slice aa al ac) al (svs A)) ∧ Hid (Sl wr w.heap.size 9 1 ov ol (svs out)) ∧ Hid (∀ b, ov.ownBlock = some b → (Value.slice aa al ac).ownBlock ≠ some b))
          case atStart =>
            refine ⟨[], 0, 0, true, by simp; omega, rfl, rfl, ⟨QOut.start _ _, fun _ => rfl, fun h => by cases h⟩, HK, HA, Sl.nil _ _ _ _, ?_⟩
            intro b hb
            cases hb
          case round =>
            clear HK HA
            obtain ⟨out, i, ol, u, rfl, rfl, HOLN, HQO, HK, HA, HO, HDJ⟩ := hrel
            obtain ⟨oa, oc, rfl, -, -⟩ := HO.out.shape
            cases u with
            | false =>
              have hclos := HQO.out.1.done (HQO.out.2.2 rfl)
              have HCL := Lib.hid hclos
              clear hclos
              go_wp2_with fail
              refine bodyPost_ret (v := .tuple #[.slice oa ol oc, .int .i64 0]) (by simp [results, Tryz.results67, go_sem]) rfl ?_
              refine .inr ⟨HALL.out, fun K hK => ⟨_, rfl, ?_, HK.out⟩⟩
              have h1 := HO.out
              rw [HOLN.out, HCL.out, HSAME.out K hK] at h1
              have h2 : (Value.slice oa ol oc) = .slice oa (closL L K).length oc := by rw [HOLN.out, HCL.out, HSAME.out K hK]
              rw [h2]
              exact h1
            | true =>
              have HQ0 : Hid (QOut L A out 0) := by
                have h1 := HQO.out.1
                rw [HQO.out.2.1 rfl] at h1
                exact h1
              have cr := (HBR.out.keeps HK.out fun h => h).cell 0
              simp only [List.getElem?_toArray, List.getElem?_cons_zero] at cr
              have HLL : Hid (out.length ≤ L.length) := toldc_len HQ0.out.told
              clear HQO
              go_wp2_with fail
              go_loopg [12, 13, 79] T.length (fun gk ov uv iv wr => ov = .slice oa ol oc ∧ uv = .bool false ∧ ∃ i : Nat, gk = T.length - i ∧ i ≤ T.length ∧ iv = .int .i64 i ∧ Hid (QOut L A out i) ∧ Hid (Keeps Non w wr) ∧ Hid (Sl wr w.heap.size 9 1 (.slice aa al ac) al (svs A)) ∧ Hid (Sl wr w.heap.size 9 1 (.slice oa ol oc) ol (svs out)))
              case atStart => exact ⟨rfl, rfl, 0, rfl, Nat.zero_le _, rfl, HQ0, HK, HA, HO⟩
              case round =>
                clear HQ0 HK HA HO cr
                obtain ⟨rfl, rfl, i, rfl, hi, rfl, HQ0, HK, HA, HO⟩ := hrel
                by_cases hlt : i < T.length
                · have hQ := HQL.out.non HK.out
                  obtain ⟨x, hx⟩ : ∃ x, T[i]? = some x := ⟨_, List.getElem?_eq_getElem hlt⟩
                  obtain ⟨e, he⟩ : ∃ e, L[i]? = some e := ⟨_, List.getElem?_eq_getElem (by rw [← HTL.out]; exact hlt)⟩
                  have hX := hQ.ents i e x he hx
                  obtain ⟨b, off, cp, hsh, -, -, -, hbl, hcc, -⟩ := hQ.rd.pos (by omega)
                  cases hsh
                  obtain ⟨t1, t2, t3⟩ := trip_at T i x hx
                  have c0 := (hcc (i * 3) (by omega)).trans t1
                  have c1 := (hcc (i * 3 + 1) (by omega)).trans t2
                  have c2 := (hcc (i * 3 + 2) (by omega)).trans t3
                  obtain ⟨x0, x1, x2⟩ := x
                  have hp0 := hX.path
                  simp only at hp0 c0 c1 c2
                  subst hp0
                  obtain ⟨xa1, xc1, hx1, -, -⟩ := hX.tree.shape
                  obtain ⟨xa2, xc2, hx2, hxc1, hxc2⟩ := hX.refs.shape
                  simp only at hx1 hx2
                  subst hx1 hx2
                  unfold maxLen at hxc2
                  rw [← Nat.add_assoc] at c1 c2
                  unfold sv at c0
                  have HE := Lib.hid he
                  have HRF : Hid (Rd w 1 (.slice xa2 e.refs.length xc2) e.refs.length (svs e.refs)) := (HQL.out.ents i e _ he hx).refs
                  have HINA : Hid (∀ wx, Keeps Non wr wx → Calls Tryz.prog 103 #[.slice aa al ac, .string ⟨e.path.toArray⟩] wx fun ed w' => ed = .returned (.bool (decide (e.path ∈ A))) ∧ wx = w') := fun wx hk => by
                    have h1 := rin_any A (.slice aa al ac) ⟨e.path.toArray⟩ wx (by rw [← HAL.out]; exact HA.out.rd.non hk)
                    simpa using h1
                  have HINO : Hid (∀ (y : List UInt8) wx, Keeps Non wr wx → Calls Tryz.prog 103 #[.slice oa ol oc, .string ⟨y.toArray⟩] wx fun ed w' => ed = .returned (.bool (decide (y ∈ out))) ∧ wx = w') := fun y wx hk => by
                    have h1 := rin_any out (.slice oa ol oc) ⟨y.toArray⟩ wx (by rw [← HOLN.out]; exact HO.out.rd.non hk)
                    simpa using h1
                  clear hQ hX hcc t1 t2 t3 hx he
                  go_upto_region 25 with (fail)
                  have hkz : Keeps Non wr (wr.alloc (.cells #[.string ⟨e.path.toArray⟩, .slice xa1 e.tree.length xc1, .slice xa2 e.refs.length xc2] 165)) := (Keeps.refl _ _).alloc _
                  have hbz := Blk.new wr #[.string ⟨e.path.toArray⟩, .slice xa1 e.tree.length xc1, .slice xa2 e.refs.length xc2] 165
                  obtain ⟨wz, hwz⟩ : ∃ wz, wz = wr.alloc (.cells #[.string ⟨e.path.toArray⟩, .slice xa1 e.tree.length xc1, .slice xa2 e.refs.length xc2] 165) := ⟨_, rfl⟩
                  obtain ⟨z, hz⟩ : ∃ z, z = wr.heap.size := ⟨_, rfl⟩
                  rw [← hwz] at hkz hbz
                  rw [← hz] at hbz
                  rw [← hwz, ← hz]
                  have HKZ : Hid (Keeps Non w wz) := HK.out.tn hkz
                  have HAZ := Lib.hid (HA.out.keep fun b c _ _ hbk => hbk.keeps hkz fun h => h)
                  have HOZ := Lib.hid (HO.out.keep fun b c _ _ hbk => hbk.keeps hkz fun h => h)
                  have HBZ := Lib.hid hbz
                  have HIA := Lib.hid (HINA.out wz hkz)
                  have HIO := Lib.hid (fun y => HINO.out y wz hkz)
                  have z0 := hbz.cell 0
                  have z2 := hbz.cell 2
                  simp only [List.getElem?_toArray, List.getElem?_cons_zero, List.getElem?_cons_succ] at z0 z2
                  clear hwz hz hkz hbz HINA HINO HK HA HO c0 c1 c2
                  by_cases hinA : e.path ∈ A
                  · have HI1 : Hid (Calls Tryz.prog 103 #[.slice aa al ac, .string ⟨e.path.toArray⟩] wz fun ed w' => ed = .returned (.bool true) ∧ wz = w') := HIA.out.mono (by rintro ed w' ⟨rfl, rfl⟩; exact ⟨bool_ret (decide_eq_true hinA), rfl⟩)
                    have HMA := Lib.hid hinA
                    clear hinA HIA
                    by_cases hinO : e.path ∈ out
                    · have HI2 : Hid (Calls Tryz.prog 103 #[.slice oa ol oc, .string ⟨e.path.toArray⟩] wz fun ed w' => ed = .returned (.bool true) ∧ wz = w') := (HIO.out e.path).mono (by rintro ed w' ⟨rfl, rfl⟩; exact ⟨bool_ret (decide_eq_true hinO), rfl⟩)
                      have HNR : Hid (readyB L A out e = false) := by
                        cases hrd : readyB L A out e with
                        | false => rfl
                        | true => exact absurd hinO (ready_iff.1 hrd).2.1
                      clear hinO
                      go_wp2_with fail
                      refine HI1.out.mono ?_
                      rintro ed w9 ⟨rfl, rfl⟩
                      go_wp2_with fail
                      refine HI2.out.mono ?_
                      rintro ed w9 ⟨rfl, rfl⟩
                      go_wp2_with fail
                      go_roundg (T.length - (i + 1))
                      case measure => omega
                      case rel => exact ⟨rfl, rfl, i + 1, rfl, by omega, by go_num, HQ0.out.pass HE.out HNR.out, HKZ, HAZ, HOZ⟩
                    · have HI2 : Hid (Calls Tryz.prog 103 #[.slice oa ol oc, .string ⟨e.path.toArray⟩] wz fun ed w' => ed = .returned (.bool false) ∧ wz = w') := (HIO.out e.path).mono (by rintro ed w' ⟨rfl, rfl⟩; exact ⟨bool_ret (decide_eq_false hinO), rfl⟩)
                      have HMO : Hid (e.path ∉ out) := hinO
                      clear hinO
                      go_wp2_with fail
                      refine HI1.out.mono ?_
                      rintro ed w9 ⟨rfl, rfl⟩
                      go_wp2_with fail
                      refine HI2.out.mono ?_
                      rintro ed w9 ⟨rfl, rfl⟩
                      go_wp2_with fail
                      go_loopg [16, 97] e.refs.length (fun gk uv iv wq => ∃ (j : Nat) (o : Bool), gk = e.refs.length - j ∧ j ≤ e.refs.length ∧ uv = .bool o ∧ iv = .int .i64 j ∧ wz = wq ∧ Hid (o = true ↔ ∀ y ∈ e.refs.take j, y = e.path ∨ y ∈ out))
                      case atStart => exact ⟨0, true, rfl, Nat.zero_le _, rfl, rfl, rfl, by show _ ↔ _; simp⟩
                      case round =>
                        obtain ⟨j, o, rfl, hj, rfl, rfl, rfl, HOO⟩ := hrel
                        by_cases hjl : j < e.refs.length
                        · obtain ⟨fb', fo, fc, hsh, -, -, -, hfb, hfc, -⟩ := (HRF.out.non HKZ.out).pos (by omega)
                          cases hsh
                          have d0 := (hfc j (by omega)).trans (svs_get e.refs j hjl)
                          have HX : Hid (e.refs[j]? = some e.refs[j]) := List.getElem?_eq_getElem hjl
                          clear hfc
                          generalize e.refs[j] = y at *
                          unfold sv at d0
                          have HSTEP : Hid (∀ o2 : Bool, (o2 = true ↔ o = true ∧ (y = e.path ∨ y ∈ out)) → (o2 = true ↔ ∀ q ∈ e.refs.take (j + 1), q = e.path ∨ q ∈ out)) := fun o2 h2 => by
                            rw [h2, HOO.out, List.take_add_one, HX.out]
                            constructor
                            · rintro ⟨h3, h4⟩ q hq
                              rcases List.mem_append.1 hq with hq | hq
                              · exact h3 q hq
                              · simp only [Option.toList_some, List.mem_singleton] at hq
                                rw [hq]; exact h4
                            · intro h3
                              exact ⟨fun q hq => h3 q (List.mem_append.2 (.inl hq)), h3 y (by simp)⟩
                          cases o with
                          | false =>
                            have HS2 : Hid (false = true ↔ ∀ q ∈ e.refs.take (j + 1), q = e.path ∨ q ∈ out) := HSTEP.out false (by simp)
                            go_wp2_with fail
                            go_roundg (e.refs.length - (j + 1))
                            case measure => omega
                            case rel => exact ⟨j + 1, false, rfl, by omega, rfl, by go_num, rfl, HS2⟩
                          | true =>
                            by_cases hye : y = e.path
                            · have hb0 : (y == e.path) = true := by rw [hye]; exact beq_self_eq_true _
                              have HS2 : Hid (true = true ↔ ∀ q ∈ e.refs.take (j + 1), q = e.path ∨ q ∈ out) := HSTEP.out true (by simp [hye])
                              clear hye
                              go_wp2_with fail
                              go_roundg (e.refs.length - (j + 1))
                              case measure => omega
                              case rel => exact ⟨j + 1, true, rfl, by omega, rfl, by go_num, rfl, by show true = true ↔ _; exact ⟨fun _ => HS2.out.1 (by trivial), fun _ => rfl⟩⟩
                            · have hb0 : (y == e.path) = false := by rw [beq_eq_false_iff_ne]; exact hye
                              by_cases hyo : y ∈ out
                              · have HI3 : Hid (Calls Tryz.prog 103 #[.slice oa ol oc, .string ⟨y.toArray⟩] wz fun ed w' => ed = .returned (.bool true) ∧ wz = w') := (HIO.out y).mono (by rintro ed w' ⟨rfl, rfl⟩; exact ⟨bool_ret (decide_eq_true hyo), rfl⟩)
                                have HS2 : Hid (true = true ↔ ∀ q ∈ e.refs.take (j + 1), q = e.path ∨ q ∈ out) := HSTEP.out true (by simp [hyo])
                                clear hye hyo
                                go_wp2_with fail
                                refine HI3.out.mono ?_
                                rintro ed w9 ⟨rfl, rfl⟩
                                go_wp2_with fail
                                go_roundg (e.refs.length - (j + 1))
                                case measure => omega
                                case rel => exact ⟨j + 1, true, rfl, by omega, rfl, by go_num, rfl, by show true = true ↔ _; exact ⟨fun _ => HS2.out.1 (by trivial), fun _ => rfl⟩⟩
                              · have HI3 : Hid (Calls Tryz.prog 103 #[.slice oa ol oc, .string ⟨y.toArray⟩] wz fun ed w' => ed = .returned (.bool false) ∧ wz = w') := (HIO.out y).mono (by rintro ed w' ⟨rfl, rfl⟩; exact ⟨bool_ret (decide_eq_false hyo), rfl⟩)
                                have HS2 : Hid (false = true ↔ ∀ q ∈ e.refs.take (j + 1), q = e.path ∨ q ∈ out) := HSTEP.out false (by simp [hye, hyo])
                                clear hye hyo
                                go_wp2_with fail
                                refine HI3.out.mono ?_
                                rintro ed w9 ⟨rfl, rfl⟩
                                go_wp2_with fail
                                go_roundg (e.refs.length - (j + 1))
                                case measure => omega
                                case rel => exact ⟨j + 1, false, rfl, by omega, rfl, by go_num, rfl, HS2⟩
                        · have HREADY : Hid (o = readyB L A out e) := by
                            have h1 := HOO.out
                            rw [List.take_of_length_le (by omega)] at h1
                            show _ = _
                            rw [Bool.eq_iff_iff, ready_iff, h1]
                            exact ⟨fun h => ⟨HMA.out, HMO.out, h⟩, fun h => h.2.2⟩
                          clear HOO
                          cases o with
                          | false =>
                            have HNR : Hid (readyB L A out e = false) := HREADY.out.symm
                            clear HREADY
                            go_wp2_with fail
                            go_roundg (T.length - (i + 1))
                            case measure => omega
                            case rel => exact ⟨rfl, rfl, i + 1, rfl, by omega, by go_num, HQ0.out.pass HE.out HNR.out, HKZ, HAZ, HOZ⟩
                          | true =>
                            have HYR : Hid (readyB L A out e = true) := HREADY.out.symm
                            clear HREADY
                            obtain ⟨i1, hj', hj0, hj1, hj2⟩ := info_parts infoStr
                            have hsl := HOZ.out
                            have hsz := HKZ.out.size
                            have hol : ol ≤ 11 := by have h1 := HLL.out; have h2 := HOLN.out; have h3 := HOK.out.ten; omega
                            go_wp2_with (at_builtin; refine wpList_append_own2 rfl _ _ 26 26 rfl 9 i1 _ 1 16 Tryz.underlying26 hj' hj0 hj1 hj2 rfl w.heap.size _ _ _ rfl _ rfl 1 (svs [e.path]) ?d31 (hsl.alloc _) ?d32 ?d33 ?d34 ?_)
                            try (case d31 => simp; omega)
                            case d32 => exact Src.ofSl Tryz.underlying26 (Sl.of_new wz 0 (Nat.zero_le _) 9 1 1 [.string ⟨e.path.toArray⟩] rfl (by simp [maxLen])) (by intro u hu; simp only [svs, sv, List.map, List.mem_cons, List.not_mem_nil, or_false] at hu; subst hu; rfl)
                            case d33 => unfold maxLen; omega
                            case d34 => omega
                            intro ao9 cc9 w8 hs8 hk8 hkk8 hb8
                            have HS8 : Hid (Sl w8 w.heap.size 9 1 (.slice ao9 (ol + 1) cc9) (ol + 1) (svs (out ++ [e.path]))) := by
                              show Sl _ _ _ _ _ _ _
                              rw [show svs (out ++ [e.path]) = svs out ++ svs [e.path] by simp [svs]]
                              exact hs8
                            have HK8 : Hid (Keeps Non w w8) := (HKZ.out.alloc _).trans hkk8 fun j hj => .inr (hsl.own j hj).1
                            have HA8 : Hid (Sl w8 w.heap.size 9 1 (.slice aa al ac) al (svs A)) := (HAZ.out.alloc _).keep fun b c hb _ hbk => hbk.keeps hkk8 fun hj => HDJ.out b hj hb
                            have HDJ8 : Hid (∀ b, (Value.slice ao9 (ol + 1) cc9).ownBlock = some b → (Value.slice aa al ac).ownBlock ≠ some b) := fun b hb hv => by
                              rcases hb8 with h1 | h1
                              · rw [h1] at hb
                                exact HDJ.out b hb hv
                              · rw [h1] at hb
                                cases hb
                                have := (HAZ.out.own _ hv).2
                                omega
                            have HOL8 : Hid (ol + 1 = (out ++ [e.path]).length) := by show _ = _; rw [List.length_append, ← HOLN.out]; rfl
                            have hmeas : 2 * (L.length + 1 - (out ++ [e.path]).length) + 1 < 2 * (L.length + 1 - out.length) + 1 := by
                              have h1 := HLL.out
                              rw [List.length_append, List.length_singleton]
                              omega
                            clear hs8 hk8 hkk8 hb8 hsl hsz hj' hj0 hj1 hj2
                            go_wp2_with fail
                            go_roundg (2 * (L.length + 1 - (out ++ [e.path]).length) + 1)
                            case measure => exact hmeas
                            case rel => exact ⟨out ++ [e.path], 0, ol + 1, true, by simp, rfl, HOL8, ⟨HQ0.out.tell HE.out HYR.out, fun _ => rfl, fun h => by cases h⟩, HK8, HA8, HS8, HDJ8⟩
                  · have HI1 : Hid (Calls Tryz.prog 103 #[.slice aa al ac, .string ⟨e.path.toArray⟩] wz fun ed w' => ed = .returned (.bool false) ∧ wz = w') := HIA.out.mono (by rintro ed w' ⟨rfl, rfl⟩; exact ⟨bool_ret (decide_eq_false hinA), rfl⟩)
                    have HNR : Hid (readyB L A out e = false) := by
                      cases hrd : readyB L A out e with
                      | false => rfl
                      | true => exact absurd (ready_iff.1 hrd).1 hinA
                    clear hinA HIA
                    go_wp2_with fail
                    refine HI1.out.mono ?_
                    rintro ed w9 ⟨rfl, rfl⟩
                    go_wp2_with fail
                    go_roundg (T.length - (i + 1))
                    case measure => omega
                    case rel => exact ⟨rfl, rfl, i + 1, rfl, by omega, by go_num, HQ0.out.pass HE.out HNR.out, HKZ, HAZ, HOZ⟩
                · have hi2 : i = L.length := by rw [← HTL.out]; omega
                  have HI2 := Lib.hid hi2
                  clear hi2
                  go_wp2_with fail
                  go_roundg (2 * (L.length + 1 - out.length))
                  case measure => omega
                  case rel => exact ⟨out, i, ol, false, by simp, rfl, HOLN, ⟨HQ0.out, (fun h => by cases h), fun _ => HI2.out⟩, HK, HA, HO, HDJ⟩
end Go.Proofs.YtdkogijdfgfpeaaGreatDoor
