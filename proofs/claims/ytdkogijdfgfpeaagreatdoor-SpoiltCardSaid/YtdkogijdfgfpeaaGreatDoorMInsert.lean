/- (*Store).Insert. -/
import Derived.Test.YtdkogijdfgfpeaaGreatDoorMMap
import Derived.Test.YtdkogijdfgfpeaaGreatDoorMClosP
set_option linter.unusedVariables false
namespace Go.Proofs.YtdkogijdfgfpeaaGreatDoor
open Go Go.RowKit
theorem rising_iff : ∀ (l : List (List UInt8)), risingB l = true ↔ ∀ j (h : j + 1 < l.length), Op.bytesLess (l[j]'(by omega)) l[j + 1] = true
 | [] => by simp [risingB]
 | [a] => by simp [risingB]
 | a :: b :: r => by
   rw [risingB, Bool.and_eq_true, rising_iff (b :: r)]
   constructor
   ·rintro ⟨h1, h2⟩ j hj
    cases j with
    | zero => exact h1
    | succ j => exact h2 j (by simpa using hj)
   ·intro h
    exact ⟨h 0 (by simp), fun j hj => h (j + 1) (by simpa using hj)⟩
def InsPost (w : World) (F : Nat → Prop) (s : Nat) (R : Int × Ents) (ed : Ending) (w' : World) : Prop :=
 ed = .returned (.int .i64 R.1) ∧ (∃ F', StoreAt w' F' s R.2 ∧ ∀ k, F' k → F k ∨ (w.heap.size ≤ k ∧ k < w'.heap.size)) ∧ Keeps F w w'
theorem InsPost.same {w w' : World} {F : Nat → Prop} {s : Nat} {L : Ents} {z : Int} (h : StoreAt w F s L) (k : Keeps Non w w') : InsPost w F s (z, L) (.returned (.int .i64 z)) w' :=
 ⟨rfl, ⟨F, h.non k, fun _ h => .inl h⟩, k.mono fun _ _ h => h.elim⟩
theorem wrong_short {l : List Node} (h : wrongL l = -1) : l.length ≤ 30 := by
 unfold wrongL at h
 split at h
 ·cases h
 ·have := wrong_len l 0 [] h (by omega)
  omega
theorem insE_a {L : Ents} {name : List UInt8} {l : List Node} {refs : List (List UInt8)} (h : pathB name = false) : insE L name l refs = (11, L) := by unfold insE; rw [if_pos h]
theorem insE_b {L : Ents} {name : List UInt8} {l : List Node} {refs : List (List UInt8)} (h : pathB name = true) (h2 : 0 ≤ wrongL l) : insE L name l refs = (1, L) := by unfold insE; rw [if_neg (by simp [h]), if_pos h2]
theorem insE_c {L : Ents} {name : List UInt8} {l : List Node} {refs : List (List UInt8)} (h : pathB name = true) (h2 : wrongL l = -1) (h3 : risingB refs = false) : insE L name l refs = (7, L) := by
 unfold insE; rw [if_neg (by simp [h]), if_neg (by omega), if_pos h3]
theorem insE_d {L : Ents} {name : List UInt8} {l : List Node} {refs : List (List UInt8)} (h : pathB name = true) (h2 : wrongL l = -1) (h3 : risingB refs = true) {r : List UInt8} (hr : r ∈ refs) (h4 : r ≠ name) (h5 : findE L r = none) : insE L name l refs = (13, L) := by
 unfold insE; rw [if_neg (by simp [h]), if_neg (by omega), if_neg (by simp [h3]), if_pos]
 rw [List.any_eq_true]
 exact ⟨r, hr, by simp [h4, h5]⟩
structure InsOk (L : Ents) (name : List UInt8) (l : List Node) (refs : List (List UInt8)) : Prop where
 path : pathB name = true
 wrong : wrongL l = -1
 rise : risingB refs = true
 has : ∀ r ∈ refs, r = name ∨ (findE L r).isSome = true
theorem insE_e {L : Ents} {name : List UInt8} {l : List Node} {refs : List (List UInt8)} (h : InsOk L name l refs) : insE L name l refs = match findE L name with
  | some e => if sameE e ⟨name, l, refs⟩ then (0, L) else (12, L)
  | none => if L.length = 10 then (14, L) else (0, putE L ⟨name, l, refs⟩) := by
 have h4 : ¬ (refs.any fun r => r != name && (findE L r).isNone) = true := by
  rw [List.any_eq_true]
  rintro ⟨r, hr, h2⟩
  rcases h.has r hr with h3 | h3
  ·simp [h3] at h2
  ·cases hf : findE L r with
   | none => rw [hf] at h3; cases h3
   | some e => simp [hf] at h2
 unfold insE
 rw [if_neg (by simp [h.path]), if_neg (by have := h.wrong; omega), if_neg (by simp [h.rise]), if_neg h4]
 cases findE L name <;> rfl
theorem MapAt.nodup {w : World} {b : Nat} {m : MapL} (h : MapAt w b m) : (m.map Prod.fst).Nodup := by
 obtain ⟨es, c, -, hm⟩ := h
 exact hm.keys
theorem MapAt.notcells {w : World} {b : Nat} {m : MapL} (h : MapAt w b m) {k : Nat} {c : Array Value} {T : TypeId} {fr : Nat × Nat} (hk : w.heap[k]? = some (.cells c T fr)) : k ≠ b := by
 obtain ⟨es, cl, hb, hm⟩ := h
 intro e
 rw [e, hb] at hk
 cases hk
theorem StoreAt.put {F : Nat → Prop} {w W w9 : World} {s mb p : Nat} {L : Ents} {m : MapL} {e : Ent} (hs : StoreAt w F s L) (hT : tabTop ≤ w.heap.size) (hkW : Keeps Non w W)
 (hM : F mb ∧ Blk W s #[.map (some mb)] TS ∧ MapAt W mb m ∧ m.length = L.length ∧ (∀ x ∈ m, ∃ e ∈ L, e.path = x.1) ∧ ∀ e ∈ L, ∃ p, getM m e.path = some (pv p) ∧ EntAt W F p e)
 (hE : EntAt W (fun k => w.heap.size ≤ k ∧ k < p + 1) p e) (hsz : W.heap.size = p + 1) (hfn : findE L e.path = none) (hm9 : MapAt w9 mb (putM m e.path (pv p))) (hk9 : Keeps (One mb) W w9) (hs9 : w9.heap.size = W.heap.size)
 (hok : StoreOk (putE L e)) (hfit : EntFit e) : StoreAt w9 (fun k => F k ∨ (w.heap.size ≤ k ∧ k < w9.heap.size)) s (putE L e) := by
 obtain ⟨h1, h2, h3, h4, h5, h6⟩ := hM
 have hgn : getM m e.path = none := getM_none.2 fun x hx e2 => by
  obtain ⟨e', he', hex⟩ := h5 x hx
  exact findE_none.1 hfn e' he' (hex.trans e2)
 have hp : putM m e.path (pv p) = m ++ [(e.path, pv p)] := by rw [putM, hgn]; rfl
 rw [hp] at hm9
 have hnd := hm9.nodup
 have hne : ∀ b c T fr, W.heap[b]? = some (.cells c T fr) → ¬ One mb b := fun b c T fr hc e2 => h3.notcells hc e2
 refine ⟨fun k hk => ?_, fun k hk => ?_, .inl hs.own, hok, fun x hx => ?_, mb, m ++ [(e.path, pv p)], .inl h1, h2.keeps hk9 (hne s _ _ _ h2), hm9, ?_, fun x hx => ?_, fun x hx => ?_⟩
 ·rcases hk with hk | hk
  ·exact hs.top k hk
  ·omega
 ·rcases hk with hk | hk
  ·exact Nat.lt_of_lt_of_le (hs.lt k hk) (Nat.le_trans hkW.size (Nat.le_of_eq hs9.symm))
  ·exact hk.2
 ·rcases putE_mem.1 hx with rfl | hx
  ·exact hfit
  ·exact hs.fit x hx
 ·rw [putE_length, List.length_append, h4]; rfl
 ·rcases List.mem_append.1 hx with hx | hx
  ·obtain ⟨e', he', hex⟩ := h5 x hx
   exact ⟨e', putE_mem.2 (.inr he'), hex⟩
  ·obtain rfl := List.mem_singleton.1 hx
   exact ⟨e, putE_mem.2 (.inl rfl), rfl⟩
 ·rcases putE_mem.1 hx with rfl | hx
  ·exact ⟨p, (getM_mem hnd).2 (List.mem_append.2 (.inr (List.mem_singleton.2 rfl))), (hE.keeps hk9 fun b c T fr _ hc => hne b c T fr hc).wide fun k hk => .inr ⟨hk.1, by omega⟩⟩
  ·obtain ⟨q, hq, hqe⟩ := h6 x hx
   exact ⟨q, (getM_mem hnd).2 (List.mem_append.2 (.inl ((getM_mem h3.nodup).1 hq))), (hqe.keeps hk9 fun b c T fr _ hc => hne b c T fr hc).wide fun k hk => .inl hk⟩
set_option maxHeartbeats 3200000 in
set_option maxRecDepth 100000 in
theorem insert_any {F : Nat → Prop} {s : Nat} {L : Ents} (w : World) (h : StoreAt w F s L) (hT : Tabs w) (name : ByteArray) (hn : name.size ≤ 1099511627776) (l : List Node) (v : Value) (hv : Rd w 3 v l.length (nodeCells l)) (hfit : NodesSmall l) (hpl : (packP l).length ≤ 70368744177664)
 (refs : List (List UInt8)) (vr : Value) (hr : Rd w 1 vr refs.length (svs refs)) (hrl : refs.length ≤ 1099511627776) (hrs : ∀ r ∈ refs, r.length ≤ 1099511627776) :
 Calls Tryz.prog 24 #[pv s, .string name, v, vr] w (InsPost w F s (insE L name.data.toList l refs)) := by
 have HS := Lib.hid h
 have HT := Lib.hid hT
 have HV := Lib.hid hv
 have HF := Lib.hid hfit
 have HR := Lib.hid hr
 have HRS := Lib.hid hrs
 have HPL := Lib.hid hpl
 obtain ⟨va, vc, rfl, hc1, hc2⟩ := hr.shape
 unfold maxLen at hc2
 clear h hT hv hfit hr hrs hpl
 unfold pv
 go_enter Tryz.func24, Tryz.ntmps24
 go_wp2_with fail
 refine (path_any _ _).mono ?_
 rintro e w1 ⟨rfl, hk1⟩
 have HK1 := Lib.hid hk1
 clear hk1
 cases hp : pathB name.data.toList with
 | false =>
   have HP := Lib.hid hp
   clear hp
   go_wp2_with fail
   go_ret
   rw [insE_a HP.out]
   exact InsPost.same HS.out HK1.out
 | true =>
 have HP := Lib.hid hp
 clear hp
 go_wp2_with fail
 refine (wrong_any v l _ (HV.out.non HK1.out) (HT.out.keeps HK1.out) (fun n hn => ?_)).mono ?_
 ·have := HF.out n hn
  omega
 rintro e w2 ⟨rfl, hk2⟩
 have HK2 := Lib.hid (HK1.out.trans hk2 fun _ h => h.elim)
 clear hk2 HK1
 by_cases hw : 0 ≤ wrongL l
 ·have HW := Lib.hid hw
  have hd : decide (0 ≤ wrongL l) = true := decide_eq_true hw
  clear hw
  go_wp2_with fail
  go_ret
  rw [insE_b HP.out HW.out]
  exact InsPost.same HS.out HK2.out
 have hd : decide (0 ≤ wrongL l) = false := decide_eq_false hw
 have hw1 : wrongL l = -1 := by
  rcases wrong_range l with e | e
  ·exact e
  ·exact absurd e hw
 have HW := Lib.hid hw1
 have hl30 := wrong_short hw1
 clear hw hw1
 go_wp2_with fail
 refine (pack_any v l _ (HV.out.non HK2.out) (by omega) HF.out HPL.out).mono ?_
 rintro e w3 ⟨rfl, hk3⟩
 have HK3 := Lib.hid (HK2.out.trans hk3 fun _ h => h.elim)
 clear hk3 HK2
 go_wp2_with fail
 refine (cloneN_any l v _ (HV.out.non HK3.out) (by omega)).mono ?_
 rintro e w4 ⟨vt, rfl, hvt, hk4⟩
 obtain ⟨ta, tc, rfl, -, -⟩ := hvt.shape
 have HVT := Lib.hid hvt
 have HB3 : Hid (w.heap.size ≤ w3.heap.size) := HK3.out.size
 have HK4 := Lib.hid (HK3.out.trans hk4 fun _ h => h.elim)
 clear hk4 HK3 hvt
 go_wp2_with fail
 refine (cloneS_any refs _ _ (HR.out.non HK4.out) hrl).mono ?_
 rintro e w5 ⟨vs, rfl, hvs, hk5⟩
 obtain ⟨sa, sc, rfl, -, -⟩ := hvs.shape
 have HVS := Lib.hid hvs
 have HB4 : Hid (w.heap.size ≤ w4.heap.size) := HK4.out.size
 have HS5 : Hid (w4.heap.size ≤ w5.heap.size) := hk5.size
 have HVT5 := Lib.hid (HVT.out.rd.non hk5)
 have HK5 := Lib.hid (HK4.out.trans hk5 fun _ h => h.elim)
 clear hk5 HK4 hvs
 go_upto_region 6 with (fail)
 have hent : EntAt (w5.alloc (.cells #[.string ⟨(packP l).toArray⟩, .slice ta l.length tc, .slice sa refs.length sc] TE)) (fun k => w.heap.size ≤ k ∧ k < w5.heap.size + 1) w5.heap.size ⟨name.data.toList, l, refs⟩ := by
  have hszw := HK5.out.size
  have hb3 := HB3.out
  have hb4 := HB4.out
  refine ⟨⟨by omega, by omega⟩, _, _, Blk.new _ _ _, HVT5.out.non ((Keeps.refl _ _).alloc _), HVS.out.rd.non ((Keeps.refl _ _).alloc _), fun b hb => ?_, fun b hb => ?_⟩
  ·exact ⟨Nat.le_trans hb3 (HVT.out.own b hb).1, Nat.lt_succ_of_lt (Nat.lt_of_lt_of_le (HVT.out.own b hb).2 (HS5.out))⟩
  ·exact ⟨Nat.le_trans hb4 (HVS.out.own b hb).1, Nat.lt_succ_of_lt (HVS.out.own b hb).2⟩
 have hkW : Keeps Non w (w5.alloc (.cells #[.string ⟨(packP l).toArray⟩, .slice ta l.length tc, .slice sa refs.length sc] TE)) := HK5.out.alloc _
 have hszW : (w5.alloc (.cells #[.string ⟨(packP l).toArray⟩, .slice ta l.length tc, .slice sa refs.length sc] TE)).heap.size = w5.heap.size + 1 := by simp
 obtain ⟨W, hW⟩ : ∃ W, W = w5.alloc (.cells #[.string ⟨(packP l).toArray⟩, .slice ta l.length tc, .slice sa refs.length sc] TE) := ⟨_, rfl⟩
 obtain ⟨p, hpd⟩ : ∃ p, p = w5.heap.size := ⟨_, rfl⟩
 simp only [TE] at hW hent hkW hszW
 rw [← hW] at hent hkW hszW
 rw [← hW]
 rw [← hpd] at hent hszW
 rw [← hpd]
 have HE := Lib.hid hent
 have HKW := Lib.hid hkW
 have HSZ := Lib.hid hszW
 clear hW hpd hent hkW hszW HVT HVT5 HVS HB3 HB4 HK5 HS5
 have hst := HS.out.non HKW.out
 obtain ⟨mb, m, g1, g2, g3, g4, g5, g6⟩ := hst.map
 have HM : Hid (F mb ∧ Blk W s #[.map (some mb)] TS ∧ MapAt W mb m ∧ m.length = L.length ∧ (∀ x ∈ m, ∃ e ∈ L, e.path = x.1) ∧ ∀ e ∈ L, ∃ p, getM m e.path = some (pv p) ∧ EntAt W F p e) := ⟨g1, g2, g3, g4, g5, g6⟩
 have cs := g2.cell 0
 simp only [List.getElem?_toArray, List.getElem?_cons_zero] at cs
 clear hst g1 g2 g3 g4 g5 g6
 have HRW := Lib.hid (HR.out.non HKW.out)
 go_wp2_with fail
 go_loopg [33] refs.length (fun gk iv wr => ∃ k : Nat, gk = refs.length - k ∧ k ≤ refs.length ∧ iv = .int .i64 k ∧ W = wr ∧ Hid (∀ j (h : j + 1 < k) (h2 : k ≤ refs.length), Op.bytesLess (refs[j]'(by omega)) (refs[j + 1]'(by omega)) = true))
 case atStart => exact ⟨0, rfl, Nat.zero_le _, rfl, rfl, fun j h _ => by omega⟩
 case round =>
  obtain ⟨k, rfl, hk, rfl, rfl, HA⟩ := hrel
  by_cases hlt : k < refs.length
  ·obtain ⟨b, off, cp, hsh, -, -, -, hbl, hc, -⟩ := HRW.out.pos (by omega)
   cases hsh
   have d0 : W.cell? ⟨b, off + k, none⟩ = some (sv refs[k]) := (hc k (by omega)).trans (svs_get refs k hlt)
   rcases Nat.eq_zero_or_pos k with h0 | h0
   ·subst h0
    rw [Nat.add_zero] at d0
    unfold sv at d0
    clear hc
    go_wp2_with fail
    go_roundg (refs.length - 1)
    case measure => omega
    case rel => exact ⟨1, rfl, by omega, by go_num, rfl, fun j h _ => by omega⟩
   ·obtain ⟨j, rfl⟩ : ∃ j, k = j + 1 := ⟨k - 1, by omega⟩
    have hj : j < refs.length := by omega
    have d1 : W.cell? ⟨b, off + j, none⟩ = some (sv refs[j]) := (hc j (by omega)).trans (svs_get refs j hj)
    have HX : Hid (refs[j]? = some refs[j] ∧ refs[j + 1]? = some refs[j + 1]) := ⟨List.getElem?_eq_getElem hj, List.getElem?_eq_getElem hlt⟩
    unfold sv at d0 d1
    clear hc
    generalize refs[j] = x at *
    generalize refs[j + 1] = y at *
    have e1 : ((j + 1 : Nat) : Int) - 1 = (j : Int) := by omega
    cases hl : Op.bytesLess x y with
    | true =>
      have hl2 : (!Op.bytesLess x y) = false := by rw [hl]; rfl
      have HL := Lib.hid hl
      clear hl
      go_wp2_with fail
      go_roundg (refs.length - (j + 1 + 1))
      case measure => omega
      case rel =>
       refine ⟨j + 1 + 1, rfl, by omega, by go_num, rfl, fun i hi hi2 => ?_⟩
       by_cases hij : i = j
       ·subst hij
        have hh := HL.out
        have h1 := HX.out.1
        have h2 := HX.out.2
        rw [List.getElem?_eq_getElem hj, Option.some.injEq] at h1
        rw [List.getElem?_eq_getElem hlt, Option.some.injEq] at h2
        rw [h1, h2]
        exact hh
       ·exact HA.out i (by omega) (by omega)
    | false =>
      have hl2 : (!Op.bytesLess x y) = true := by rw [hl]; rfl
      have HL := Lib.hid hl
      clear hl
      go_wp2_with fail
      go_ret
      have hrf : risingB refs = false := by
       cases hb : risingB refs with
       | false => rfl
       | true =>
         have h3 := (rising_iff refs).1 hb j hlt
         have h1 := HX.out.1
         have h2 := HX.out.2
         rw [List.getElem?_eq_getElem hj, Option.some.injEq] at h1
         rw [List.getElem?_eq_getElem hlt, Option.some.injEq] at h2
         rw [h1, h2, HL.out] at h3
         cases h3
      rw [insE_c HP.out HW.out hrf]
      exact InsPost.same HS.out HKW.out
  ·have hk2 : k = refs.length := by omega
   subst hk2
   have hrise : Hid (risingB refs = true) := (rising_iff refs).2 fun j hj => HA.out j hj (Nat.le_refl _)
   clear HA
   go_wp2_with fail
   have HTU : Hid (Tryz.prog.underlying 82 = some (.map 9 81)) := Tryz.underlying82
   go_loopg [52] refs.length (fun gk iv wr => ∃ k : Nat, gk = refs.length - k ∧ k ≤ refs.length ∧ iv = .int .i64 k ∧ W = wr ∧ Hid (∀ r ∈ refs.take k, r = name.data.toList ∨ (findE L r).isSome = true))
   case atStart => exact ⟨0, rfl, Nat.zero_le _, rfl, rfl, by show ∀ r ∈ _, _; simp⟩
   case round =>
    obtain ⟨k, rfl, hk, rfl, rfl, HB⟩ := hrel
    by_cases hlt : k < refs.length
    ·obtain ⟨b, off, cp, hsh, -, -, -, hbl, hc, -⟩ := HRW.out.pos (by omega)
     cases hsh
     have d0 : W.cell? ⟨b, off + k, none⟩ = some (sv refs[k]) := (hc k (by omega)).trans (svs_get refs k hlt)
     have HX : Hid (refs[k]? = some refs[k] ∧ refs[k].length ≤ 1099511627776 ∧ refs[k] ∈ refs) := ⟨List.getElem?_eq_getElem hlt, HRS.out _ (List.getElem_mem _), List.getElem_mem _⟩
     have d0' := d0
     clear hc
     generalize refs[k] = x at *
     unfold sv at d0
     rcases StoreAt.look HM.out.2.2.1 HM.out.2.2.2.2.1 HM.out.2.2.2.2.2 x with ⟨hf, hg⟩ | ⟨e, q, hf, hel, hep, hg, hE⟩
     ·have hval : (getM m x).getD (.pointer none) = .pointer none := by rw [hg]; rfl
      have HFN := Lib.hid hf
      clear hf hg
      have HVAL := Lib.hid hval
      clear hval
      by_cases hx : x = name.data.toList
      ·have hb : (!x == name.toList) = false := by rw [ByteArray.toList_eq, hx]; simp
       have HXN := Lib.hid hx
       clear hx
       go_wp2_with (first | (at_lookup; refine wpl_look _ rfl _ _ _ rfl _ _ HTU.out Tryz.underlying9 (.pointer none) (Tryz.zeroValue81 _) mb m rfl HM.out.2.2.1 x rfl HX.out.2.1 ?_; rw [HVAL.out]))
       go_roundg (refs.length - (k + 1))
       case measure => omega
       case rel =>
        refine ⟨k + 1, rfl, by omega, by go_num, rfl, ?_⟩
        show ∀ r ∈ _, _
        intro r hr
        rw [List.take_add_one, HX.out.1, List.mem_append] at hr
        rcases hr with hr | hr
        ·exact HB.out r hr
        ·simp only [Option.toList_some, List.mem_singleton] at hr
         rw [hr]
         exact .inl HXN.out
      ·have hb : (!x == name.toList) = true := by rw [ByteArray.toList_eq]; simpa using hx
       have HXN : Hid (¬ x = name.data.toList) := hx
       clear hx
       go_wp2_with (first | (at_lookup; refine wpl_look _ rfl _ _ _ rfl _ _ HTU.out Tryz.underlying9 (.pointer none) (Tryz.zeroValue81 _) mb m rfl HM.out.2.2.1 x rfl HX.out.2.1 ?_; rw [HVAL.out]))
       go_ret
       rw [insE_d HP.out HW.out hrise.out HX.out.2.2 HXN.out HFN.out]
       exact InsPost.same HS.out HKW.out
     ·have hval : (getM m x).getD (.pointer none) = .pointer (some ⟨q, 0, none⟩) := by rw [hg]; rfl
      have HFN : Hid ((findE L x).isSome = true) := by show _ = _; rw [hf]; rfl
      clear hf hg hE hel hep
      have HVAL := Lib.hid hval
      clear hval
      go_wp2_with (first | (at_lookup; refine wpl_look _ rfl _ _ _ rfl _ _ HTU.out Tryz.underlying9 (.pointer none) (Tryz.zeroValue81 _) mb m rfl HM.out.2.2.1 x rfl HX.out.2.1 ?_; rw [HVAL.out]))
      go_roundg (refs.length - (k + 1))
      case measure => omega
      case rel =>
       refine ⟨k + 1, rfl, by omega, by go_num, rfl, ?_⟩
       show ∀ r ∈ _, _
       intro r hr
       rw [List.take_add_one, HX.out.1, List.mem_append] at hr
       rcases hr with hr | hr
       ·exact HB.out r hr
       ·simp only [Option.toList_some, List.mem_singleton] at hr
        rw [hr]
        exact .inr HFN.out
    ·have hk2 : k = refs.length := by omega
     subst hk2
     have hnl : name.data.toList.length ≤ 1099511627776 := by rw [dlen]; exact hn
     have HOK : Hid (InsOk L name.data.toList l refs) := ⟨HP.out, HW.out, hrise.out, fun r hr => HB.out r (by rw [List.take_length]; exact hr)⟩
     clear HB hrise
     rcases StoreAt.look HM.out.2.2.1 HM.out.2.2.2.2.1 HM.out.2.2.2.2.2 name.data.toList with ⟨hf, hg⟩ | ⟨e, q, hf, hel, hep, hg, hE⟩
     ·have hval : (getM m name.data.toList).getD (.pointer none) = .pointer none := by rw [hg]; rfl
      have HFN := Lib.hid hf
      have HG := Lib.hid hg
      clear hf hg
      have HVAL := Lib.hid hval
      clear hval
      have hmlen : ∀ ty, Sem.run Tryz.prog (Builtin.len_ #[82] ty #[.map (some mb)]) W = .ok (.int .i64 L.length) W := fun ty => by rw [← HM.out.2.2.2.1]; exact run_len_map HTU.out HM.out.2.2.1 ty
      by_cases h10 : L.length = 10
      ·have hb : ((L.length : Int) == 10) = true := by rw [h10]; rfl
       have H10 := Lib.hid h10
       clear h10
       go_wp2_with (first | (at_lookup; refine wpl_look _ rfl _ _ _ rfl _ _ HTU.out Tryz.underlying9 (.pointer none) (Tryz.zeroValue81 _) mb m rfl HM.out.2.2.1 name.data.toList rfl hnl ?_; rw [HVAL.out]))
       go_ret
       have hins : insE L name.data.toList l refs = (14, L) := by rw [insE_e HOK.out, HFN.out, if_pos H10.out]
       rw [hins]
       exact InsPost.same HS.out HKW.out
      ·have hb : ((L.length : Int) == 10) = false := by rw [beq_eq_false_iff_ne]; omega
       have H10 : Hid (¬ L.length = 10) := h10
       clear h10
       have HPV : Hid (pv p = .pointer (some ⟨p, 0, none⟩)) := rfl
       go_wp2_with (first | (at_lookup; refine wpl_look _ rfl _ _ _ rfl _ _ HTU.out Tryz.underlying9 (.pointer none) (Tryz.zeroValue81 _) mb m rfl HM.out.2.2.1 name.data.toList rfl hnl ?_; rw [HVAL.out]) | (at_mapUpdate; refine wpl_store _ rfl _ _ _ _ rfl _ _ HTU.out Tryz.underlying9 mb m rfl HM.out.2.2.1 name.data.toList rfl hnl (pv p) rfl ?_; intro w9 hm9 hk9 hs9))
       go_ret
       have hins : insE L name.data.toList l refs = (0, putE L ⟨name.data.toList, l, refs⟩) := by rw [insE_e HOK.out, HFN.out, if_neg H10.out]
       rw [hins]
       have hok : StoreOk (putE L ⟨name.data.toList, l, refs⟩) := by
        have := insE_ok HS.out.ok name.data.toList l refs
        rw [hins] at this
        exact this
       refine ⟨rfl, ⟨_, HS.out.put HT.out.top HKW.out HM.out HE.out HSZ.out HFN.out hm9 hk9 hs9 hok ⟨HF.out, HPL.out, hrl, HRS.out⟩, fun k hk => hk⟩, ?_⟩
       refine (HKW.out.mono fun _ _ h => h.elim).trans hk9 fun k hk => ?_
       cases hk
       exact .inl HM.out.1
     ·have hval : (getM m name.data.toList).getD (.pointer none) = .pointer (some ⟨q, 0, none⟩) := by rw [hg]; rfl
      have HFN := Lib.hid hf
      have HEN := Lib.hid hE
      have HSAME := Lib.hid (sameE_any W hE HE.out)
      clear hf hg hE hel hep
      have HVAL := Lib.hid hval
      clear hval
      unfold pv at HSAME
      have HQN : Hid (sv name.data.toList = .string name) := by show _ = _; simp [sv]
      go_wp2_with (first | (at_lookup; refine wpl_look _ rfl _ _ _ rfl _ _ HTU.out Tryz.underlying9 (.pointer none) (Tryz.zeroValue81 _) mb m rfl HM.out.2.2.1 name.data.toList rfl hnl ?_; rw [HVAL.out]))
      refine HSAME.out.mono ?_
      rintro ed w9 ⟨rfl, nz, rfl⟩
      cases hse : sameE e ⟨name.data.toList, l, refs⟩ with
      | true =>
        have HSE := Lib.hid hse
        clear hse
        go_wp2_with fail
        go_ret
        have hins : insE L name.data.toList l refs = (0, L) := by rw [insE_e HOK.out, HFN.out]; simp [HSE.out]
        rw [hins]
        exact InsPost.same HS.out (HKW.out.drewN _)
      | false =>
        have HSE := Lib.hid hse
        clear hse
        go_wp2_with fail
        go_ret
        have hins : insE L name.data.toList l refs = (12, L) := by rw [insE_e HOK.out, HFN.out]; simp [HSE.out]
        rw [hins]
        exact InsPost.same HS.out (HKW.out.drewN _)
abbrev TN : TypeId := 76
def rf (cN cS cR : Nat) : Value := .func (.func 35) #[] #[pv cN, pv cS, pv cR]
structure Env (w : World) (F : Nat → Prop) (s cN cS cR nb : Nat) : Prop where
 n : Blk w cN #[.map (some nb)] TN
 s : Blk w cS #[pv s] 34
 r : Blk w cR #[rf cN cS cR] 77
 far : ¬ F nb
theorem Env.keeps {S F : Nat → Prop} {w w' : World} {s cN cS cR nb : Nat} (h : Env w F s cN cS cR nb) (k : Keeps S w w') (hs : ∀ b c T fr, w.heap[b]? = some (.cells c T fr) → b = cN ∨ b = cS ∨ b = cR → ¬ S b) : Env w' F s cN cS cR nb :=
 ⟨h.n.keeps k (hs cN _ _ _ h.n (.inl rfl)), h.s.keeps k (hs cS _ _ _ h.s (.inr (.inl rfl))), h.r.keeps k (hs cR _ _ _ h.r (.inr (.inr rfl))), h.far⟩
theorem Env.one {F : Nat → Prop} {w w' : World} {s cN cS cR nb : Nat} {N : MapL} (h : Env w F s cN cS cR nb) (hm : MapAt w nb N) (k : Keeps (One nb) w w') : Env w' F s cN cS cR nb :=
 h.keeps k fun b c T fr hc _ e => hm.notcells hc e
theorem StoreAt.ent {F : Nat → Prop} {w : World} {s : Nat} {L : Ents} (h : StoreAt w F s L) {e : Ent} (he : e ∈ L) : ∃ mb m q vt vr, Blk w s #[.map (some mb)] TS ∧ MapAt w mb m ∧ getM m e.path = some (pv q) ∧ Blk w q #[sv (packP e.tree), vt, vr] TE ∧ Rd w 1 vr e.refs.length (svs e.refs) ∧ F q ∧ F mb := by
 obtain ⟨mb, m, h1, h2, h3, h4, h5, h6⟩ := h.map
 obtain ⟨q, hq, ho, vt, vr, g1, g2, g3, g4, g5⟩ := h6 e he
 exact ⟨mb, m, q, vt, vr, h2, h3, hq, g1, g3, ho, h1⟩
theorem path_len {p : List UInt8} (h : pathB p = true) : p.length ≤ 1099511627776 := by
 unfold pathB at h
 simp only [Bool.and_eq_true, decide_eq_true_eq] at h
 omega
theorem StoreAt.len {F : Nat → Prop} {w : World} {s : Nat} {L : Ents} (h : StoreAt w F s L) {e : Ent} (he : e ∈ L) : e.path.length ≤ 1099511627776 := path_len (h.ok.good e he).1
set_option maxHeartbeats 3200000 in
set_option maxRecDepth 100000 in
theorem reach_any {F : Nat → Prop} {s cN cS cR nb : Nat} {L : Ents} : ∀ (n : Nat) (e : Ent) (w : World) (N : MapL), freeN L N ≤ n → e ∈ L → StoreAt w F s L → Env w F s cN cS cR nb → MapAt w nb N →
 Calls Tryz.prog 35 #[sv e.path, pv cN, pv cS, pv cR] w fun ed w' => ed = .returned (.tuple #[]) ∧ ∃ N', MapAt w' nb N' ∧ Grew L e.path N N' ∧ Keeps (One nb) w w' := by
 intro n
 induction n with
 | zero =>
   intro e w N hfr he hS hE hM
   have hin : ∃ v, getM N e.path = some v := by
    cases hg : getM N e.path with
    | some v => exact ⟨v, rfl⟩
    | none =>
      have := freeN_lt (N' := putM N e.path (ivn 0)) (fun k v hk => by unfold InM; rw [getM_put]; split <;> exact ⟨_, by first | rfl | exact hk⟩) he hg (by unfold InM; rw [getM_put, if_pos rfl]; exact ⟨_, rfl⟩)
      omega
   obtain ⟨v, hv⟩ := hin
   have hnl := hS.len he
   have cn := hE.n.cell 0
   simp only [List.getElem?_toArray, List.getElem?_cons_zero] at cn
   have HM := Lib.hid hM
   have HVAL : Hid ((getM N e.path).getD (.int .i64 0) = v ∧ (getM N e.path).isSome = true) := by show _ ∧ _; rw [hv]; exact ⟨rfl, rfl⟩
   have HIN : Hid (InM N e.path) := ⟨v, hv⟩
   have HTU : Hid (Tryz.prog.underlying 76 = some (.map 9 3)) := Tryz.underlying76
   clear hv hM hS hE hfr
   unfold pv sv
   go_enter Tryz.func35, Tryz.ntmps35
   go_wp2_with (first | (at_lookup; refine wpl_looko _ rfl _ _ _ rfl _ _ HTU.out Tryz.underlying9 (.int .i64 0) (Tryz.zeroValue3 _) nb N rfl HM.out e.path rfl hnl ?_; rw [HVAL.out.1, HVAL.out.2]))
   refine bodyPost_ret (results_none rfl _ _ _) rfl ?_
   exact ⟨rfl, N, HM.out, Grew.same HIN.out, Keeps.refl _ _⟩
 | succ n ih =>
   intro e w N hfr he hS hE hM
   have hnl := hS.len he
   have cn := hE.n.cell 0
   have cs := hE.s.cell 0
   have cr := hE.r.cell 0
   simp only [List.getElem?_toArray, List.getElem?_cons_zero] at cn cs cr
   have HS := Lib.hid hS
   have HE := Lib.hid hE
   have HM := Lib.hid hM
   have HFR := Lib.hid hfr
   have HEL := Lib.hid he
   have IH := Lib.hid ih
   have HTU : Hid (Tryz.prog.underlying 76 = some (.map 9 3)) := Tryz.underlying76
   clear hM hS hE hfr he ih
   cases hg : getM N e.path with
   | some v =>
     have HVAL : Hid ((getM N e.path).getD (.int .i64 0) = v ∧ (getM N e.path).isSome = true) := by show _ ∧ _; rw [hg]; exact ⟨rfl, rfl⟩
     have HIN : Hid (InM N e.path) := ⟨v, hg⟩
     clear hg cs cr
     unfold pv sv
     go_enter Tryz.func35, Tryz.ntmps35
     go_wp2_with (first | (at_lookup; refine wpl_looko _ rfl _ _ _ rfl _ _ HTU.out Tryz.underlying9 (.int .i64 0) (Tryz.zeroValue3 _) nb N rfl HM.out e.path rfl hnl ?_; rw [HVAL.out.1, HVAL.out.2]))
     refine bodyPost_ret (results_none rfl _ _ _) rfl ?_
     exact ⟨rfl, N, HM.out, Grew.same HIN.out, Keeps.refl _ _⟩
   | none =>
     have HVAL : Hid ((getM N e.path).getD (.int .i64 0) = .int .i64 0 ∧ (getM N e.path).isSome = false) := by show _ ∧ _; rw [hg]; exact ⟨rfl, rfl⟩
     have HG := Lib.hid hg
     clear hg cs cr
     unfold pv sv
     go_enter Tryz.func35, Tryz.ntmps35
     go_upto_region 2 with (first | (at_lookup; refine wpl_looko _ rfl _ _ _ rfl _ _ HTU.out Tryz.underlying9 (.int .i64 0) (Tryz.zeroValue3 _) nb N rfl HM.out e.path rfl hnl ?_; rw [HVAL.out.1, HVAL.out.2]))
     go_upto_region 3 with (first | (at_mapUpdate; refine wpl_store _ rfl _ _ _ _ rfl _ _ HTU.out Tryz.underlying9 nb N rfl HM.out e.path rfl hnl (.int .i64 0) rfl ?_; intro w1 hm1 hk1 hs1))
     have HM1 : Hid (MapAt w1 nb (putM N e.path (ivn 0))) := hm1
     have HK1 := Lib.hid hk1
     have HFRE : Hid (freeN L (putM N e.path (ivn 0)) ≤ n) := by
      have := freeN_lt (N' := putM N e.path (ivn 0)) (fun k v hk => by unfold InM; rw [getM_put]; split <;> exact ⟨_, by first | rfl | exact hk⟩) HEL.out HG.out (by unfold InM; rw [getM_put, if_pos rfl]; exact ⟨_, rfl⟩)
      have h2 := HFR.out
      show _ ≤ _
      omega
     have HS1 : Hid (StoreAt w1 F s L) := HS.out.keeps hk1 fun b hb e2 => HE.out.far (by cases e2; exact hb)
     have HE1 : Hid (Env w1 F s cN cS cR nb) := HE.out.one HM.out hk1
     have cn1 := HE1.out.n.cell 0
     have cs1 := HE1.out.s.cell 0
     have cr1 := HE1.out.r.cell 0
     obtain ⟨mb, m, q, vt, vr, g1, g2, g3, g4, g5, g6, g7⟩ := HS1.out.ent HEL.out
     have ds1 := g1.cell 0
     have dq1 := g4.cell 2
     simp only [List.getElem?_toArray, List.getElem?_cons_zero, List.getElem?_cons_succ] at cn1 cs1 cr1 ds1 dq1
     obtain ⟨va, vc, rfl, hc1, hc2⟩ := g5.shape
     have HMB := Lib.hid g2
     have HVR := Lib.hid g5
     have HVAL2 : Hid ((getM m e.path).getD (.pointer none) = .pointer (some ⟨q, 0, none⟩)) := by show _ = _; rw [g3]; rfl
     have HTE : Hid (Tryz.prog.underlying 82 = some (.map 9 81)) := Tryz.underlying82
     unfold maxLen at hc2
     unfold pv at cs1
     clear hm1 hk1 hs1 g1 g2 g3 g4 g5 g6 g7 cn HFR
     go_wp2_with (first | (at_lookup; refine wpl_look _ rfl _ _ _ rfl _ _ HTE.out Tryz.underlying9 (.pointer none) (Tryz.zeroValue81 _) mb m rfl HMB.out e.path rfl hnl ?_; rw [HVAL2.out]))
     have HREF : Hid (∀ r ∈ e.refs, r.length ≤ 1099511627776 ∧ ∃ x ∈ L, x.path = r) := fun r hr => ⟨(HS1.out.fit e HEL.out).ref r hr, findE_isSome.1 (HS1.out.ok.has e HEL.out r hr)⟩
     have HRL : Hid (e.refs.length ≤ 1099511627776) := (HS1.out.fit e HEL.out).refs
     clear ds1 dq1 cs1 cn1 cr1 HVAL2 HVAL
     go_loopg [28] e.refs.length (fun gk iv wr => ∃ (k : Nat) (N2 : MapL), gk = e.refs.length - k ∧ k ≤ e.refs.length ∧ iv = .int .i64 k ∧ Hid (MapAt wr nb N2) ∧ Hid (Going L e N N2 k) ∧ Hid (Keeps (One nb) w1 wr))
     case atStart => exact ⟨0, _, rfl, Nat.zero_le _, rfl, HM1, Going.start HG.out, Keeps.refl _ _⟩
     case round =>
      obtain ⟨k, N2, rfl, hk, rfl, HM2, HGO, HK2⟩ := hrel
      by_cases hlt : k < e.refs.length
      ·have HS2 : Hid (StoreAt wr F s L) := HS1.out.keeps HK2.out fun b hb e2 => HE1.out.far (by cases e2; exact hb)
       have HE2 : Hid (Env wr F s cN cS cR nb) := HE1.out.one HM1.out HK2.out
       have HV2 : Hid (Rd wr 1 (.slice va e.refs.length vc) e.refs.length (svs e.refs)) := HVR.out.keepc HK2.out fun b c T fr _ hc e2 => HM1.out.notcells hc e2
       have cn2 := HE2.out.n.cell 0
       have cs2 := HE2.out.s.cell 0
       have cr2 := HE2.out.r.cell 0
       simp only [List.getElem?_toArray, List.getElem?_cons_zero] at cn2 cs2 cr2
       unfold rf at cr2
       obtain ⟨b, off, cp, hsh, -, -, -, hbl, hc, -⟩ := HV2.out.pos (by omega)
       cases hsh
       have d0 : wr.cell? ⟨b, off + k, none⟩ = some (sv e.refs[k]) := (hc k (by omega)).trans (svs_get e.refs k hlt)
       have HX : Hid (e.refs[k]? = some e.refs[k] ∧ e.refs[k] ∈ e.refs) := ⟨List.getElem?_eq_getElem hlt, List.getElem_mem _⟩
       clear hc
       generalize e.refs[k] = x at *
       unfold sv at d0
       by_cases hx : x = e.path
       ·have hb : (!x == e.path) = false := by rw [hx]; simp
        have HXN := Lib.hid hx
        clear hx
        go_wp2_with fail
        go_roundg (e.refs.length - (k + 1))
        case measure => omega
        case rel => exact ⟨k + 1, N2, rfl, by omega, by go_num, HM2, HGO.out.self (by rw [HX.out.1, HXN.out]), HK2⟩
       ·have hb : (!x == e.path) = true := by simpa using hx
        have HXN : Hid (x ≠ e.path) := hx
        clear hx
        obtain ⟨hxl, e2, he2, rfl⟩ := HREF.out x HX.out.2
        obtain ⟨c, hcd⟩ : ∃ c, c = ((e.refs.take k).filter fun r => r != e.path).length := ⟨_, rfl⟩
        have hcl : c ≤ e.refs.length := by
         rw [hcd]
         refine Nat.le_trans (List.length_filter_le _ _) ?_
         rw [List.length_take]
         omega
        have hrl := HRL.out
        obtain ⟨c1, hc1d⟩ : ∃ c1, c1 = c + 1 := ⟨_, rfl⟩
        have q1 : (c : Int) + 1 = (c1 : Int) := by omega
        have hc1l : c1 ≤ 1099511627777 := by omega
        have HCV : Hid ((getM N2 e.path).getD (.int .i64 0) = .int .i64 c) := by show _ = _; rw [HGO.out.it, hcd]; rfl
        have HIT : Hid (∃ v, getM N2 e.path = some v) := ⟨_, HGO.out.it⟩
        have HSTEP : Hid (∀ N4, Grew L e2.path (putM N2 e.path (.int .i64 c1)) N4 → Going L e N N4 (k + 1)) := fun N4 hg => by
         have h1 := HGO.out
         refine h1.step HEL.out HX.out.1 HXN.out ?_
         rw [← hcd]
         have h2 : ivn (c + 1) = .int .i64 c1 := by rw [hc1d]; rfl
         rw [h2]
         exact hg
        have HFR3 : Hid (freeN L (putM N2 e.path (.int .i64 c1)) ≤ n) := by
         refine Nat.le_trans (freeN_le fun j v hj => ?_) HFRE.out
         unfold InM
         rw [getM_put] at hj ⊢
         split at hj
         ·rename_i hje
          rw [if_pos hje]
          exact ⟨_, rfl⟩
         ·rename_i hje
          rw [if_neg hje]
          exact ⟨_, HGO.out.old j v hj⟩
        clear hcd hc1d hcl HREF HXN
        go_wp2_with (first | (at_lookup; refine wpl_look _ rfl _ _ _ rfl _ _ HTU.out Tryz.underlying9 (.int .i64 0) (Tryz.zeroValue3 _) nb N2 rfl HM2.out e.path rfl hnl ?_; rw [HCV.out]) | (at_mapUpdate; refine wpl_store _ rfl _ _ _ _ rfl _ _ HTU.out Tryz.underlying9 nb N2 rfl HM2.out e.path rfl hnl (.int .i64 c1) rfl ?_; intro w3 hm3 hk3 hs3; have HM3 := Lib.hid hm3; have HK3 := Lib.hid hk3; have HE3 := Lib.hid (HE2.out.one HM2.out hk3); have HS3 : Hid (StoreAt w3 F s L) := HS2.out.keeps hk3 (fun b hb e2 => HE2.out.far (by cases e2; exact hb)); have cr3 : w3.cell? ⟨cR, 0, none⟩ = some (.func (.func 35) #[] #[pv cN, pv cS, pv cR]) := HE3.out.r.cell 0; clear hm3 hk3 hs3 cn2 cs2 cr2 d0))
        refine (IH.out e2 w3 _ HFR3.out he2 HS3.out HE3.out HM3.out).mono ?_
        rintro ed w4 ⟨rfl, N4, hm4, hg4, hk4⟩
        have HM4 := Lib.hid hm4
        have HG4 := Lib.hid hg4
        have HK4 : Hid (Keeps (One nb) w1 w4) := (HK2.out.trans HK3.out fun k hk => .inl hk).trans hk4 fun k hk => .inl hk
        clear hm4 hg4 hk4 cr3
        go_wp2_with fail
        go_roundg (e.refs.length - (k + 1))
        case measure => omega
        case rel => exact ⟨k + 1, N4, rfl, by omega, by go_num, HM4, HSTEP.out N4 HG4.out, HK4⟩
      ·have hk2 : k = e.refs.length := by omega
       subst hk2
       go_wp2_with fail
       go_end0
       exact ⟨rfl, N2, HM2.out, HGO.out.done HEL.out rfl, HK1.out.trans HK2.out fun k hk => .inl hk⟩
end Go.Proofs.YtdkogijdfgfpeaaGreatDoor
