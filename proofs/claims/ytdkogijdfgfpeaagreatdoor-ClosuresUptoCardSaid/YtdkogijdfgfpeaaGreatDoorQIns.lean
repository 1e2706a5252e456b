/- The document's store: Insert. -/
import Derived.Test.YtdkogijdfgfpeaaGreatDoorChecked
import Derived.Test.YtdkogijdfgfpeaaGreatDoorQPut
import Derived.Test.YtdkogijdfgfpeaaGreatDoorQSame
import Derived.Test.YtdkogijdfgfpeaaGreatDoorInsert
import Derived.Test.YtdkogijdfgfpeaaGreatDoorClosP
namespace Go.Proofs.YtdkogijdfgfpeaaGreatDoor
open Go Go.RowKit
set_option linter.unusedVariables false

/-- what an Insert leaves -/
def QInsPost (w : World) (G : Nat → Prop) (r : Nat) (R : Int × Ents) (ed : Ending) (w' : World) : Prop :=
  ed = .returned (.int .i64 R.1) ∧ (∃ G', QAt w' G' r R.2 ∧ ∀ k, G' k → G k ∨ (w.heap.size ≤ k ∧ k < w'.heap.size)) ∧ Keeps G w w'
theorem QInsPost.same {w w' : World} {G : Nat → Prop} {r : Nat} {L : Ents} {z : Int} (h : QAt w G r L) (k : Keeps Non w w') : QInsPost w G r (z, L) (.returned (.int .i64 z)) w' :=
  ⟨rfl, ⟨G, h.non k, fun _ h => .inl h⟩, k.mono fun _ _ h => h.elim⟩
theorem putK_le (L : Ents) (p : List UInt8) : putK L p ≤ L.length := by
  unfold putK
  exact (List.takeWhile_prefix _).length_le
theorem QList.put {S G G' : Nat → Prop} {w w' : World} {L : Ents} {v v' : Value} {T : List (Value × Value × Value)} (h : QList w G L v T) (k : Keeps S w w') (hs : ∀ b, G b → ¬ S b) {e : Ent} {x : Value × Value × Value} (hx : QEnt w' G' e x) (hg : ∀ b, G b → G' b)
    (hsl : Sl w' 0 TQE 3 v' (T.length + 1) (trip (T.take (putK L e.path) ++ x :: T.drop (putK L e.path)))) (hown : ∀ b, v'.ownBlock = some b → G' b) : QList w' G' (putE L e) v' (T.take (putK L e.path) ++ x :: T.drop (putK L e.path)) := by
  have hk := putK_le L e.path
  have hlen : (T.take (putK L e.path) ++ x :: T.drop (putK L e.path)).length = T.length + 1 := by
    have := h.len
    simp
    omega
  refine ⟨by rw [hlen]; exact hsl, hown, by rw [hlen, putE_length, h.len], fun i e' x' he hx' => ?_⟩
  rw [putE_eq] at he
  generalize putK L e.path = q at *
  have hl := h.len
  by_cases hi : i < q
  · rw [List.getElem?_append_left (by rw [List.length_take]; omega), List.getElem?_take, if_pos hi] at he hx'
    exact ((h.ents i e' x' he hx').keeps k hs).wide hg
  · rw [List.getElem?_append_right (by rw [List.length_take]; omega), List.length_take] at he hx'
    rw [Nat.min_eq_left hk] at he
    rw [Nat.min_eq_left (by omega)] at hx'
    cases hd : i - q with
    | zero =>
      rw [hd] at he hx'
      simp only [List.getElem?_cons_zero, Option.some.injEq] at he hx'
      subst he hx'
      exact hx
    | succ j =>
      rw [hd] at he hx'
      simp only [List.getElem?_cons_succ, List.getElem?_drop] at he hx'
      exact ((h.ents (q + j) e' x' he hx').keeps k hs).wide hg
theorem leS_of_less {x y : List UInt8} (h : Op.bytesLess x y = true) : Op.bytesLess y x = false := by
  cases hb : Op.bytesLess y x with
  | false => rfl
  | true =>
    have := bytesLess_trans h hb
    rw [bytesLess_irrefl] at this
    cases this
theorem qins_done {G : Nat → Prop} {r : Nat} {L : Ents} {w w8 w9 wa w10 : World} {qa : Option Addr} {qc : Nat} {T : List (Value × Value × Value)} {name : List UInt8} {l : List Node} {refs : List (List UInt8)} {vt vr v' nmv : Value}
    (HQ : QAt w G r L) (HRLT : r < w.heap.size) (HQL : QList w (fun k => G k ∧ k ≠ r) L (.slice qa T.length qc) T) (HTL : T.length = L.length) (HK8 : Keeps Non w w8) (HK9 : Keeps Non w8 w9) (hk10 : Keeps Non w9 w10) (hr10 : Blk w10 r #[.slice qa T.length qc] TQ)
    (HT8 : Sl w8 w.heap.size 49 3 vt l.length (nodeCells l)) (HS8 : Sl w8 w.heap.size 9 1 vr refs.length (svs refs))
    (hs10 : Sl w10 wa.heap.size 165 3 v' (T.length + 1) (trip (T.take (putK L name) ++ (nmv, vt, vr) :: T.drop (putK L name)))) (hnm : nmv = sv name) {R : Int × Ents} (hins : R = (0, putE L ⟨name, l, refs⟩)) (hwa : w.heap.size ≤ wa.heap.size) :
    QInsPost w G r (0, putE L ⟨name, l, refs⟩) (.returned (.int .i64 0)) (w10.setCell ⟨r, 0, none⟩ v') := by
  have hk : Keeps Non w w10 := (HK8.trans HK9 fun _ h => h.elim).trans hk10 fun _ h => h.elim
  have hk810 : Keeps Non w8 w10 := HK9.trans hk10 fun _ h => h.elim
  have hkr : Keeps G w (w10.setCell ⟨r, 0, none⟩ v') := (hk.mono fun _ _ h => h.elim).setCell _ _ (.inl HQ.own)
  have hne : ∀ b, w.heap.size ≤ b → b ≠ r := fun b hb e => by omega
  have hset : Keeps (One r) w10 (w10.setCell ⟨r, 0, none⟩ v') := (Keeps.refl _ _).setCell _ _ (.inl rfl)
  have hsz : (w10.setCell ⟨r, 0, none⟩ v').heap.size = w10.heap.size := by simp [World.setCell]
  have ht : Sl (w10.setCell ⟨r, 0, none⟩ v') w.heap.size 49 3 vt l.length (nodeCells l) := HT8.keep fun b c _ hB hbk => (hbk.keeps hk810 fun h => h).set_ne _ _ (hne b hB)
  have hs : Sl (w10.setCell ⟨r, 0, none⟩ v') w.heap.size 9 1 vr refs.length (svs refs) := HS8.keep fun b c _ hB hbk => (hbk.keeps hk810 fun h => h).set_ne _ _ (hne b hB)
  have hl : Sl (w10.setCell ⟨r, 0, none⟩ v') w.heap.size 165 3 v' (T.length + 1) (trip (T.take (putK L name) ++ (nmv, vt, vr) :: T.drop (putK L name))) := (hs10.mono hwa).keep fun b c _ hB hbk => hbk.set_ne _ _ (hne b hB)
  refine ⟨rfl, ⟨fun k => G k ∨ (w.heap.size ≤ k ∧ k < (w10.setCell ⟨r, 0, none⟩ v').heap.size), ⟨fun k hk2 => ?_, .inl HQ.own, v', T.take (putK L name) ++ (nmv, vt, vr) :: T.drop (putK L name), hr10.set 0 _, ?_⟩, fun k hk2 => hk2⟩, hkr⟩
  · rcases hk2 with h | h
    · exact Nat.lt_of_lt_of_le (HQ.lt k h) hkr.size
    · exact h.2
  · refine QList.put (e := ⟨name, l, refs⟩) (HQL.non hk) hset (fun b hb e => hb.2 e) ⟨hnm, ht.rd, hs.rd, fun b hb => ?_, fun b hb => ?_⟩ (fun b hb => ⟨.inl hb.1, hb.2⟩) (hl.mono (Nat.zero_le _)) fun b hb => ?_
    · exact ⟨.inr (ht.own b hb), hne b (ht.own b hb).1⟩
    · exact ⟨.inr (hs.own b hb), hne b (hs.own b hb).1⟩
    · exact ⟨.inr (hl.own b hb), hne b (hl.own b hb).1⟩
set_option maxHeartbeats 3200000 in
set_option maxRecDepth 100000 in
theorem rinsert_any {G : Nat → Prop} {r : Nat} {L : Ents} (w : World) (h : QAt w G r L) (hok : StoreOk L) (hfl : ∀ e ∈ L, EntFit e) (name : ByteArray) (hn : name.size ≤ 1099511627776) (l : List Node) (v : Value) (hv : Rd w 3 v l.length (nodeCells l)) (hfit : NodesSmall l) (hll : l.length ≤ 1099511627776) (hpl : (packP l).length ≤ 70368744177664)
    (refs : List (List UInt8)) (vr : Value) (hr : Rd w 1 vr refs.length (svs refs)) (hrl : refs.length ≤ 1099511627776) (hrs : ∀ x ∈ refs, x.length ≤ 1099511627776) :
    Calls Tryz.prog 61 #[pv r, .string name, v, vr] w (QInsPost w G r (insE L name.data.toList l refs)) := by
  have HQ := Lib.hid h
  have HV := Lib.hid hv
  have HF := Lib.hid hfit
  have HR := Lib.hid hr
  have HRS := Lib.hid hrs
  have HPL := Lib.hid hpl
  have HOK := Lib.hid hok
  have HFL := Lib.hid hfl
  obtain ⟨va, vc, rfl, hc1, hc2⟩ := hr.shape
  obtain ⟨ta, tc, rfl, ht1, ht2⟩ := hv.shape
  unfold maxLen at hc2 ht2
  have hwrong := wrong_eq l
  obtain ⟨vq, T, g1, g2⟩ := h.mem
  obtain ⟨qa, qc, rfl, hq1, hq2⟩ := g2.sl.shape
  have HQL := Lib.hid g2
  have HBR := Lib.hid g1
  have HTL : Hid (T.length = L.length) := g2.len
  have HRLT : Hid (r < w.heap.size) := h.lt r h.own
  clear h hv hfit hr hrs hpl hok hfl g1 g2
  unfold pv
  go_enter Tryz.func61, Tryz.ntmps61
  go_wp2_with fail
  refine (rpath_any _ _ hn).mono ?_
  rintro e w1 ⟨rfl, rfl⟩
  cases hp : pathB name.data.toList with
  | false =>
    have HP := Lib.hid hp
    clear hp
    go_wp2_with fail
    go_ret
    rw [insE_a HP.out]
    exact QInsPost.same HQ.out (Keeps.refl _ _)
  | true =>
  have HP := Lib.hid hp
  clear hp
  go_wp2_with fail
  refine (rwrong_any _ l _ HV.out (fun n hn => by have := HF.out n hn; omega)).mono ?_
  rintro e w2 ⟨rfl, hk2⟩
  rw [← hwrong]
  have HK2 := Lib.hid hk2
  clear hk2 hwrong
  by_cases hw : 0 ≤ wrongL l
  · have HW := Lib.hid hw
    have hd : decide (0 ≤ wrongL l) = true := decide_eq_true hw
    clear hw
    go_wp2_with fail
    go_ret
    rw [insE_b HP.out HW.out]
    exact QInsPost.same HQ.out HK2.out
  have hd : decide (0 ≤ wrongL l) = false := decide_eq_false hw
  have hw1 : wrongL l = -1 := by
    rcases wrong_range l with e | e
    · exact e
    · exact absurd e hw
  have HW := Lib.hid hw1
  clear hw hw1
  have HRW := Lib.hid (HR.out.non HK2.out)
  go_wp2_with fail
  go_loopg [22] refs.length (fun gk iv wr => ∃ k : Nat, gk = refs.length - k ∧ k ≤ refs.length ∧ iv = .int .i64 k ∧ Hid (Keeps Non w2 wr) ∧ Hid (∀ j (h : j + 1 < k) (h2 : k ≤ refs.length), Op.bytesLess (refs[j]'(by omega)) (refs[j + 1]'(by omega)) = true))
  case atStart => exact ⟨0, rfl, Nat.zero_le _, rfl, Keeps.refl _ _, fun j h _ => by omega⟩
  case round =>
    obtain ⟨k, rfl, hk, rfl, HK3, HA⟩ := hrel
    by_cases hlt : k < refs.length
    · obtain ⟨b, off, cp, hsh, -, -, -, hbl, hc, -⟩ := (HRW.out.non HK3.out).pos (by omega)
      cases hsh
      have d0 : wr.cell? ⟨b, off + k, none⟩ = some (sv refs[k]) := (hc k (by omega)).trans (svs_get refs k hlt)
      rcases Nat.eq_zero_or_pos k with h0 | h0
      · subst h0
        clear hc d0
        go_upto_region 8 with (fail)
        go_quiet (fail)
        go_wp2_with fail
        go_roundg (refs.length - 1)
        case measure => omega
        case rel => exact ⟨1, rfl, by omega, by go_num, HK3.out.drewN _, fun j h _ => by omega⟩
      · obtain ⟨j, rfl⟩ : ∃ j, k = j + 1 := ⟨k - 1, by omega⟩
        have hj : j < refs.length := by omega
        have d1 : wr.cell? ⟨b, off + j, none⟩ = some (sv refs[j]) := (hc j (by omega)).trans (svs_get refs j hj)
        have HX : Hid (refs[j]? = some refs[j] ∧ refs[j + 1]? = some refs[j + 1]) := ⟨List.getElem?_eq_getElem hj, List.getElem?_eq_getElem hlt⟩
        unfold sv at d0 d1
        clear hc
        generalize refs[j] = x at *
        generalize refs[j + 1] = y at *
        obtain ⟨j1, hj1⟩ : ∃ j1, j1 = j + 1 := ⟨_, rfl⟩
        have e1 : IntKind.i64.wrap (((j + 1 : Nat) : Int) - 1) = (j : Int) := by rw [IntWalk.i64_in _ (by omega)]; omega
        have e2 : (0 : Int) ≤ (j : Int) := by omega
        have e3 : (j : Int) < (refs.length : Int) := by omega
        have e4 : decide ((0 : Int) < ((j + 1 : Nat) : Int)) = true := decide_eq_true (by omega)
        have e5 : decide (0 < j + 1) = true := decide_eq_true (by omega)
        have e6 : (0 : Int) ≤ ((j + 1 : Nat) : Int) := by omega
        have e7 : ((j + 1 : Nat) : Int) < (refs.length : Int) := by omega
        clear hj1
        cases hl : Op.bytesLess x y with
        | true =>
          have hl2 : (Op.bytesLess y x || y == x) = false := by
            have h3 := leS_not y x
            rw [hl, leS] at h3
            exact h3
          have HL := Lib.hid hl
          clear hl
          go_upto_region 8 with (fail)
          go_quiet (fail)
          go_wp2_with fail
          go_roundg (refs.length - (j + 1 + 1))
          case measure => omega
          case rel =>
            refine ⟨j + 1 + 1, rfl, by omega, by go_num, HK3.out.drewN _, fun i hi hi2 => ?_⟩
            by_cases hij : i = j
            · subst hij
              have hh := HL.out
              have h1 := HX.out.1
              have h2 := HX.out.2
              rw [List.getElem?_eq_getElem hj, Option.some.injEq] at h1
              rw [List.getElem?_eq_getElem hlt, Option.some.injEq] at h2
              rw [h1, h2]
              exact hh
            · exact HA.out i (by omega) (by omega)
        | false =>
          have hl2 : (Op.bytesLess y x || y == x) = true := by
            have h3 := leS_not y x
            rw [hl, leS] at h3
            exact h3
          have HL := Lib.hid hl
          clear hl
          go_upto_region 8 with (fail)
          go_quiet (fail)
          go_wp2_with fail
          go_ret
          have hrf : risingB refs = false := by
            cases hb : risingB refs with
            | false => rfl
            | true =>
              have h3 := (rising_iff refs).1 hb j hlt
              have h1 := HX.out.1
              have h2 := HX.out.2
              rw [List.getElem?_eq_getElem hj, Option.some.injEq] at h1
              rw [List.getElem?_eq_getElem hlt, Option.some.injEq] at h2
              rw [h1, h2, HL.out] at h3
              cases h3
          rw [insE_c HP.out HW.out hrf]
          exact QInsPost.same HQ.out ((HK2.out.trans HK3.out fun _ h => h.elim).drewN _)
    · have hk2 : refs.length = k := by omega
      subst hk2
      have hrise : Hid (risingB refs = true) := (rising_iff refs).2 fun j hj => HA.out j hj (Nat.le_refl _)
      have HK4 : Hid (Keeps Non w wr) := HK2.out.trans HK3.out fun _ h => h.elim
      clear HA HK3 HRW
      generalize wr = w3 at *
      go_wp2_with fail
      go_loopg [42] refs.length (fun gk iv wr => ∃ k : Nat, gk = refs.length - k ∧ k ≤ refs.length ∧ iv = .int .i64 k ∧ Hid (Keeps Non w wr) ∧ Hid (∀ x ∈ refs.take k, x = name.data.toList ∨ (findE L x).isSome = true))
      case atStart => exact ⟨0, rfl, Nat.zero_le _, rfl, HK4, by show ∀ x ∈ _, _; simp⟩
      case round =>
        clear HK4
        obtain ⟨k, rfl, hk, rfl, HK5, HB⟩ := hrel
        have HQL5 := Lib.hid (HQL.out.non HK5.out)
        have cr := (HBR.out.keeps HK5.out fun h => h).cell 0
        simp only [List.getElem?_toArray, List.getElem?_cons_zero] at cr
        by_cases hlt : k < refs.length
        · obtain ⟨b, off, cp, hsh, -, -, -, hbl, hc, -⟩ := (HR.out.non HK5.out).pos (by omega)
          cases hsh
          have d0 : wr.cell? ⟨b, off + k, none⟩ = some (sv refs[k]) := (hc k (by omega)).trans (svs_get refs k hlt)
          have HX : Hid (refs[k]? = some refs[k] ∧ refs[k] ∈ refs) := ⟨List.getElem?_eq_getElem hlt, List.getElem_mem _⟩
          clear hc
          generalize refs[k] = x at *
          unfold sv at d0
          by_cases hx : x = name.data.toList
          · have hb : (!x == name.toList) = false := by rw [ByteArray.toList_eq, hx]; simp
            have HXN := Lib.hid hx
            clear hx
            go_wp2_with fail
            go_roundg (refs.length - (k + 1))
            case measure => omega
            case rel =>
              refine ⟨k + 1, rfl, by omega, by go_num, HK5, ?_⟩
              show ∀ y ∈ _, _
              intro y hy
              rw [List.take_add_one, HX.out.1, List.mem_append] at hy
              rcases hy with hy | hy
              · exact HB.out y hy
              · simp only [Option.toList_some, List.mem_singleton] at hy
                rw [hy]
                exact .inl HXN.out
          · have hb : (!x == name.toList) = true := by rw [ByteArray.toList_eq]; simpa using hx
            have HXN : Hid (¬ x = name.data.toList) := hx
            clear hx
            have HAT0 := HQL5.out.at ⟨x.toArray⟩
            rcases idxL_find L x with ⟨hf, hi⟩ | ⟨i, e, -, -, -, hi, -, hf⟩
            · have HFN := Lib.hid hf
              have hi2 : idxL (L.map Ent.path) (⟨x.toArray⟩ : ByteArray).data.toList = -1 := hi
              rw [hi2] at HAT0
              have HAT := Lib.hid HAT0
              clear HAT0 hi hi2 hf
              go_wp2_with fail
              refine HAT.out.mono ?_
              rintro ed w6 ⟨rfl, hk6⟩
              have HK6 : Hid (Keeps Non w w6) := HK5.out.trans hk6 fun _ h => h.elim
              clear hk6 cr d0
              go_wp2_with fail
              go_ret
              rw [insE_d HP.out HW.out hrise.out HX.out.2 HXN.out HFN.out]
              exact QInsPost.same HQ.out HK6.out
            · have HFN := Lib.hid hf
              have hi2 : idxL (L.map Ent.path) (⟨x.toArray⟩ : ByteArray).data.toList = (i : Int) := hi
              rw [hi2] at HAT0
              have HAT := Lib.hid HAT0
              have dn : decide ((i : Int) < 0) = false := decide_eq_false (by omega)
              clear HAT0 hi hi2 hf
              go_wp2_with fail
              refine HAT.out.mono ?_
              rintro ed w6 ⟨rfl, hk6⟩
              have HK6 : Hid (Keeps Non w w6) := HK5.out.trans hk6 fun _ h => h.elim
              clear hk6 cr d0
              go_wp2_with fail
              go_roundg (refs.length - (k + 1))
              case measure => omega
              case rel =>
                refine ⟨k + 1, rfl, by omega, by go_num, HK6, ?_⟩
                show ∀ y ∈ _, _
                intro y hy
                rw [List.take_add_one, HX.out.1, List.mem_append] at hy
                rcases hy with hy | hy
                · exact HB.out y hy
                · simp only [Option.toList_some, List.mem_singleton] at hy
                  rw [hy]
                  exact .inr HFN.out
        · have hk2 : refs.length = k := by omega
          subst hk2
          have HOK2 : Hid (InsOk L name.data.toList l refs) := ⟨HP.out, HW.out, hrise.out, fun x hx => HB.out x (by rw [List.take_length]; exact hx)⟩
          clear HB hrise
          generalize wr = w5 at *
          obtain ⟨i0, hi, hi0, hi1, hi2⟩ := info_parts infoNd
          obtain ⟨i1, hj, hj0, hj1, hj2⟩ := info_parts infoStr
          have hsz5 := HK5.out.size
          go_wp2_with (at_builtin; refine wpList_append_own2 rfl _ _ 50 50 rfl 49 i0 _ 3 40 Tryz.underlying50 hi hi0 hi1 hi2 rfl w.heap.size _ 0 [] rfl _ rfl l.length (nodeCells l) ?d11 (Sl.nil _ _ _ _) ?d12 ?d13 ?d14 ?_)
          try (case d11 => exact hsz5)
          case d12 => exact Src.ofRd Tryz.underlying50 (HV.out.non HK5.out) (nodes_one l)
          case d13 => unfold maxLen; omega
          case d14 => omega
          intro ao1 cc1 w6 hs6 hk6 hkk6 hb6
          have HS6 : Hid (Sl w6 w.heap.size 49 3 (.slice ao1 l.length cc1) l.length (nodeCells l)) := by
            show Sl _ _ _ _ _ _ _
            simpa using hs6
          have HK6 : Hid (Keeps Non w w6) := HK5.out.trans hkk6 fun j hj => by cases hj
          clear hs6 hk6 hkk6 hb6 cr HQL5
          have hsz6 := HK6.out.size
          go_wp2_with (at_builtin; refine wpList_append_own2 rfl _ _ 26 26 rfl 9 i1 _ 1 16 Tryz.underlying26 hj hj0 hj1 hj2 rfl w.heap.size _ 0 [] rfl _ rfl refs.length (svs refs) ?d21 (Sl.nil _ _ _ _) ?d22 ?d23 ?d24 ?_)
          try (case d21 => exact hsz6)
          case d22 => exact Src.ofRd Tryz.underlying26 (HR.out.non HK6.out) (fun u hu => by obtain ⟨_, _, rfl⟩ := List.mem_map.1 hu; rfl)
          case d23 => unfold maxLen; omega
          case d24 => omega
          intro ao2 cc2 w7 hs7 hk7 hkk7 hb7
          have HS7 : Hid (Sl w7 w.heap.size 9 1 (.slice ao2 refs.length cc2) refs.length (svs refs)) := by
            show Sl _ _ _ _ _ _ _
            simpa using hs7
          have HT7 : Hid (Sl w7 w.heap.size 49 3 (.slice ao1 l.length cc1) l.length (nodeCells l)) := HS6.out.keep fun b c _ _ hbk => hbk.keeps hkk7 fun hj => by cases hj
          have HK7 : Hid (Keeps Non w w7) := HK6.out.trans hkk7 fun j hj => by cases hj
          clear hs7 hk7 hkk7 hb7 HS6 hsz5 hsz6 hi hi0 hi1 hi2 hj hj0 hj1 hj2
          go_upto_region 18 with (fail)
          have hk8 : Keeps Non w (w7.alloc (.cells #[.string name, .slice ao1 l.length cc1, .slice ao2 refs.length cc2] 165)) := HK7.out.alloc _
          have hb8 := Blk.new w7 #[.string name, .slice ao1 l.length cc1, .slice ao2 refs.length cc2] 165
          have hs8 := HS7.out.alloc (.cells #[.string name, .slice ao1 l.length cc1, .slice ao2 refs.length cc2] 165)
          have ht8 := HT7.out.alloc (.cells #[.string name, .slice ao1 l.length cc1, .slice ao2 refs.length cc2] 165)
          have hge8 := HK7.out.size
          obtain ⟨w8, hw8⟩ : ∃ w8, w8 = w7.alloc (.cells #[.string name, .slice ao1 l.length cc1, .slice ao2 refs.length cc2] 165) := ⟨_, rfl⟩
          obtain ⟨eb, heb⟩ : ∃ eb, eb = w7.heap.size := ⟨_, rfl⟩
          rw [← hw8] at hk8 hb8 hs8 ht8
          rw [← heb] at hb8 hge8
          rw [← hw8, ← heb]
          have HK8 := Lib.hid hk8
          have HB8 := Lib.hid hb8
          have HS8 := Lib.hid hs8
          have HT8 := Lib.hid ht8
          clear hw8 heb hk8 hb8 hs8 ht8 HS7 HT7
          have HQL8 := Lib.hid (HQL.out.non HK8.out)
          have HBR8 := Lib.hid (HBR.out.keeps HK8.out fun h => h)
          have cr := HBR8.out.cell 0
          simp only [List.getElem?_toArray, List.getElem?_cons_zero] at cr
          have HAT0 := HQL8.out.at name
          rcases idxL_find L name.data.toList with ⟨hf, hi⟩ | ⟨i, e, hLi, hel, hep, hi, hil, hf⟩
          · have HFN := Lib.hid hf
            rw [hi] at HAT0
            have HAT := Lib.hid HAT0
            clear HAT0 hi hf
            go_wp2_with fail
            refine HAT.out.mono ?_
            rintro ed w9 ⟨rfl, hk9⟩
            have HK9 : Hid (Keeps Non w8 w9) := hk9
            clear hk9 cr HAT
            have cr := (HBR8.out.keeps HK9.out fun h => h).cell 0
            simp only [List.getElem?_toArray, List.getElem?_cons_zero] at cr
            by_cases h10 : T.length = 10
            · have hb : ((T.length : Int) == 10) = true := by rw [h10]; rfl
              have H10 : Hid (L.length = 10) := by show _ = _; rw [← HTL.out]; exact h10
              clear h10
              go_wp2_with fail
              go_ret
              have hins : insE L name.data.toList l refs = (14, L) := by rw [insE_e HOK2.out, HFN.out, if_pos H10.out]
              rw [hins]
              exact QInsPost.same HQ.out (HK8.out.trans HK9.out fun _ h => h.elim)
            · have hb : ((T.length : Int) == 10) = false := by rw [beq_eq_false_iff_ne]; omega
              have H10 : Hid (¬ L.length = 10) := by show ¬ _; rw [← HTL.out]; exact h10
              clear h10
              go_upto_region 25 with (fail)
              have hsv : sv name.data.toList = .string name := by simp [sv]
              have HPUT : Hid (∀ wx, Keeps Non w9 wx → Calls Tryz.prog 100 #[.slice qa T.length qc, .agg #[.string name, .slice ao1 l.length cc1, .slice ao2 refs.length cc2]] wx fun e w' => ∃ v', e = .returned v' ∧ Sl w' wx.heap.size 165 3 v' (T.length + 1) (trip (T.take (putK L name.data.toList) ++ (sv name.data.toList, .slice ao1 l.length cc1, .slice ao2 refs.length cc2) :: T.drop (putK L name.data.toList))) ∧ Keeps Non wx w') := fun wx hk => by
                have h1 := rput_any wx ((HQL8.out.non HK9.out).non hk) HOK.out.ten name.data.toList ao1 ao2 l.length cc1 refs.length cc2
                rw [hsv] at h1 ⊢
                exact h1
              have hb9 := HB8.out.keeps HK9.out fun h => h
              have e0 := hb9.cell 0
              have e1 := hb9.cell 1
              have e2 := hb9.cell 2
              simp only [List.getElem?_toArray, List.getElem?_cons_zero, List.getElem?_cons_succ] at e0 e1 e2
              have hr9 := HBR8.out.keeps HK9.out fun h => h
              have HR9 := Lib.hid hr9
              clear hb9 hr9
              go_region_with (go_at_call 100; refine (HPUT.out _ (by first | exact Keeps.refl _ _ | exact (Keeps.refl _ _).drew)).mono ?_; rintro ed w10 ⟨v', rfl, hs10, hk10⟩; obtain ⟨pa1, pc1, rfl, -, -⟩ := hs10.shape; replace hk10 := (show Keeps Non w9 w10 by first | exact hk10 | exact hk10.un); have cr10 := (HR9.out.keeps hk10 fun h => h).cell 0; have fr10 := (HR9.out.keeps hk10 fun h => h).free 0; simp only [List.getElem?_toArray, List.getElem?_cons_zero] at cr10)
              all_goals (
                have HS10 := hs10
                have hins : insE L name.data.toList l refs = (0, putE L ⟨name.data.toList, l, refs⟩) := by rw [insE_e HOK2.out, HFN.out, if_neg H10.out]
                have hr10 := HR9.out.keeps hk10 fun h => h
                have HFIN := Lib.hid (qins_done HQ.out HRLT.out HQL.out HTL.out HK8.out HK9.out hk10 hr10 HT8.out HS8.out hs10 rfl hins (by have h1 := HK8.out.size; have h2 := HK9.out.size; first | exact Nat.le_trans h1 h2 | (show w.heap.size ≤ w9.heap.size; exact Nat.le_trans h1 h2)))
                clear hs10 hk10 cr10 fr10 hr10 HS10 e0 e1 e2 cr
                go_wp2_with fail
                go_ret
                rw [hins]
                exact HFIN.out)
          · have hfe : findE L name.data.toList = some e := by
              cases hfe : findE L name.data.toList with
              | none => rw [hfe] at hf; cases hf
              | some e' =>
                obtain ⟨he', hep'⟩ := findE_some hfe
                rw [HOK.out.uniq he' hel (hep'.trans hep.symm)]
            have HFE := Lib.hid hfe
            rw [hi] at HAT0
            have HAT := Lib.hid HAT0
            have dn : decide ((0 : Int) ≤ (i : Int)) = true := decide_eq_true (by omega)
            have hiT : i < T.length := by rw [HTL.out]; exact hil
            obtain ⟨x, hx⟩ : ∃ x, T[i]? = some x := ⟨_, List.getElem?_eq_getElem hiT⟩
            have HX := Lib.hid (HQL8.out.ents i e x hLi hx)
            have HXT := Lib.hid hx
            have HFE2 := Lib.hid (HFL.out e hel)
            have HG2 := Lib.hid (HOK.out.good e hel)
            clear HAT0 hi hf hfe hx hLi hep hel
            go_wp2_with fail
            refine HAT.out.mono ?_
            rintro ed w9 ⟨rfl, hk9⟩
            have HK9 : Hid (Keeps Non w8 w9) := hk9
            clear hk9 cr HAT
            have cr := (HBR8.out.keeps HK9.out fun h => h).cell 0
            have hb9 := HB8.out.keeps HK9.out fun h => h
            have e0 := hb9.cell 0
            have e1 := hb9.cell 1
            have e2 := hb9.cell 2
            simp only [List.getElem?_toArray, List.getElem?_cons_zero, List.getElem?_cons_succ] at e0 e1 e2 cr
            obtain ⟨b, off, cp, hsh, -, -, -, hbl, hc, -⟩ := (HQL8.out.non HK9.out).rd.pos (by omega)
            cases hsh
            obtain ⟨t1, t2, t3⟩ := trip_at T i x HXT.out
            have hX9 := HX.out.keeps HK9.out fun _ _ h => h
            have c0 := (hc (i * 3) (by omega)).trans t1
            have c1 := (hc (i * 3 + 1) (by omega)).trans t2
            have c2 := (hc (i * 3 + 2) (by omega)).trans t3
            obtain ⟨x0, x1, x2⟩ := x
            have hp0 := hX9.path
            simp only at hp0 c0 c1 c2
            subst hp0
            obtain ⟨xa1, xc1, hx1, -, -⟩ := hX9.tree.shape
            obtain ⟨xa2, xc2, hx2, -, -⟩ := hX9.refs.shape
            simp only at hx1 hx2
            subst hx1 hx2
            rw [← Nat.add_assoc] at c1 c2
            unfold sv at c0
            have HSAME : Hid (∀ wx, Keeps Non w9 wx → Calls Tryz.prog 99 #[.agg #[.string ⟨e.path.toArray⟩, .slice xa1 e.tree.length xc1, .slice xa2 e.refs.length xc2], .agg #[.string name, .slice ao1 l.length cc1, .slice ao2 refs.length cc2]] wx fun ed w' => ed = .returned (.bool (sameE e ⟨name.data.toList, l, refs⟩)) ∧ Keeps Non wx w') := fun wx hk =>
              rsame_any wx e ⟨name.data.toList, l, refs⟩ _ _ _ _ _ _ (hX9.tree.non hk) (hX9.refs.non hk) ((HT8.out.rd.non HK9.out).non hk) ((HS8.out.rd.non HK9.out).non hk) HG2.out.2.1 HW.out HFE2.out ⟨HF.out, HPL.out, hrl, HRS.out⟩
            have f1 : (0 : Int) ≤ (i : Int) := by omega
            have f2 : (i : Int) < (T.length : Int) := by omega
            clear hc t1 t2 t3 hX9 hb9
            go_upto_region 20 with (fail)
            cases hse : sameE e ⟨name.data.toList, l, refs⟩ with
            | true =>
              have HSE := Lib.hid hse
              rw [hse] at HSAME
              clear hse
              have hins : insE L name.data.toList l refs = (0, L) := by rw [insE_e HOK2.out, HFE.out]; simp [HSE.out]
              have HINS := Lib.hid hins
              clear hins
              go_region_with (go_at_call 99; refine (HSAME.out _ (by first | exact Keeps.refl _ _ | exact (Keeps.refl _ _).drew)).mono ?_; rintro ed w10 ⟨rfl, hk10⟩; replace hk10 := (show Keeps Non w9 w10 by first | exact hk10 | exact hk10.un))
              all_goals (
                have HK10 : Hid (Keeps Non w w10) := (HK8.out.trans HK9.out fun _ h => h.elim).trans hk10 fun _ h => h.elim
                clear hk10
                go_wp2_with fail
                go_ret
                rw [HINS.out]
                exact QInsPost.same HQ.out HK10.out)
            | false =>
              have HSE := Lib.hid hse
              rw [hse] at HSAME
              clear hse
              have hins : insE L name.data.toList l refs = (12, L) := by rw [insE_e HOK2.out, HFE.out]; simp [HSE.out]
              have HINS := Lib.hid hins
              clear hins
              go_region_with (go_at_call 99; refine (HSAME.out _ (by first | exact Keeps.refl _ _ | exact (Keeps.refl _ _).drew)).mono ?_; rintro ed w10 ⟨rfl, hk10⟩; replace hk10 := (show Keeps Non w9 w10 by first | exact hk10 | exact hk10.un))
              all_goals (
                have HK10 : Hid (Keeps Non w w10) := (HK8.out.trans HK9.out fun _ h => h.elim).trans hk10 fun _ h => h.elim
                clear hk10
                go_wp2_with fail
                go_ret
                rw [HINS.out]
                exact QInsPost.same HQ.out HK10.out)
end Go.Proofs.YtdkogijdfgfpeaaGreatDoor
