/- The document's store: entries compared, one more put in. -/
import Derived.Test.YtdkogijdfgfpeaaGreatDoorChecked
import Derived.Test.YtdkogijdfgfpeaaGreatDoorQStore
import Derived.Test.YtdkogijdfgfpeaaGreatDoorStr
import Derived.Test.YtdkogijdfgfpeaaGreatDoorOwn
namespace Go.Proofs.YtdkogijdfgfpeaaGreatDoor
open Go Go.RowKit
set_option linter.unusedVariables false

theorem infoQE : (Tryz.prog.info? 165).map (fun i => (i.zero, i.size, i.bytes)) = some (some (.agg #[.string ⟨#[]⟩, .slice none 0 0, .slice none 0 0]), 3, 64) := by kernel_rfl
/-- the place where a path is put -/
def putK (L : Ents) (p : List UInt8) : Nat := (L.takeWhile fun x => Op.bytesLess x.path p).length
theorem putE_eq (L : Ents) (e : Ent) : putE L e = L.take (putK L e.path) ++ e :: L.drop (putK L e.path) := by
  unfold putE putK
  have h := List.takeWhile_append_dropWhile (p := fun x : Ent => Op.bytesLess x.path e.path) (l := L)
  generalize L.takeWhile (fun x => Op.bytesLess x.path e.path) = a at *
  generalize L.dropWhile (fun x => Op.bytesLess x.path e.path) = b at *
  subst h
  simp
theorem trip_one : ∀ (T : List (Value × Value × Value)), (∀ x ∈ T, x.1.oneCell' = true ∧ x.2.1.oneCell' = true ∧ x.2.2.oneCell' = true) → ∀ u ∈ trip T, u.oneCell' = true := fun T h u hu => by
  unfold trip at hu
  obtain ⟨x, hx, hux⟩ := List.mem_flatMap.1 hu
  obtain ⟨h1, h2, h3⟩ := h x hx
  simp only [List.mem_cons, List.not_mem_nil, or_false] at hux
  rcases hux with rfl | rfl | rfl
  · exact h1
  · exact h2
  · exact h3
theorem putK_eq {L : Ents} {p : List UInt8} {k : Nat} (hk : k ≤ L.length) (h : ∀ x ∈ L.take k, Op.bytesLess x.path p = true) (h2 : ∀ e, L[k]? = some e → Op.bytesLess e.path p = false) : putK L p = k := by
  unfold putK
  conv => lhs; rw [← List.take_append_drop k L]
  rw [List.takeWhile_append_of_pos (fun x hx => h x hx)]
  have hd : (L.drop k).takeWhile (fun x => Op.bytesLess x.path p) = [] := by
    cases hdk : L.drop k with
    | nil => rfl
    | cons e r =>
      have he : L[k]? = some e := by
        have := congrArg (fun l => l[0]?) hdk
        simpa [List.getElem?_drop] using this
      rw [List.takeWhile_cons_of_neg (by simp [h2 e he])]
  rw [hd, List.append_nil, List.length_take]
  omega
theorem Rd.takeG {w : World} {size : Nat} {a : Option Addr} {n cap m : Nat} {xs : List Value} (h : Rd w size (.slice a n cap) n xs) (hm : m ≤ n) : Rd w size (.slice a m cap) m (xs.take (m * size)) := by
  have hle : m * size ≤ n * size := Nat.mul_le_mul_right _ hm
  obtain ⟨h1, ⟨a, cap, h2, h3, h4⟩ | ⟨b, off, cap, h2, h3, h4, h5, h6⟩⟩ := h
  · cases h2
    have hm0 : m = 0 := by omega
    subst hm0
    exact ⟨by simp, .inl ⟨_, _, rfl, rfl, h4⟩⟩
  · cases h2
    refine ⟨by rw [List.length_take]; omega, .inr ⟨_, _, _, rfl, by omega, h4, h5, fun j hj => ?_⟩⟩
    rw [h6 j (by omega), List.getElem?_take, if_pos hj]
theorem Rd.dropG {w : World} {size b off n cap m : Nat} {xs : List Value} (h : Rd w size (.slice (some ⟨b, off, none⟩) n cap) n xs) (hm : m ≤ n) : Rd w size (.slice (some ⟨b, off + m * size, none⟩) (n - m) (cap - m)) (n - m) (xs.drop (m * size)) := by
  have hle : m * size ≤ n * size := Nat.mul_le_mul_right _ hm
  obtain ⟨h1, ⟨a, c, h2, h3, h4⟩ | ⟨b', off', c, h2, h3, h4, h5, h6⟩⟩ := h
  · cases h2
    have hm0 : m = 0 := by omega
    subst hm0
    exact ⟨by simp at h1 ⊢; exact h1, .inl ⟨some ⟨b, off, none⟩, cap, by simp, rfl, h4⟩⟩
  · cases h2
    refine ⟨by rw [List.length_drop, h1, Nat.sub_mul], .inr ⟨_, _, _, rfl, by omega, by omega, h5, fun j hj => ?_⟩⟩
    rw [Nat.sub_mul] at hj
    rw [Nat.add_assoc, h6 _ (by omega), List.getElem?_drop]
theorem QList.one {w : World} {G : Nat → Prop} {L : Ents} {v : Value} {T : List (Value × Value × Value)} (h : QList w G L v T) : ∀ x ∈ T, x.1.oneCell' = true ∧ x.2.1.oneCell' = true ∧ x.2.2.oneCell' = true := fun x hx => by
  obtain ⟨i, hi, rfl⟩ := List.getElem_of_mem hx
  have hil : i < L.length := by rw [← h.len]; exact hi
  have hE := h.ents i _ _ (List.getElem?_eq_getElem hil) (List.getElem?_eq_getElem hi)
  obtain ⟨a1, c1, e1, -, -⟩ := hE.tree.shape
  obtain ⟨a2, c2, e2, -, -⟩ := hE.refs.shape
  rw [hE.path, e1, e2]
  exact ⟨rfl, rfl, rfl⟩
set_option maxHeartbeats 1600000 in
set_option maxRecDepth 100000 in
/-- a list with one more -/
theorem rput_any {G : Nat → Prop} {L : Ents} {v : Value} {T : List (Value × Value × Value)} (w : World) (h : QList w G L v T) (hten : L.length ≤ 10) (p : List UInt8) (ta ra : Option Addr) (tn tc rn rc : Nat) :
    Calls Tryz.prog 100 #[v, .agg #[sv p, .slice ta tn tc, .slice ra rn rc]] w fun e w' => ∃ v', e = .returned v' ∧ Sl w' w.heap.size 165 3 v' (T.length + 1) (trip (T.take (putK L p) ++ (sv p, .slice ta tn tc, .slice ra rn rc) :: T.drop (putK L p))) ∧ Keeps Non w w' := by
  obtain ⟨va, vc, rfl, hc1, hc2⟩ := h.rd.shape
  unfold maxLen at hc2
  have HQ := Lib.hid h
  have HTL := Lib.hid h.len
  have ht10 : T.length ≤ 10 := by have := h.len; omega
  clear h
  have hk0 : Keeps Non w (w.alloc (.cells #[.string ⟨p.toArray⟩, .slice ta tn tc, .slice ra rn rc] 165)) := (Keeps.refl _ _).alloc _
  have hb0 := Blk.new w #[.string ⟨p.toArray⟩, .slice ta tn tc, .slice ra rn rc] 165
  obtain ⟨W, hW⟩ : ∃ W, W = w.alloc (.cells #[.string ⟨p.toArray⟩, .slice ta tn tc, .slice ra rn rc] 165) := ⟨_, rfl⟩
  obtain ⟨eb, heb⟩ : ∃ eb, eb = w.heap.size := ⟨_, rfl⟩
  rw [← hW] at hk0 hb0
  rw [← heb] at hb0
  have HK0 := Lib.hid hk0
  have HB0 := Lib.hid hb0
  have HQW := Lib.hid (HQ.out.non hk0)
  unfold sv
  go_enter Tryz.func100, Tryz.ntmps100
  go_upto_region 1 with (fail)
  rw [← hW, ← heb]
  clear hW heb hk0 hb0
  go_wp2_with fail
  go_loopg [5] T.length (fun gk iv wr => ∃ k : Nat, gk = T.length - k ∧ k ≤ T.length ∧ iv = .int .i64 k ∧ Hid (Keeps Non W wr) ∧ Hid (∀ x ∈ L.take k, Op.bytesLess x.path p = true))
  case atStart => exact ⟨0, rfl, Nat.zero_le _, rfl, Keeps.refl _ _, by show ∀ x ∈ _, _; simp⟩
  case round =>
    obtain ⟨k, rfl, hk, rfl, HD, HA⟩ := hrel
    by_cases hlt : k < T.length
    · have d1 : decide ((k : Int) < (T.length : Int)) = true := decide_eq_true (by omega)
      have d1' : decide (k < T.length) = true := decide_eq_true hlt
      have hQ := HQW.out.non HD.out
      have hB := HB0.out.keeps HD.out fun h => h
      obtain ⟨b, off, cp, hsh, -, -, -, hbl, hcc, -⟩ := hQ.rd.pos (by omega)
      cases hsh
      obtain ⟨x, hx⟩ : ∃ x, T[k]? = some x := ⟨_, List.getElem?_eq_getElem hlt⟩
      obtain ⟨e, he⟩ : ∃ e, L[k]? = some e := ⟨_, List.getElem?_eq_getElem (by rw [← HTL.out]; exact hlt)⟩
      have c0 := (hcc (k * 3) (by omega)).trans (trip_at T k x hx).1
      rw [(hQ.ents k e x he hx).path] at c0
      have b0 := hB.cell 0
      simp only [List.getElem?_toArray, List.getElem?_cons_zero] at b0
      unfold sv at c0
      have HE := Lib.hid he
      clear hcc hQ hB hx he
      have q1 : (0 : Int) ≤ (k : Int) := by omega
      have q2 : (k : Int) < (T.length : Int) := by omega
      cases hl : Op.bytesLess e.path p with
      | true =>
        have HLL := Lib.hid hl
        go_upto_region 2 with (fail)
        go_quiet (fail)
        go_wp2_with fail
        go_roundg (T.length - (k + 1))
        case measure => omega
        case rel =>
          refine ⟨k + 1, rfl, by omega, by go_num, HD.out.drewN _, ?_⟩
          show ∀ x ∈ _, _
          intro x hx
          rw [List.take_add_one, HE.out, List.mem_append] at hx
          rcases hx with hx | hx
          · exact HA.out x hx
          · simp only [Option.toList_some, List.mem_singleton] at hx
            rw [hx]
            exact HLL.out
      | false =>
        have hstop : ∀ e', L[k]? = some e' → Op.bytesLess e'.path p = false := fun e' he' => by
          rw [HE.out, Option.some.injEq] at he'
          rw [← he']
          exact hl
        go_upto_region 2 with (fail)
        go_quiet (fail)
        have HKK := Lib.hid (putK_eq (by rw [← HTL.out]; exact hk) HA.out hstop)
        clear hstop
        go_upto_region 4 with (fail)
        have HKA : Hid (Keeps Non W (wr.drewN nq)) := HD.out.drewN _
        generalize wr.drewN nq = wA at *
        have f4 : ¬ vc = k := by omega
        have f5 : (T.length : Int) ≤ (vc : Int) := by omega
        have f2 : (k : Int) ≤ (vc : Int) := by omega
        obtain ⟨i0, hi, hi0, hi1, hi2⟩ := info_parts infoQE
        have f1 : (0 : Int) ≤ (k : Int) := by omega
        have f3 : (k : Int) ≤ (T.length : Int) := by omega
        have hsw := HK0.out.size
        have hsA := HKA.out.size
        have HONE := Lib.hid HQ.out.one
        go_wp2_with (at_builtin; refine wpList_append_own2 rfl _ _ 128 128 rfl 165 i0 _ 3 64 Tryz.underlying128 hi hi0 hi1 hi2 rfl W.heap.size _ 0 [] rfl _ rfl k (trip (T.take k)) ?c101 (Sl.nil _ _ _ _) ?c201 ?c301 ?c401 ?_)
        try (case c101 => omega)
        case c201 =>
          have h1 := (HQW.out.non HKA.out).rd.takeG (m := k) hk
          rw [trip_take] at h1
          exact Src.ofRd Tryz.underlying128 h1 (trip_one _ fun x hx => HONE.out x (List.mem_of_mem_take hx))
        case c301 => unfold maxLen; omega
        case c401 => omega
        intro ao cc w1 hs1 hk1 hkk1 hb1
        have HS1 := Lib.hid hs1
        have HK1 : Hid (Keeps Non W w1) := HKA.out.trans hkk1 fun j hj => by cases hj
        have hb := HB0.out.keeps HK1.out fun h => h
        have e0 := hb.cell 0
        have e1 := hb.cell 1
        have e2 := hb.cell 2
        simp only [List.getElem?_toArray, List.getElem?_cons_zero, List.getElem?_cons_succ] at e0 e1 e2
        clear hs1 hk1 hkk1 hb1 hb
        have hs1' := HS1.out
        have hsz1 := HK1.out.size
        go_wp2_with (at_builtin; refine wpList_append_own2 rfl _ _ 128 128 rfl 165 i0 _ 3 64 Tryz.underlying128 hi hi0 hi1 hi2 rfl W.heap.size _ _ _ rfl _ rfl 1 [.string ⟨p.toArray⟩, .slice ta tn tc, .slice ra rn rc] ?c102 (hs1'.alloc _) ?c202 ?c302 ?c402 ?_)
        try (case c102 => simp; omega)
        case c202 => exact Src.ofSl Tryz.underlying128 (Sl.of_new w1 0 (Nat.zero_le _) 165 3 1 [.string ⟨p.toArray⟩, .slice ta tn tc, .slice ra rn rc] rfl (by simp [maxLen])) (by intro u hu; simp only [List.mem_cons, List.not_mem_nil, or_false] at hu; rcases hu with rfl | rfl | rfl <;> rfl)
        case c302 => unfold maxLen; omega
        case c402 => omega
        intro bo bc w2 hs2 hk2' hkk2 hb2
        have HS2 := Lib.hid hs2
        have HK2 : Hid (Keeps Non W w2) := (HK1.out.alloc _).trans hkk2 fun j hj => .inr (hs1'.own j hj).1
        clear hs2 hk2' hkk2 hb2 hs1' e0 e1 e2
        have hs2' := HS2.out
        have hsz2 := HK2.out.size
        go_wp2_with (at_builtin; refine wpList_append_own2 rfl _ _ 128 128 rfl 165 i0 _ 3 64 Tryz.underlying128 hi hi0 hi1 hi2 rfl W.heap.size _ _ _ rfl _ rfl (T.length - k) (trip (T.drop k)) ?c103 hs2' ?c203 ?c303 ?c403 ?_)
        try (case c103 => omega)
        case c203 =>
          have h1 := (HQW.out.non HK2.out).rd.dropG (m := k) hk
          rw [trip_drop] at h1
          exact Src.ofRd Tryz.underlying128 h1 (trip_one _ fun x hx => HONE.out x (List.mem_of_mem_drop hx))
        case c303 => unfold maxLen; omega
        case c403 => omega
        intro do' dc w3 hs3 hk3 hkk3 hb3
        have HK3 : Hid (Keeps Non w w3) := HK0.out.trans (HK2.out.trans hkk3 fun j hj => .inr (hs2'.own j hj).1) fun _ h => h.elim
        have HS3 := Lib.hid (hs3.mono hsw)
        clear hs3 hk3 hkk3 hb3 hs2'
        go_wp2_with fail
        go_ret
        have hlen : k + 1 + (T.length - k) = T.length + 1 := by omega
        refine ⟨.slice do' (_ + 1 + (T.length - _)) dc, rfl, ?_, HK3.out⟩
        have h1 := HS3.out
        rw [HKK.out, trip_append, show trip ((.string ⟨p.toArray⟩, .slice ta tn tc, .slice ra rn rc) :: T.drop k) = .string ⟨p.toArray⟩ :: .slice ta tn tc :: .slice ra rn rc :: trip (T.drop k) from rfl]
        try simp only [Nat.zero_add, List.nil_append, List.append_assoc, List.cons_append] at h1
        rw [hlen] at h1 ⊢
        exact h1
    · have d1 : decide ((k : Int) < (T.length : Int)) = false := decide_eq_false (by omega)
      have hk2 : T.length = k := by omega
      have hstop : ∀ e', L[k]? = some e' → Op.bytesLess e'.path p = false := fun e' he' => by
        rw [List.getElem?_eq_none (by rw [← HTL.out]; omega)] at he'
        cases he'
      have d1' : decide (k < T.length) = false := decide_eq_false hlt
      go_upto_region 2 with (fail)
      go_quiet (fail)
      have HKK := Lib.hid (putK_eq (by rw [← HTL.out]; exact hk) HA.out hstop)
      clear hstop
      go_upto_region 4 with (fail)
      have HKA : Hid (Keeps Non W (wr.drewN nq)) := HD.out.drewN _
      generalize wr.drewN nq = wA at *
      have HE2 : Hid (T.length = k) := hk2
      clear hk2
      obtain ⟨h1s, ⟨h2s, h3s⟩ | ⟨b, off, cap, c, h2s, -, -, h3s, -⟩⟩ := HQ.out.sl
      · simp only [Value.slice.injEq] at h2s
        obtain ⟨rfl, -, rfl⟩ := h2s
        have f2 : ((0 : Nat) : Int) ≤ 0 := by omega
        have hk0 : k = 0 := by have := HE2.out; omega
        subst hk0
        obtain ⟨i0, hi, hi0, hi1, hi2⟩ := info_parts infoQE
        have f1 : (0 : Int) ≤ (0 : Int) := by omega
        have f3 : (0 : Int) ≤ (T.length : Int) := by omega
        have hsw := HK0.out.size
        have hsA := HKA.out.size
        have HONE := Lib.hid HQ.out.one
        go_wp2_with (at_builtin; refine wpList_append_own2 rfl _ _ 128 128 rfl 165 i0 _ 3 64 Tryz.underlying128 hi hi0 hi1 hi2 rfl W.heap.size _ 0 [] rfl _ rfl 0 (trip (T.take 0)) ?c104 (Sl.nil _ _ _ _) ?c204 ?c304 ?c404 ?_)
        try (case c104 => omega)
        case c204 =>
          have h1 := (HQW.out.non HKA.out).rd.takeG (m := 0) hk
          rw [trip_take] at h1
          exact Src.ofRd Tryz.underlying128 h1 (trip_one _ fun x hx => HONE.out x (List.mem_of_mem_take hx))
        case c304 => unfold maxLen; omega
        case c404 => omega
        intro ao cc w1 hs1 hk1 hkk1 hb1
        have HS1 := Lib.hid hs1
        have HK1 : Hid (Keeps Non W w1) := HKA.out.trans hkk1 fun j hj => by cases hj
        have hb := HB0.out.keeps HK1.out fun h => h
        have e0 := hb.cell 0
        have e1 := hb.cell 1
        have e2 := hb.cell 2
        simp only [List.getElem?_toArray, List.getElem?_cons_zero, List.getElem?_cons_succ] at e0 e1 e2
        clear hs1 hk1 hkk1 hb1 hb
        have hs1' := HS1.out
        have hsz1 := HK1.out.size
        go_wp2_with (at_builtin; refine wpList_append_own2 rfl _ _ 128 128 rfl 165 i0 _ 3 64 Tryz.underlying128 hi hi0 hi1 hi2 rfl W.heap.size _ _ _ rfl _ rfl 1 [.string ⟨p.toArray⟩, .slice ta tn tc, .slice ra rn rc] ?c105 (hs1'.alloc _) ?c205 ?c305 ?c405 ?_)
        try (case c105 => simp; omega)
        case c205 => exact Src.ofSl Tryz.underlying128 (Sl.of_new w1 0 (Nat.zero_le _) 165 3 1 [.string ⟨p.toArray⟩, .slice ta tn tc, .slice ra rn rc] rfl (by simp [maxLen])) (by intro u hu; simp only [List.mem_cons, List.not_mem_nil, or_false] at hu; rcases hu with rfl | rfl | rfl <;> rfl)
        case c305 => unfold maxLen; omega
        case c405 => omega
        intro bo bc w2 hs2 hk2' hkk2 hb2
        have HS2 := Lib.hid hs2
        have HK2 : Hid (Keeps Non W w2) := (HK1.out.alloc _).trans hkk2 fun j hj => .inr (hs1'.own j hj).1
        clear hs2 hk2' hkk2 hb2 hs1' e0 e1 e2
        have hs2' := HS2.out
        have hsz2 := HK2.out.size
        go_wp2_with (at_builtin; refine wpList_append_own2 rfl _ _ 128 128 rfl 165 i0 _ 3 64 Tryz.underlying128 hi hi0 hi1 hi2 rfl W.heap.size _ _ _ rfl _ rfl (T.length - 0) (trip (T.drop 0)) ?c106 hs2' ?c206 ?c306 ?c406 ?_)
        try (case c106 => omega)
        case c206 =>
          rw [HE2.out]
          have hd : T = [] := List.eq_nil_of_length_eq_zero HE2.out
          subst hd
          exact Src.ofRd Tryz.underlying128 ⟨rfl, .inl ⟨_, _, rfl, rfl, by simp [maxLen]⟩⟩ (by intro u hu; cases hu)
        case c306 => unfold maxLen; omega
        case c406 => omega
        intro do' dc w3 hs3 hk3 hkk3 hb3
        have HK3 : Hid (Keeps Non w w3) := HK0.out.trans (HK2.out.trans hkk3 fun j hj => .inr (hs2'.own j hj).1) fun _ h => h.elim
        have HS3 := Lib.hid (hs3.mono hsw)
        clear hs3 hk3 hkk3 hb3 hs2'
        go_wp2_with fail
        go_ret
        have hT : T = [] := List.eq_nil_of_length_eq_zero HE2.out
        subst hT
        refine ⟨.slice do' 1 dc, rfl, ?_, HK3.out⟩
        rw [HKK.out]
        have h1 := HS3.out
        simpa [trip] using h1
      · cases h2s
        have f2 : (k : Int) ≤ (vc : Int) := by omega
        have f5 : (T.length : Int) ≤ (vc : Int) := by omega
        have f6 := HE2.out
        by_cases f4 : vc = k
        · have HF6 := Lib.hid f6
          obtain rfl : k = vc := f4.symm
          clear f6
          obtain ⟨i0, hi, hi0, hi1, hi2⟩ := info_parts infoQE
          have f1 : (0 : Int) ≤ (k : Int) := by omega
          have f3 : (k : Int) ≤ (T.length : Int) := by omega
          have hsw := HK0.out.size
          have hsA := HKA.out.size
          have HONE := Lib.hid HQ.out.one
          go_wp2_with (at_builtin; refine wpList_append_own2 rfl _ _ 128 128 rfl 165 i0 _ 3 64 Tryz.underlying128 hi hi0 hi1 hi2 rfl W.heap.size _ 0 [] rfl _ rfl k (trip (T.take k)) ?c107 (Sl.nil _ _ _ _) ?c207 ?c307 ?c407 ?_)
          try (case c107 => omega)
          case c207 =>
            have h1 := (HQW.out.non HKA.out).rd.takeG (m := k) hk
            rw [trip_take] at h1
            exact Src.ofRd Tryz.underlying128 h1 (trip_one _ fun x hx => HONE.out x (List.mem_of_mem_take hx))
          case c307 => unfold maxLen; omega
          case c407 => omega
          intro ao cc w1 hs1 hk1 hkk1 hb1
          have HS1 := Lib.hid hs1
          have HK1 : Hid (Keeps Non W w1) := HKA.out.trans hkk1 fun j hj => by cases hj
          have hb := HB0.out.keeps HK1.out fun h => h
          have e0 := hb.cell 0
          have e1 := hb.cell 1
          have e2 := hb.cell 2
          simp only [List.getElem?_toArray, List.getElem?_cons_zero, List.getElem?_cons_succ] at e0 e1 e2
          clear hs1 hk1 hkk1 hb1 hb
          have hs1' := HS1.out
          have hsz1 := HK1.out.size
          go_wp2_with (at_builtin; refine wpList_append_own2 rfl _ _ 128 128 rfl 165 i0 _ 3 64 Tryz.underlying128 hi hi0 hi1 hi2 rfl W.heap.size _ _ _ rfl _ rfl 1 [.string ⟨p.toArray⟩, .slice ta tn tc, .slice ra rn rc] ?c108 (hs1'.alloc _) ?c208 ?c308 ?c408 ?_)
          try (case c108 => simp; omega)
          case c208 => exact Src.ofSl Tryz.underlying128 (Sl.of_new w1 0 (Nat.zero_le _) 165 3 1 [.string ⟨p.toArray⟩, .slice ta tn tc, .slice ra rn rc] rfl (by simp [maxLen])) (by intro u hu; simp only [List.mem_cons, List.not_mem_nil, or_false] at hu; rcases hu with rfl | rfl | rfl <;> rfl)
          case c308 => unfold maxLen; omega
          case c408 => omega
          intro bo bc w2 hs2 hk2' hkk2 hb2
          have HS2 := Lib.hid hs2
          have HK2 : Hid (Keeps Non W w2) := (HK1.out.alloc _).trans hkk2 fun j hj => .inr (hs1'.own j hj).1
          clear hs2 hk2' hkk2 hb2 hs1' e0 e1 e2
          have hs2' := HS2.out
          have hsz2 := HK2.out.size
          go_wp2_with (at_builtin; refine wpList_append_own2 rfl _ _ 128 128 rfl 165 i0 _ 3 64 Tryz.underlying128 hi hi0 hi1 hi2 rfl W.heap.size _ _ _ rfl _ rfl (T.length - k) (trip (T.drop k)) ?c109 hs2' ?c209 ?c309 ?c409 ?_)
          try (case c109 => omega)
          case c209 =>
            have hd : T.drop k = [] := List.drop_eq_nil_of_le (by omega)
            have hz : T.length - k = 0 := by omega
            rw [hd, hz]
            exact Src.ofRd Tryz.underlying128 ⟨rfl, .inl ⟨_, _, rfl, rfl, by unfold maxLen; omega⟩⟩ (by intro u hu; cases hu)
          case c309 => unfold maxLen; omega
          case c409 => omega
          intro do' dc w3 hs3 hk3 hkk3 hb3
          have HK3 : Hid (Keeps Non w w3) := HK0.out.trans (HK2.out.trans hkk3 fun j hj => .inr (hs2'.own j hj).1) fun _ h => h.elim
          have HS3 := Lib.hid (hs3.mono hsw)
          clear hs3 hk3 hkk3 hb3 hs2'
          go_wp2_with fail
          go_ret
          have hlen : k + 1 + (T.length - k) = T.length + 1 := by omega
          refine ⟨.slice do' (k + 1) dc, rfl, ?_, HK3.out⟩
          have h1 := HS3.out
          rw [HKK.out, trip_append, show trip ((.string ⟨p.toArray⟩, .slice ta tn tc, .slice ra rn rc) :: T.drop k) = .string ⟨p.toArray⟩ :: .slice ta tn tc :: .slice ra rn rc :: trip (T.drop k) from rfl]
          try simp only [Nat.zero_add, List.nil_append, List.append_assoc, List.cons_append] at h1
          rw [HE2.out]
          exact h1
        · have HF6 := Lib.hid f6
          clear f6
          obtain ⟨i0, hi, hi0, hi1, hi2⟩ := info_parts infoQE
          have f1 : (0 : Int) ≤ (k : Int) := by omega
          have f3 : (k : Int) ≤ (T.length : Int) := by omega
          have hsw := HK0.out.size
          have hsA := HKA.out.size
          have HONE := Lib.hid HQ.out.one
          go_wp2_with (at_builtin; refine wpList_append_own2 rfl _ _ 128 128 rfl 165 i0 _ 3 64 Tryz.underlying128 hi hi0 hi1 hi2 rfl W.heap.size _ 0 [] rfl _ rfl k (trip (T.take k)) ?c110 (Sl.nil _ _ _ _) ?c210 ?c310 ?c410 ?_)
          try (case c110 => omega)
          case c210 =>
            have h1 := (HQW.out.non HKA.out).rd.takeG (m := k) hk
            rw [trip_take] at h1
            exact Src.ofRd Tryz.underlying128 h1 (trip_one _ fun x hx => HONE.out x (List.mem_of_mem_take hx))
          case c310 => unfold maxLen; omega
          case c410 => omega
          intro ao cc w1 hs1 hk1 hkk1 hb1
          have HS1 := Lib.hid hs1
          have HK1 : Hid (Keeps Non W w1) := HKA.out.trans hkk1 fun j hj => by cases hj
          have hb := HB0.out.keeps HK1.out fun h => h
          have e0 := hb.cell 0
          have e1 := hb.cell 1
          have e2 := hb.cell 2
          simp only [List.getElem?_toArray, List.getElem?_cons_zero, List.getElem?_cons_succ] at e0 e1 e2
          clear hs1 hk1 hkk1 hb1 hb
          have hs1' := HS1.out
          have hsz1 := HK1.out.size
          go_wp2_with (at_builtin; refine wpList_append_own2 rfl _ _ 128 128 rfl 165 i0 _ 3 64 Tryz.underlying128 hi hi0 hi1 hi2 rfl W.heap.size _ _ _ rfl _ rfl 1 [.string ⟨p.toArray⟩, .slice ta tn tc, .slice ra rn rc] ?c111 (hs1'.alloc _) ?c211 ?c311 ?c411 ?_)
          try (case c111 => simp; omega)
          case c211 => exact Src.ofSl Tryz.underlying128 (Sl.of_new w1 0 (Nat.zero_le _) 165 3 1 [.string ⟨p.toArray⟩, .slice ta tn tc, .slice ra rn rc] rfl (by simp [maxLen])) (by intro u hu; simp only [List.mem_cons, List.not_mem_nil, or_false] at hu; rcases hu with rfl | rfl | rfl <;> rfl)
          case c311 => unfold maxLen; omega
          case c411 => omega
          intro bo bc w2 hs2 hk2' hkk2 hb2
          have HS2 := Lib.hid hs2
          have HK2 : Hid (Keeps Non W w2) := (HK1.out.alloc _).trans hkk2 fun j hj => .inr (hs1'.own j hj).1
          clear hs2 hk2' hkk2 hb2 hs1' e0 e1 e2
          have hs2' := HS2.out
          have hsz2 := HK2.out.size
          go_wp2_with (at_builtin; refine wpList_append_own2 rfl _ _ 128 128 rfl 165 i0 _ 3 64 Tryz.underlying128 hi hi0 hi1 hi2 rfl W.heap.size _ _ _ rfl _ rfl (T.length - k) (trip (T.drop k)) ?c112 hs2' ?c212 ?c312 ?c412 ?_)
          try (case c112 => omega)
          case c212 =>
            have h1 := (HQW.out.non HK2.out).rd.dropG (m := k) hk
            rw [trip_drop] at h1
            exact Src.ofRd Tryz.underlying128 h1 (trip_one _ fun x hx => HONE.out x (List.mem_of_mem_drop hx))
          case c312 => unfold maxLen; omega
          case c412 => omega
          intro do' dc w3 hs3 hk3 hkk3 hb3
          have HK3 : Hid (Keeps Non w w3) := HK0.out.trans (HK2.out.trans hkk3 fun j hj => .inr (hs2'.own j hj).1) fun _ h => h.elim
          have HS3 := Lib.hid (hs3.mono hsw)
          clear hs3 hk3 hkk3 hb3 hs2'
          go_wp2_with fail
          go_ret
          have hlen : k + 1 + (T.length - k) = T.length + 1 := by omega
          refine ⟨.slice do' (_ + 1 + (T.length - _)) dc, rfl, ?_, HK3.out⟩
          have h1 := HS3.out
          rw [HKK.out, trip_append, show trip ((.string ⟨p.toArray⟩, .slice ta tn tc, .slice ra rn rc) :: T.drop k) = .string ⟨p.toArray⟩ :: .slice ta tn tc :: .slice ra rn rc :: trip (T.drop k) from rfl]
          try simp only [Nat.zero_add, List.nil_append, List.append_assoc, List.cons_append] at h1
          rw [hlen] at h1 ⊢
          exact h1
end Go.Proofs.YtdkogijdfgfpeaaGreatDoor
