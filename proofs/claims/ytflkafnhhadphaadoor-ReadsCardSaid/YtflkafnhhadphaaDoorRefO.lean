/- narref.reader: word, must. -/
import Derived.Test.YtflkafnhhadphaaDoorChecked
import Derived.Test.YtflkafnhhadphaaDoorRefN
import Derived.Test.YtflkafnhhadphaaDoorPack
namespace Go.Proofs.YtflkafnhhadphaaDoor
open Go Go.RowKit
set_option linter.unusedVariables false

def qWord (S : List UInt8) (may : List (List UInt8)) (q : RQ) : List UInt8 × RQ :=
  if (qNext S 8 q).2.e = 0 ∧ (qNext S 8 q).1 ∈ may then qNext S 8 q else ([], (qNext S 8 q).2.fail 5 q.at')
set_option maxHeartbeats 1600000 in
set_option maxRecDepth 100000 in
theorem rword_any {B b : Nat} {S : List UInt8} {q : RQ} {w : World} {vl : Value} (h : RAt B b S q w vl) (may : List (List UInt8)) (v : Value) (hv : Sl w 0 9 1 v may.length (svs may)) :
    Calls Tryd.prog 72 #[.pointer (some ⟨b, 0, none⟩), v] w fun ed w' => ed = .returned (.string ⟨(qWord S may q).1.toArray⟩) ∧ RAt B b S (qWord S may q).2 w' vl ∧ Kp B [RT] w w' := by
  obtain ⟨a0, c0, rfl, hc1, hc2⟩ := hv.shape
  unfold maxLen at hc2
  have c1 : w.cell? ⟨b, 1, none⟩ = some (.int .i64 q.at') := h.blk.cell 1
  have H := Lib.hid h
  have HV := Lib.hid hv
  clear h hv
  go_enter Tryd.func72, Tryd.ntmps72
  go_wp2_with fail
  refine (rnext_any H.out 8 (by omega)).mono ?_
  rintro e w1 ⟨rfl, h1, k1⟩
  have HQ : Hid (qWord S may q = if (qNext S 8 q).2.e = 0 ∧ (qNext S 8 q).1 ∈ may then ((qNext S 8 q).1, (qNext S 8 q).2) else ([], (qNext S 8 q).2.fail 5 q.at')) := by
    show _ = _; rw [qWord]
  obtain ⟨s, hs⟩ : ∃ s, (qNext S 8 q).1 = s := ⟨_, rfl⟩
  obtain ⟨q1, hq1⟩ : ∃ q1, (qNext S 8 q).2 = q1 := ⟨_, rfl⟩
  rw [hs, hq1] at HQ
  rw [hq1] at h1
  rw [hs]
  have HV1 : Hid (Sl w1 0 9 1 (.slice a0 may.length c0) may.length (svs may)) := HV.out.kp k1 (.inl (by decide))
  have d2 : w1.cell? ⟨b, 2, none⟩ = some (.int .i64 q1.e) := h1.blk.cell 2
  have H1 := Lib.hid h1
  have K1 := Lib.hid k1
  clear h1 k1 hs hq1 c1 HV H
  go_wp2_with fail
  go_loopg [17] may.length (fun gk iv wr => ∃ k : Nat, gk = may.length - k ∧ k ≤ may.length ∧ iv = .int .i64 k ∧ w1 = wr ∧ Hid (∀ i, i < k → ¬ (q1.e = 0 ∧ may[i]? = some s)))
  case atStart => exact ⟨0, rfl, Nat.zero_le _, rfl, rfl, fun i hi => by omega⟩
  case round =>
    obtain ⟨k, rfl, hk, rfl, rfl, HZ⟩ := hrel
    by_cases hlt : k < may.length
    · obtain ⟨b', o', c', hsh, -, -, -, hltb, hcc, -⟩ := HV1.out.pos (by omega)
      cases hsh
      have d0 : w1.cell? ⟨b', o' + k, none⟩ = some (sv may[k]) := (hcc k (by omega)).trans (by simp [svs, List.getElem?_eq_getElem hlt])
      unfold sv at d0
      have HMK : Hid (may[k]? = some may[k] ∧ may[k] ∈ may) := ⟨List.getElem?_eq_getElem hlt, List.getElem_mem hlt⟩
      generalize may[k] = x at *
      clear hcc
      by_cases hx : x = s
      · subst hx
        have hb : (x == x) = true := beq_self_eq_true x
        by_cases he : q1.e = 0
        · have hb2 : (q1.e == 0) = true := by rw [he]; rfl
          have HF : Hid (qWord S may q = (x, q1)) := by show _ = _; rw [HQ.out, if_pos ⟨he, HMK.out.2⟩]
          clear he
          go_wp2_with fail
          go_ret
          rw [HF.out]
          exact ⟨rfl, H1.out, K1.out⟩
        · have hb2 : (q1.e == 0) = false := by rw [beq_eq_false_iff_ne]; exact he
          have HZ2 : Hid (∀ i, i < k + 1 → ¬ (q1.e = 0 ∧ may[i]? = some x)) := fun i hi h => he h.1
          clear he
          go_wp2_with fail
          go_roundg (may.length - (k + 1))
          case measure => omega
          case rel => exact ⟨k + 1, rfl, by omega, by go_num, rfl, HZ2⟩
      · have hb : (s == x) = false := by rw [beq_eq_false_iff_ne]; exact fun e => hx e.symm
        have HZ2 : Hid (∀ i, i < k + 1 → ¬ (q1.e = 0 ∧ may[i]? = some s)) := fun i hi h => by
          by_cases e : i < k
          · exact HZ.out i e h
          · rw [show i = k by omega, HMK.out.1] at h
            exact hx (Option.some.inj h.2)
        clear hx
        go_wp2_with fail
        go_roundg (may.length - (k + 1))
        case measure => omega
        case rel => exact ⟨k + 1, rfl, by omega, by go_num, rfl, HZ2⟩
    · have HF : Hid (qWord S may q = ([], q1.fail 5 q.at')) := by
        show _ = _
        rw [HQ.out, if_neg]
        rintro ⟨h1, h2⟩
        obtain ⟨i, hi, he⟩ := List.getElem_of_mem h2
        exact HZ.out i (by omega) ⟨h1, by rw [List.getElem?_eq_getElem hi, he]⟩
      go_wp2_with fail
      refine (rfail_any H1.out 5 _).mono ?_
      rintro e w2 ⟨rfl, h2, k2⟩
      have H2 := Lib.hid h2
      have K2 := Lib.hid (K1.out.trans k2)
      clear h2 k2
      go_wp2_with fail
      go_ret
      rw [HF.out]
      exact ⟨rfl, H2.out, K2.out⟩
set_option maxHeartbeats 800000 in
set_option maxRecDepth 100000 in
theorem rmust_any {B b : Nat} {S : List UInt8} {q : RQ} {w : World} {vl : Value} (h : RAt B b S q w vl) (s : ByteArray) :
    Calls Tryd.prog 59 #[.pointer (some ⟨b, 0, none⟩), .string s] w fun ed w' => ed = .returned (.tuple #[]) ∧ RAt B b S (qWord S [s.data.toList] q).2 w' vl ∧ Kp B [RT] w w' := by
  have H := Lib.hid h
  clear h
  go_enter Tryd.func59, Tryd.ntmps59
  go_wp2_with fail
  refine (rword_any (H.out.keeps ((Keeps.refl _ _).alloc _)) [s.data.toList] _ (putArg w 1 _ [s.data.toList] _ rfl rfl rfl (by simp))).mono ?_
  rintro e w1 ⟨rfl, h1, k1⟩
  have H1 := Lib.hid h1
  have K1 : Hid (Kp B [RT] w w1) := ((Kp.refl _ _ _).alloc _).trans k1
  clear h1 k1
  go_wp2_with fail
  go_end0
  exact ⟨rfl, H1.out, K1.out⟩
/-- the word alone, by what it tells -/
theorem qWord_bad {S : List UInt8} {may : List (List UInt8)} {q : RQ} (h : q.e ≠ 0) : qWord S may q = ([], q) := by
  have h1 : qNext S 8 q = ([], q) := by rw [qNext, if_pos h]
  rw [qWord, h1, if_neg (by exact fun e => h e.1), RQ.fail, if_neg h]
theorem qNext_bad {S : List UInt8} {m : Nat} {q : RQ} (h : q.e ≠ 0) : qNext S m q = ([], q) := by rw [qNext, if_pos h]
theorem RQ.fail_bad {q : RQ} (h : q.e ≠ 0) (e p : Int) : q.fail e p = q := by rw [RQ.fail, if_neg h]
theorem rNext_ne {m : Nat} {ρ : RS} {x : Int × Int} (h : rNext m ρ = .error x) : x.1 ≠ 0 := by
  unfold rNext at h
  split at h
  · cases h; show (2 : Int) ≠ 0; decide
  · split at h
    · cases h; show (3 : Int) ≠ 0; decide
    · split at h
      · cases h; show (2 : Int) ≠ 0; decide
      · split at h
        · cases h; show (4 : Int) ≠ 0; decide
        · cases h
theorem rNext_nodes {m : Nat} {ρ : RS} {x : List UInt8 × RS} (h : rNext m ρ = .ok x) : x.2.nodes = ρ.nodes ∧ ∃ k, k ≤ ρ.rest.length ∧ x.2.rest = ρ.rest.drop k ∧ x.2.at' = ρ.at' + k := by
  obtain ⟨k, h1, h2, h3, -⟩ := rNext_ok h
  rw [h3]
  exact ⟨rfl, k, h2, rfl, rfl⟩
theorem rs_skip {S : List UInt8} {q : RQ} {k : Nat} (hk : q.at' + k ≤ S.length) : (q.rs S).skip k = ({ q with at' := q.at' + k } : RQ).rs S := by
  simp [RQ.rs, RS.skip, List.drop_drop]
/-- by the plain reader: what comes is told as an error, or as a string -/
theorem qNext_ok {S : List UInt8} {m : Nat} {q : RQ} (h : q.e = 0) (hat : q.at' ≤ S.length) : (∃ x, rNext m (q.rs S) = .error x ∧ x.1 ≠ 0 ∧ qNext S m q = ([], { q with e := x.1, bad := x.2 })) ∨ (∃ (s : List UInt8) (q' : RQ), rNext m (q.rs S) = .ok (s, q'.rs S) ∧ qNext S m q = (s, q') ∧ q'.e = 0 ∧ q'.l = q.l ∧ q'.at' ≤ S.length ∧ q.at' ≤ q'.at') := by
  cases hn : rNext m (q.rs S) with
  | error x => exact .inl ⟨x, rfl, rNext_ne hn, by rw [qNext, if_neg (by simp [h]), hn]⟩
  | ok x =>
    obtain ⟨s, ρ⟩ := x
    obtain ⟨k, h1, h2, h3, -⟩ := rNext_ok hn
    simp only at h3
    have hlen : (q.rs S).rest.length = S.length - q.at' := by simp [RQ.rs]
    have hk : q.at' + k ≤ S.length := by omega
    refine .inr ⟨s, { q with at' := q.at' + k }, by rw [h3, rs_skip hk], ?_, h, rfl, hk, by simp⟩
    rw [qNext, if_neg (by simp [h]), hn, h3]
    rfl
theorem qWord_ok {S : List UInt8} {may : List (List UInt8)} {q : RQ} (h : q.e = 0) (hat : q.at' ≤ S.length) : (∃ (x : Int × Int) (q' : RQ), rWord may (q.rs S) = .error x ∧ x.1 ≠ 0 ∧ qWord S may q = ([], q') ∧ q'.e = x.1 ∧ q'.bad = x.2 ∧ q'.l = q.l) ∨ (∃ (s : List UInt8) (q' : RQ), rWord may (q.rs S) = .ok (s, q'.rs S) ∧ qWord S may q = (s, q') ∧ q'.e = 0 ∧ q'.l = q.l ∧ q'.at' ≤ S.length ∧ s ∈ may ∧ q.at' ≤ q'.at') := by
  rcases qNext_ok (m := 8) h hat with ⟨x, h1, h2, h3⟩ | ⟨s, q', h1, h2, h3, h4, h5, h6⟩
  · refine .inl ⟨x, { q with e := x.1, bad := x.2 }, by rw [rWord, h1]; rfl, h2, ?_, rfl, rfl, rfl⟩
    rw [qWord, h3, if_neg (by exact fun e => h2 e.1), RQ.fail_bad (by exact h2)]
  · by_cases hm : s ∈ may
    · exact .inr ⟨s, q', by rw [rWord, h1]; exact if_pos hm, by rw [qWord, h2, if_pos ⟨h3, hm⟩], h3, h4, h5, hm, h6⟩
    · refine .inl ⟨(5, (q.at' : Int)), { q' with e := 5, bad := (q.at' : Int) }, by rw [rWord, h1]; exact if_neg hm, by show (5 : Int) ≠ 0; decide, ?_, rfl, rfl, h4⟩
      rw [qWord, h2, if_neg (by exact fun e => hm e.2), rfail_ne _ _ h3]
end Go.Proofs.YtflkafnhhadphaaDoor
