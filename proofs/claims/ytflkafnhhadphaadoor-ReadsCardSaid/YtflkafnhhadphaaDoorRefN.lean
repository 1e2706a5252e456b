/- narref.reader: fail, next. -/
import Derived.Test.YtflkafnhhadphaaDoorChecked
import Derived.Test.YtflkafnhhadphaaDoorRead
import Derived.Test.YtflkafnhhadphaaDoorRefB
import Derived.Test.YtflkafnhhadphaaDoorPNext
import Derived.Deep.QuietTactic
namespace Go.Proofs.YtflkafnhhadphaaDoor
open Go Go.RowKit
set_option linter.unusedVariables false

abbrev RT : TypeId := 67
/-- the document's reader -/
structure RQ where
  at' : Nat
  e : Int
  bad : Int
  l : List Node
def RQ.fail (q : RQ) (e p : Int) : RQ := if q.e = 0 then { q with e := e, bad := p } else q
def RQ.rs (S : List UInt8) (q : RQ) : RS := ⟨S.drop q.at', q.at', q.l⟩
def qNext (S : List UInt8) (most : Nat) (q : RQ) : List UInt8 × RQ :=
  if q.e ≠ 0 then ([], q) else match rNext most (q.rs S) with
    | .error x => ([], { q with e := x.1, bad := x.2 })
    | .ok x => (x.1, { q with at' := x.2.at' })
structure RAt (B b : Nat) (S : List UInt8) (q : RQ) (w : World) (vl : Value) : Prop where
  blk : Blk w b #[sv S, .int .i64 q.at', .int .i64 q.e, .int .i64 q.bad, vl] RT
  le : B ≤ b
  nodes : Sl w B 34 3 vl q.l.length (nodeCells q.l)
  small : S.length ≤ 549755813888
  at_le : q.at' ≤ S.length
theorem RAt.keeps {B b : Nat} {S : List UInt8} {q : RQ} {w w' : World} {vl : Value} (h : RAt B b S q w vl) (hk : Keeps Non w w') : RAt B b S q w' vl :=
  ⟨h.blk.keeps hk (fun h => h), h.le, h.nodes.kp (Kp.of_keeps (B := B) (Ts := []) hk) (.inl (by simp)), h.small, h.at_le⟩
theorem RAt.kpSet {B b : Nat} {S : List UInt8} {q : RQ} {w : World} {vl : Value} (h : RAt B b S q w vl) (j : Nat) (v : Value) : Kp B [RT] w (w.setCell ⟨b, j, none⟩ v) := (Kp.refl _ _ _).set h.blk (.inr ⟨h.le, by simp⟩) _ _

set_option maxHeartbeats 400000 in
set_option maxRecDepth 100000 in
theorem rfail_any {B b : Nat} {S : List UInt8} {q : RQ} {w : World} {vl : Value} (h : RAt B b S q w vl) (e p : Int) :
    Calls Tryd.prog 34 #[.pointer (some ⟨b, 0, none⟩), .int .i64 e, .int .i64 p] w fun ed w' => ed = .returned (.tuple #[]) ∧ RAt B b S (q.fail e p) w' vl ∧ Kp B [RT] w w' := by
  have c2 : w.cell? ⟨b, 2, none⟩ = some (.int .i64 q.e) := h.blk.cell 2
  have c3 : w.cell? ⟨b, 3, none⟩ = some (.int .i64 q.bad) := h.blk.cell 3
  have f2 := h.blk.free 2
  have f3 := h.blk.free 3
  have H := Lib.hid h
  clear h
  by_cases he : q.e = 0
  · have HS : Hid (q.fail e p = { q with e := e, bad := p }) := by show _ = _; rw [RQ.fail, if_pos he]
    have hb : (q.e == 0) = true := by rw [he]; rfl
    clear he
    go_enter Tryd.func34, Tryd.ntmps34
    go_wp2_with fail
    go_end0
    have k1 := H.out.kpSet 2 (.int .i64 e)
    have b1 := H.out.blk.set 2 (.int .i64 e)
    have k2 := k1.set b1 (.inr ⟨H.out.le, by simp⟩) 3 (.int .i64 p)
    have b2 := b1.set 3 (.int .i64 p)
    refine ⟨rfl, ?_, k2⟩
    rw [HS.out]
    exact ⟨b2, H.out.le, H.out.nodes.kp k2 (.inl (by decide)), H.out.small, H.out.at_le⟩
  · have HS : Hid (q.fail e p = q) := by show _ = _; rw [RQ.fail, if_neg he]
    have hb : (q.e == 0) = false := by rw [beq_eq_false_iff_ne]; exact he
    clear he
    go_enter Tryd.func34, Tryd.ntmps34
    go_wp2_with fail
    go_end0
    refine ⟨rfl, ?_, Kp.refl _ _ _⟩
    rw [HS.out]
    exact H.out

/-- the number, as the document's reader reckons it -/
def numC : List UInt8 → Nat
  | [] => 0
  | b :: r => 256 * min (numC r) 1099511627776 + b.toNat
theorem numC_spec : ∀ l : List UInt8, (num64 l ≤ 1099511627776 → numC l = num64 l) ∧ (1099511627776 < num64 l → 1099511627776 < numC l)
  | [] => by simp [numC, num64]
  | b :: r => by
    obtain ⟨h1, h2⟩ := numC_spec r
    have hb := UInt8.toNat_lt b
    simp only [numC, num64]
    rcases Nat.lt_or_ge 1099511627776 (num64 r) with h | h
    · have := h2 h; omega
    · have := h1 h; omega
theorem numC_lt (l : List UInt8) : numC l < 562949953421312 := by
  cases l with
  | nil => simp [numC]
  | cons b r =>
    have hb := UInt8.toNat_lt b
    simp only [numC]
    omega
theorem pad_true {l : List UInt8} {o p j : Nat} (hj : j < p) (hl : o + p ≤ l.length) (hne : l.getD (o + j) 0 ≠ 0) : ((l.drop o).take p).any (· != 0) = true := by
  rw [List.any_eq_true]
  refine ⟨l.getD (o + j) 0, ?_, by simpa using hne⟩
  rw [List.getD, List.getElem?_eq_getElem (by omega), Option.getD_some]
  have : ((l.drop o).take p)[j]'(by simp; omega) = l[o + j]'(by omega) := by simp
  rw [← this]
  exact List.getElem_mem _
theorem pad_false {l : List UInt8} {o p : Nat} (hl : o + p ≤ l.length) (h : ∀ j, j < p → l.getD (o + j) 0 = 0) : ¬ ((l.drop o).take p).any (· != 0) = true := by
  rw [List.any_eq_true]
  rintro ⟨x, hx, hne⟩
  obtain ⟨i, hi, rfl⟩ := List.getElem_of_mem hx
  have hip : i < p := by simp at hi; omega
  have := h i hip
  rw [List.getD, List.getElem?_eq_getElem (by omega), Option.getD_some] at this
  simp at hne
  exact hne this
theorem rfail_ne {q : RQ} (e p : Int) (h : q.e = 0) : q.fail e p = { q with e := e, bad := p } := by rw [RQ.fail, if_pos h]

set_option maxHeartbeats 1600000 in
set_option maxRecDepth 100000 in
theorem rnext_any {B b : Nat} {S : List UInt8} {q : RQ} {w : World} {vl : Value} (h : RAt B b S q w vl) (most : Nat) (hm : most ≤ 1000) :
    Calls Tryd.prog 73 #[.pointer (some ⟨b, 0, none⟩), .int .i64 most] w fun ed w' => ed = .returned (.string ⟨(qNext S most q).1.toArray⟩) ∧ RAt B b S (qNext S most q).2 w' vl ∧ Kp B [RT] w w' := by
  have c0 : w.cell? ⟨b, 0, none⟩ = some (sv S) := h.blk.cell 0
  have c1 : w.cell? ⟨b, 1, none⟩ = some (.int .i64 q.at') := h.blk.cell 1
  have c2 : w.cell? ⟨b, 2, none⟩ = some (.int .i64 q.e) := h.blk.cell 2
  have f1 := h.blk.free 1
  have hsm := h.small
  have hat := h.at_le
  unfold sv at c0
  have H := Lib.hid h
  clear h
  by_cases he : q.e = 0
  · have hb : (q.e == 0) = true := by rw [he]; rfl
    have hb2 : (q.e != 0) = false := by rw [he]; rfl
    have HQ : Hid (qNext S most q = match rNext most (q.rs S) with
      | .error x => ([], { q with e := x.1, bad := x.2 })
      | .ok x => (x.1, { q with at' := x.2.at' })) := by show _ = _; rw [qNext, if_neg (by simp [he])]
    have HE := Lib.hid he
    clear he
    have hrl : (S.drop q.at').length = S.length - q.at' := List.length_drop
    have q1 : (0:Int) ≤ (q.at' : Int) := by omega
    have q2 : (q.at' : Int) ≤ (S.length : Int) := by omega
    obtain ⟨L, hL⟩ : ∃ L : ByteArray, L = ⟨(S.drop q.at').toArray⟩ := ⟨_, rfl⟩
    have hLs : L.size = S.length - q.at' := by rw [hL, ← hrl]; simp [ByteArray.size]
    have hex : (⟨S.toArray⟩ : ByteArray).extract q.at' S.length = L := by
      rw [hL]; apply arr_ext; rw [ext_list, List.take_of_length_le (by simp)]
    have HL : Hid (L.data.toList = S.drop q.at') := by show _ = _; rw [hL]
    have HEX := Lib.hid hex
    have HLS := Lib.hid hLs
    have hLb : L.size ≤ 549755813888 := by omega
    clear hL hex hrl hLs
    by_cases h8 : L.size < 8
    · have hd : decide ((L.size : Int) < 8) = true := by simp; omega
      have HN : Hid (qNext S most q = ([], { q with e := 2, bad := (S.length : Int) })) := by
        show _ = _
        rw [HQ.out, rNext, if_pos (by show (S.drop q.at').length < 8; rw [List.length_drop, ← HLS.out]; exact h8)]
        simp only [RS.few, RQ.rs, List.length_drop]
        congr 2
        omega
      go_enter Tryd.func73, Tryd.ntmps73
      go_wp2_with fail
      go_quiet (fail)
      rw [HEX.out]
      have HW : Hid (RAt B b S q (w.drewN nq) vl ∧ Kp B [RT] w (w.drewN nq)) := ⟨H.out.keeps ((Keeps.refl _ _).drewN _), (Kp.refl _ _ _).drewN _⟩
      have d0 : (w.drewN nq).cell? ⟨b, 0, none⟩ = some (.string ⟨S.toArray⟩) := c0
      generalize w.drewN nq = w1 at *
      clear c0 c1 c2 f1
      go_wp2_with fail
      refine (rfail_any HW.out.1 2 _).mono ?_
      rintro e w2 ⟨rfl, h2, k2⟩
      have H2 := Lib.hid h2
      have K2 := Lib.hid (HW.out.2.trans k2)
      clear h2 k2
      go_wp2_with fail
      go_ret
      rw [HN.out]
      refine ⟨rfl, ?_, K2.out⟩
      have := H2.out
      rw [rfail_ne _ _ HE.out] at this
      exact this
    · have hd : decide ((L.size : Int) < 8) = false := by simp; omega
      go_enter Tryd.func73, Tryd.ntmps73
      go_wp2_with fail
      go_quiet (fail)
      rw [HEX.out]
      have HW : Hid (RAt B b S q (w.drewN nq) vl ∧ Kp B [RT] w (w.drewN nq)) := ⟨H.out.keeps ((Keeps.refl _ _).drewN _), (Kp.refl _ _ _).drewN _⟩
      have d0 : (w.drewN nq).cell? ⟨b, 0, none⟩ = some (.string ⟨S.toArray⟩) := c0
      have d1 : (w.drewN nq).cell? ⟨b, 1, none⟩ = some (.int .i64 q.at') := c1
      have g1 : (w.drewN nq).frozen? ⟨b, 1, none⟩ = false := f1
      generalize w.drewN nq = w1 at *
      clear c0 c1 c2 f1
      have hl8 : (L.data.toList.take 8).length = 8 := by rw [List.length_take, dlen]; omega
      obtain ⟨l8, hl8e⟩ : ∃ l8, L.data.toList.take 8 = l8 := ⟨_, rfl⟩
      rw [hl8e] at hl8
      have HL8 := Lib.hid hl8
      have HL8E := Lib.hid hl8e
      clear hl8 hl8e
      go_wp2_with fail
      go_loopg [6, 7] 8 (fun gk n i wr => ∃ j : Nat, gk = j ∧ j ≤ 8 ∧ i = .int .i64 ((j : Int) - 1) ∧ n = .int .u64 (numC (l8.drop j) : Nat) ∧ w1 = wr)
      case atStart => exact ⟨8, rfl, by omega, by go_num, by rw [List.drop_of_length_le (by rw [HL8.out]; omega)]; rfl, rfl⟩
      case round =>
        obtain ⟨j, rfl, hj, hi, rfl, rfl⟩ := hrel
        rcases gk with _ | t
        · rw [show ((0 : Nat) : Int) - 1 = -1 by omega] at hi
          subst hi
          rw [List.drop_zero]
          obtain ⟨n, hn⟩ : ∃ n, numC l8 = n := ⟨_, rfl⟩
          rw [hn]
          have HN := Lib.hid hn
          have hn49 : n < 562949953421312 := by rw [← hn]; exact numC_lt _
          have hspec := numC_spec l8
          rw [hn] at hspec
          have HR0 : Hid ((q.rs S).rest.take 8 = l8 ∧ (q.rs S).rest.length = L.size) := ⟨by rw [← HL8E.out, HL.out]; rfl, by rw [← dlen, HL.out]; rfl⟩
          clear hn
          by_cases hmn : most < n
          · have hd3 : decide ((most : Int) < (n : Int)) = true := by simp; omega
            have hd4 : decide (most < n) = true := by simp; omega
            have HX : Hid (qNext S most q = ([], { q with e := 3, bad := (q.at' : Int) })) := by
              show _ = _
              rw [HQ.out, rNext, if_neg (by rw [HR0.out.2]; omega), HR0.out.1, if_pos (by omega)]
              rfl
            clear hspec hmn
            go_wp2_with fail
            refine (rfail_any HW.out.1 3 _).mono ?_
            rintro e w2 ⟨rfl, h2, k2⟩
            have H2 := Lib.hid h2
            have K2 := Lib.hid (HW.out.2.trans k2)
            clear h2 k2
            go_wp2_with fail
            go_ret
            rw [HX.out]
            refine ⟨rfl, ?_, K2.out⟩
            have := H2.out
            rw [rfail_ne _ _ HE.out] at this
            exact this
          · have hd3 : decide ((most : Int) < (n : Int)) = false := by simp; omega
            have hd4 : decide (most < n) = false := by simp; omega
            have hnn : num64 l8 = n := by omega
            have hn1 : n ≤ 1000 := by omega
            have hp7 := padN_lt n
            have HNN := Lib.hid hnn
            clear hspec
            go_upto_region 18 with (fail)
            have hfull : (8 + (n : Int) + 7) / 8 * 8 = ((8 + n + padN n : Nat) : Int) := by unfold padN; omega
            rw [hfull]
            clear hfull
            obtain ⟨F, hF⟩ : ∃ F, 8 + n + padN n = F := ⟨_, rfl⟩
            rw [hF]
            have HX0 : Hid (qNext S most q = match (if L.size < F then .error (q.rs S).few else if ((L.data.toList.drop (8 + n)).take (padN n)).any (· != 0) then .error (4, (q.at' : Int)) else .ok ((L.data.toList.drop 8).take n, (q.rs S).skip F) : RE (List UInt8 × RS)) with
                | .error x => ([], { q with e := x.1, bad := x.2 })
                | .ok x => (x.1, { q with at' := x.2.at' })) := by
              show _ = _
              rw [HQ.out, rNext, if_neg (by rw [HR0.out.2]; omega), HR0.out.1, HNN.out, if_neg hmn, HR0.out.2, hF, show (q.rs S).rest = L.data.toList from HL.out.symm]
              rfl
            by_cases hful : L.size < F
            · have hd5 : decide ((L.size : Int) < (F : Int)) = true := by simp; omega
              have hd6 : decide (L.size < F) = true := by simp; omega
              have HX : Hid (qNext S most q = ([], { q with e := 2, bad := (S.length : Int) })) := by
                show _ = _
                rw [HX0.out, if_pos hful]
                simp only [RS.few, RQ.rs, List.length_drop]
                congr 2
                omega
              clear hmn hnn hful hF
              go_wp2_with fail
              refine (rfail_any HW.out.1 2 _).mono ?_
              rintro e w2 ⟨rfl, h2, k2⟩
              have H2 := Lib.hid h2
              have K2 := Lib.hid (HW.out.2.trans k2)
              clear h2 k2
              go_wp2_with fail
              go_ret
              rw [HX.out]
              refine ⟨rfl, ?_, K2.out⟩
              have := H2.out
              rw [rfail_ne _ _ HE.out] at this
              exact this
            · have hd5 : decide ((L.size : Int) < (F : Int)) = false := by simp; omega
              have hd6 : decide (L.size < F) = false := by simp; omega
              have hFl : F ≤ L.size := by omega
              have hF9 : F ≤ 1015 := by omega
              have HFF := Lib.hid hF
              have HNF : Hid (¬ L.size < F) := hful
              have hnF : 8 + n ≤ F := by omega
              have e1 : (8 + (n : Int)).toNat = 8 + n := by omega
              have e2 : 8 + n ≤ L.size := by omega
              have e3 : (8 : Int) ≤ 8 + (n : Int) := by omega
              have e4 : 8 + (n : Int) ≤ (L.size : Int) := by omega
              clear hmn hnn hful hF
              go_wp2_with fail
              go_loopg [10] (F - (8 + n)) (fun gk kv wr => ∃ k : Nat, gk = F - k ∧ k ≤ F ∧ 8 + n ≤ k ∧ kv = .int .i64 (k : Int) ∧ w1 = wr ∧ Hid (∀ i, i < k - (8 + n) → L.data.toList.getD (8 + n + i) 0 = 0))
              case atStart => exact ⟨8 + n, rfl, hnF, Nat.le_refl _, by go_num, rfl, fun i hi => by omega⟩
              case round =>
                obtain ⟨k, rfl, hk, hk8, rfl, rfl, HZ⟩ := hrel
                by_cases hlt : k < F
                · have hkl : k < L.size := by omega
                  have hkd : L.data.toList.getD k 0 = L[k] := by
                    rw [List.getD, List.getElem?_eq_getElem (by rw [dlen]; exact hkl)]; rfl
                  by_cases hx : L[k] = 0
                  · have hb0 : ((L[k].toNat : Int) != 0) = false := by rw [hx]; rfl
                    have hb1 : ((L[k].toNat : Int) == 0) = true := by rw [hx]; rfl
                    have HZ2 : Hid (∀ i, i < k + 1 - (8 + n) → L.data.toList.getD (8 + n + i) 0 = 0) := fun i hi => by
                      by_cases e : i < k - (8 + n)
                      · exact HZ.out i e
                      · rw [show 8 + n + i = k by omega, hkd, hx]
                    clear hkd hx
                    go_wp2_with fail
                    go_roundg (F - (k + 1))
                    case measure => omega
                    case rel => exact ⟨k + 1, rfl, by omega, by omega, by go_num, rfl, HZ2⟩
                  · have hb1 : ((L[k].toNat : Int) == 0) = false := by
                      rw [beq_eq_false_iff_ne]; intro e; exact hx (UInt8.toNat_inj.1 (show L[k].toNat = 0 by omega))
                    have hb0 : ((L[k].toNat : Int) != 0) = true := by unfold bne; rw [hb1]; rfl
                    have HX : Hid (qNext S most q = ([], { q with e := 4, bad := (q.at' : Int) })) := by
                      show _ = _
                      rw [HX0.out, if_neg HNF.out, if_pos (pad_true (j := k - (8 + n)) (by have := HFF.out; omega) (by rw [dlen]; have := HFF.out; omega) (by rw [show 8 + n + (k - (8 + n)) = k by omega, hkd]; exact hx))]
                    clear hkd hx
                    go_wp2_with fail
                    refine (rfail_any HW.out.1 4 _).mono ?_
                    rintro e w2 ⟨rfl, h2, k2⟩
                    have H2 := Lib.hid h2
                    have K2 := Lib.hid (HW.out.2.trans k2)
                    clear h2 k2
                    go_wp2_with fail
                    go_ret
                    rw [HX.out]
                    refine ⟨rfl, ?_, K2.out⟩
                    have := H2.out
                    rw [rfail_ne _ _ HE.out] at this
                    exact this
                · have hkF : k = F := by omega
                  subst hkF
                  have HX : Hid (qNext S most q = ((L.data.toList.drop 8).take n, { q with at' := q.at' + k })) := by
                    show _ = _
                    rw [HX0.out, if_neg HNF.out, if_neg (pad_false (by rw [dlen]; have := HFF.out; omega) (fun j hj => HZ.out j (by have := HFF.out; omega)))]
                    rfl
                  have e5 : IntKind.i64.wrap ((q.at' : Int) + (k : Int)) = (q.at' : Int) + (k : Int) := IntWalk.i64_in _ (by omega)
                  go_wp2_with fail
                  go_ret
                  have b2 := HW.out.1.blk.set 1 (.int .i64 ((q.at' : Int) + (k : Int)))
                  have k2 := HW.out.1.kpSet 1 (.int .i64 ((q.at' : Int) + (k : Int)))
                  rw [HX.out]
                  refine ⟨?_, ⟨?_, H.out.le, HW.out.1.nodes.kp k2 (.inl (by decide)), hsm, ?_⟩, HW.out.2.trans k2⟩
                  · have hex : L.extract 8 (8 + n) = ⟨((L.data.toList.drop 8).take n).toArray⟩ := by
                      apply arr_ext; rw [ext_list]; simp
                    show _ = Ending.returned (.string ⟨((L.data.toList.drop 8).take n).toArray⟩)
                    rw [← hex]
                    rfl
                  · have e6 : (#[sv S, .int .i64 (q.at' : Int), .int .i64 q.e, .int .i64 q.bad, vl] : Array Value).setIfInBounds 1 (.int .i64 ((q.at' : Int) + (k : Int))) = #[sv S, .int .i64 ((q.at' + k : Nat) : Int), .int .i64 q.e, .int .i64 q.bad, vl] := by simp
                    rw [e6] at b2
                    exact b2
                  · show q.at' + k ≤ S.length
                    have := HLS.out
                    omega
        · rw [show ((t + 1 : Nat) : Int) - 1 = (t : Int) by omega] at hi
          subst hi
          have htl : t < L.size := by omega
          have hdr : l8.drop t = L[t] :: l8.drop (t + 1) := by
            have h1 : t < l8.length := by rw [HL8.out]; omega
            rw [List.drop_eq_getElem_cons h1]
            congr 1
            have h2 := HL8E.out
            subst h2
            rw [List.getElem_take]
            rfl
          have hnum : numC (l8.drop t) = 256 * min (numC (l8.drop (t + 1))) 1099511627776 + L[t].toNat := by rw [hdr]; rfl
          have HNUM := Lib.hid hnum
          have hlt49 := numC_lt (l8.drop (t + 1))
          have hb256 := UInt8.toNat_lt L[t]
          clear hdr hnum
          generalize numC (l8.drop (t + 1)) = N at *
          have h0t : (0 : Int) ≤ (t : Int) := by omega
          by_cases hbig : 1099511627776 < N
          · have hd3 : decide ((1099511627776 : Int) < (N : Int)) = true := by simp; omega
            have hd4 : decide (1099511627776 < N) = true := by simp; omega
            have e2 : IntKind.u64.wrap (281474976710656 + (L[t].toNat : Int)) = 281474976710656 + (L[t].toNat : Int) := by show (_ : Int) % 2 ^ 64 = _; omega
            go_wp2_with fail
            go_roundg t
            case measure => omega
            case rel =>
              refine ⟨t, rfl, by omega, by go_num, ?_, rfl⟩
              rw [HNUM.out, Nat.min_eq_right (by omega)]
              congr 1
          · have hd3 : decide ((1099511627776 : Int) < (N : Int)) = false := by simp; omega
            have hd4 : decide (1099511627776 < N) = false := by simp; omega
            have e1 : IntKind.u64.wrap (256 * (N : Int)) = 256 * (N : Int) := by show (_ : Int) % 2 ^ 64 = _; omega
            have e2 : IntKind.u64.wrap (256 * (N : Int) + (L[t].toNat : Int)) = 256 * (N : Int) + (L[t].toNat : Int) := by show (_ : Int) % 2 ^ 64 = _; omega
            go_wp2_with fail
            go_roundg t
            case measure => omega
            case rel =>
              refine ⟨t, rfl, by omega, by go_num, ?_, rfl⟩
              rw [HNUM.out, Nat.min_eq_left (by omega)]
              congr 1
  · have hb : (q.e == 0) = false := by rw [beq_eq_false_iff_ne]; exact he
    have hb2 : (q.e != 0) = true := by unfold bne; rw [hb]; rfl
    have HN : Hid (qNext S most q = ([], q)) := by show _ = _; rw [qNext, if_pos he]
    clear he
    go_enter Tryd.func73, Tryd.ntmps73
    go_wp2_with fail
    go_ret
    rw [HN.out]
    exact ⟨rfl, H.out, Kp.refl _ _ _⟩
end Go.Proofs.YtflkafnhhadphaaDoor
