/- (*frame.Reader).Next. -/
import Derived.Test.YtdkogijdfgfpeaaGreatDoorMOwn3
import Derived.Test.YtdkogijdfgfpeaaGreatDoorMRead
import Derived.Test.YtdkogijdfgfpeaaGreatDoorMRefA
import Derived.Deep.QuietTactic
import Derived.Test.YtdkogijdfgfpeaaGreatDoorMPack
import Derived.Test.YtdkogijdfgfpeaaGreatDoorMImpG
import Derived.Deep.RegionLaw
set_option linter.unusedVariables false
namespace Go.Proofs.YtdkogijdfgfpeaaGreatDoor
open Go Go.RowKit
theorem num64_lt : ∀ l : List UInt8, num64 l < 256 ^ l.length
 | [] => by simp [num64]
 | b :: r => by
   have h1 := num64_lt r
   have h2 := UInt8.toNat_lt b
   simp only [num64, List.length_cons, Nat.pow_succ]
   omega
theorem num64_snoc : ∀ (l : List UInt8) (b : UInt8), num64 (l ++ [b]) = num64 l + b.toNat * 256 ^ l.length
 | [], b => by simp [num64]
 | a :: r, b => by
   have h : 256 * (b.toNat * 256 ^ r.length) = b.toNat * (256 ^ r.length * 256) := by rw [Nat.mul_comm 256, Nat.mul_assoc]
   simp only [List.cons_append, num64, num64_snoc r b, List.length_cons, Nat.pow_succ, Nat.mul_add, h]
   omega
theorem or_byte (n x k : Nat) (hk : k < 8) (hn : n < 256 ^ k) (hx : x < 256) : bits BinOp.or IntKind.u64 (n : Int) (IntKind.u64.wrap ((x : Int) * 2 ^ (8 * k))) = ((n + x * 256 ^ k : Nat) : Int) := by
 have h256 : 256 ^ k = 2 ^ (8 * k) := by rw [Nat.pow_mul]
 have hle : 2 ^ (8 * k) * 256 ≤ 2 ^ 64 := by
  have : 2 ^ (8 * k) * 256 = 2 ^ (8 * k + 8) := by rw [Nat.pow_add]
  rw [this]
  exact Nat.pow_le_pow_right (by omega) (by omega)
 rw [h256] at hn ⊢
 have hxm : x * 2 ^ (8 * k) < 2 ^ 64 := by
  have : x * 2 ^ (8 * k) ≤ 255 * 2 ^ (8 * k) := Nat.mul_le_mul_right _ (by omega)
  have h0 : 0 < 2 ^ (8 * k) := Nat.pow_pos (by omega)
  omega
 have hsum : n + x * 2 ^ (8 * k) < 2 ^ 64 := by
  have : x * 2 ^ (8 * k) ≤ 255 * 2 ^ (8 * k) := Nat.mul_le_mul_right _ (by omega)
  omega
 have e1 : IntKind.u64.wrap ((x : Int) * 2 ^ (8 * k)) = ((x * 2 ^ (8 * k) : Nat) : Int) := by
  have : ((x : Int) * 2 ^ (8 * k)) = ((x * 2 ^ (8 * k) : Nat) : Int) := by simp
  rw [this]
  generalize x * 2 ^ (8 * k) = m at *
  show (m : Int) % 2 ^ 64 = _
  omega
 rw [e1]
 have hor : n ||| x * 2 ^ (8 * k) = n + x * 2 ^ (8 * k) := by
  rw [Nat.or_comm, Nat.mul_comm x, ← Nat.two_pow_add_eq_or_of_lt hn, Nat.add_comm]
 generalize hm : x * 2 ^ (8 * k) = m at *
 have hx : (BitVec.ofInt 64 (n : Int) ||| BitVec.ofInt 64 (m : Int)).toNat = n + m := by
  rw [BitVec.toNat_or, BitVec.toNat_ofInt, BitVec.toNat_ofInt]
  rw [show ((n : Int) % ((2 ^ 64 : Nat) : Int)).toNat = n by omega, show ((m : Int) % ((2 ^ 64 : Nat) : Int)).toNat = m by omega, hor]
 show IntKind.u64.wrap ((BitVec.ofInt 64 (n : Int) ||| BitVec.ofInt 64 (m : Int)).toNat : Int) = _
 rw [hx]
 show ((n + m : Nat) : Int) % 2 ^ 64 = _
 omega
theorem num64_take (l : List UInt8) (k : Nat) (h : k < l.length) : num64 (l.take (k + 1)) = num64 (l.take k) + (l.getD k 0).toNat * 256 ^ k := by
 rw [List.take_succ_eq_append_getElem h, num64_snoc, List.length_take, Nat.min_eq_left (by omega)]
 simp [List.getD, List.getElem?_eq_getElem h]
theorem padN_8 (n : Nat) : padN (8 + n) = padN n := by unfold padN; omega
theorem next_done {B b : Nat} {tail : PT} {ts : List (Job × Value)} {σ : PSt} {w : World} {vr vt vl va : Value} (H : PAt B b tail ts σ w vr vt vl va) (r : List UInt8) (p : Nat) (v' : Value) (hs : Sl w B 5 1 v' r.length (bvs r)) :
 PA B b tail ts { σ with rest := r, at' := p } ((w.setCell ⟨b, 0, none⟩ v').setCell ⟨b, 1, none⟩ (.int .i64 p)) ∧ Kp B [TB] w ((w.setCell ⟨b, 0, none⟩ v').setCell ⟨b, 1, none⟩ (.int .i64 p)) := by
 have k1 := H.kpSet 0 v'
 have b1 := H.blk.set 0 v'
 rw [(pcells_set ..).1] at b1
 have k2 := k1.set b1 (.inr ⟨H.le, by simp⟩) 1 (.int .i64 p)
 have b2 := b1.set 1 (.int .i64 p)
 rw [(pcells_set ..).2.1] at b2
 obtain ⟨-, p2, p3, p4, p5, p6⟩ := H.parts k2
 exact ⟨⟨_, _, _, _, b2, H.le, hs.kp k2 (.inl (by decide)), p2, p3, p4, p5, p6⟩, k2⟩
theorem next_end {B b : Nat} {tail : PT} {ts : List (Job × Value)} {σ : PSt} {w : World} {br orr cp : Nat} {vt vl va : Value} (H : PAt B b tail ts σ w (.slice (some ⟨br, orr, none⟩) σ.rest.length cp) vt vl va) (m : Nat) (hm : σ.rest.length = m) :
 Sl w B 5 1 (.slice (some ⟨br, orr, none⟩) (σ.rest.length - m) 0) (σ.rest.drop m).length (bvs (σ.rest.drop m)) := by
 obtain ⟨c, hb, hB⟩ := H.rest.blk
 rw [List.drop_eq_nil_of_le (by omega), show σ.rest.length - m = 0 by omega]
 obtain ⟨q1, ⟨q2, q3⟩ | ⟨b', off, cap', c', hv, hB', hb', h3, h4, h5, h6⟩⟩ := H.rest
 ·cases q2
 ·cases hv
  exact ⟨rfl, .inr ⟨_, _, _, _, rfl, hB', hb', Nat.le_refl _, by simp [maxLen], by omega, fun j hj => by simp at hj⟩⟩
set_option maxHeartbeats 1600000 in
set_option maxRecDepth 100000 in
theorem next_any {B b : Nat} {tail : PT} {ts : List (Job × Value)} {σ : PSt} {w : World} (h : PA B b tail ts σ w) (hf : Fit ts σ) (most : Nat) (hm : most ≤ 1000) :
 Calls Tryz.prog 82 #[.pointer (some ⟨b, 0, none⟩), .int .i64 most] w fun ed w' => ed = .returned (.tuple #[.string ⟨((σ.next most).1.getD []).toArray⟩, .bool (σ.next most).1.isSome]) ∧ PA B b tail ts (σ.next most).2 w' ∧ Kp B [TB] w w' := by
 obtain ⟨vr, vt, vl, va, h⟩ := h
 obtain ⟨g0, g1, g2, g3, g4, g5, g6, g7⟩ := pcells_get vr σ.at' σ.err σ.bad vt vl va σ.path tail.cells
 have c0 : w.cell? ⟨b, 0, none⟩ = some vr := (h.blk.cell 0).trans g0
 have c1 : w.cell? ⟨b, 1, none⟩ = some (.int .i64 σ.at') := (h.blk.cell 1).trans g1
 have c2 : w.cell? ⟨b, 2, none⟩ = some (.int .i64 σ.err) := (h.blk.cell 2).trans g2
 have f0 := h.blk.free 0
 have f1 := h.blk.free 1
 have hall := hf.all
 obtain ⟨a, cp, rfl, hl1, hl2⟩ := h.rest.shape
 unfold maxLen at hl2
 have H := Lib.hid h
 clear h hf g0 g1 g2 g3 g4 g5 g6 g7
 by_cases he : σ.err = 0
 ·have hb : (σ.err == 0) = true := by rw [he]; rfl
  have hb2 : (σ.err != 0) = false := by rw [he]; rfl
  by_cases h8 : σ.rest.length < 8
  ·have hd : decide ((σ.rest.length : Int) < 8) = true := by simp; omega
   have HN : Hid (σ.next most = (.none, σ)) := by show _ = _; rw [PSt.next, if_pos (.inr h8)]
   clear he
   go_enter Tryz.func82, Tryz.ntmps82
   go_wp2_with fail
   go_ret2
   rw [HN.out]
   exact ⟨rfl, ⟨_, _, _, _, H.out⟩, Kp.refl _ _ _⟩
  ·have hd : decide ((σ.rest.length : Int) < 8) = false := by simp; omega
   obtain ⟨br, orr, cp', hsh, hBr, -, -, hlt, hcr, -⟩ := H.out.rest.pos (by omega)
   cases hsh
   have HE := Lib.hid he
   have HCR : Hid (∀ j, j < σ.rest.length → w.cell? ⟨br, orr + j, none⟩ = some (bv (σ.rest.getD j 0))) := fun j hj => by
    rw [hcr j (by omega)]; simp [bvs, List.getD, List.getElem?_eq_getElem hj]
   clear he hcr
   go_enter Tryz.func82, Tryz.ntmps82
   go_wp2_with fail
   go_loopg [6, 26] 8 (fun gk n i wr => ∃ k : Nat, gk = 8 - k ∧ k ≤ 8 ∧ i = .int .i64 k ∧ n = .int .u64 (num64 (σ.rest.take k) : Nat) ∧ w = wr)
   case atStart => exact ⟨0, rfl, by omega, rfl, rfl, rfl⟩
   case round =>
    obtain ⟨k, rfl, hk, rfl, rfl, rfl⟩ := hrel
    by_cases hk8 : k < 8
    ·have cc := HCR.out k (by omega)
     unfold bv at cc
     have hkl : k < σ.rest.length := by omega
     generalize hx : σ.rest.getD k 0 = x at *
     generalize hn : num64 (σ.rest.take k) = n at *
     have HX := Lib.hid hx
     have HN := Lib.hid hn
     clear hx hn
     have hx256 := UInt8.toNat_lt x
     have hnk : n < 256 ^ k := by
      have := num64_lt (σ.rest.take k)
      rw [HN.out, List.length_take, Nat.min_eq_left (by omega)] at this
      exact this
     have ho := or_byte n x.toNat k hk8 hnk hx256
     have HNX : Hid (num64 (σ.rest.take (k + 1)) = n + x.toNat * 256 ^ k) := by show _ = _; rw [num64_take _ _ hkl, HN.out, HX.out]
     clear hnk
     generalize n + x.toNat * 256 ^ k = nx at *
     go_wp2_with fail
     go_roundg (8 - (k + 1))
     case measure => omega
     case rel => exact ⟨k + 1, rfl, by omega, by go_num, by rw [HNX.out], rfl⟩
    ·obtain rfl : k = 8 := by omega
     generalize hn : num64 (σ.rest.take 8) = n at *
     have HN := Lib.hid hn
     clear hn
     have hn64 : n < 18446744073709551616 := by
      have := num64_lt (σ.rest.take 8)
      rw [HN.out, List.length_take, Nat.min_eq_left (by omega)] at this
      exact this
     by_cases hmn : most < n
     ·have hd3 : decide ((most : Int) < (n : Int)) = true := by simp; omega
      have hd4 : decide (most < n) = true := by simp; omega
      have HX : Hid (σ.next most = (.none, σ.fail 3 σ.at')) := by
       show _ = _
       rw [PSt.next, if_neg (by rw [HE.out]; simp; omega), HN.out, if_pos hmn]
      clear hmn
      go_wp2_with fail
      refine (fail_any ⟨_, _, _, _, H.out⟩ 3 _).mono ?_
      rintro e w' ⟨rfl, h1, h2⟩
      have H1 := Lib.hid h1
      have H2 := Lib.hid h2
      clear h1 h2
      go_wp2_with fail
      go_ret2
      rw [HX.out]
      exact ⟨rfl, H1.out, H2.out⟩
     ·have hd3 : decide ((most : Int) < (n : Int)) = false := by simp; omega
      have hd4 : decide (most < n) = false := by simp; omega
      have hand : bits BinOp.and IntKind.i64 (-(8 + (n : Int))) 7 = (padN n : Int) := by
       have := neg_and7 (8 + n)
       rw [padN_8] at this
       rw [← this]
       congr 2
      have hp7 := padN_lt n
      have hn1 : n ≤ 1000 := by omega
      by_cases hful : σ.rest.length < 8 + n + padN n
      ·have hd5 : decide ((σ.rest.length : Int) < 8 + (n : Int) + (padN n : Int)) = true := by simp; omega
       have HX : Hid (σ.next most = (.none, σ)) := by
        show _ = _
        rw [PSt.next, if_neg (by rw [HE.out]; simp; omega), HN.out, if_neg hmn, if_pos hful]
       clear hmn
       go_wp2_with fail
       go_ret2
       rw [HX.out]
       exact ⟨rfl, ⟨_, _, _, _, H.out⟩, Kp.refl _ _ _⟩
      ·have hd5 : decide ((σ.rest.length : Int) < 8 + (n : Int) + (padN n : Int)) = false := by simp; omega
       go_upto_region 16 with (fail)
       have e1 : (8 + (n : Int)).toNat = 8 + n := by omega
       have e2 : (8 + (n : Int) + (padN n : Int)).toNat = 8 + n + padN n := by omega
       have hfl : 8 + n + padN n ≤ σ.rest.length := by omega
       have HX : Hid (σ.next most = if ((σ.rest.drop (8 + n)).take (padN n)).any (· != 0) then (.none, σ.fail 4 σ.at') else (.some ((σ.rest.drop 8).take n), { σ with rest := σ.rest.drop (8 + n + padN n), at' := σ.at' + (8 + n + padN n) })) := by
        show _ = _
        rw [PSt.next, if_neg (by rw [HE.out]; simp; omega), HN.out, if_neg hmn, if_neg hful]
       clear hmn hful
       go_cut [10] (fun v wx => v = .string ⟨((σ.rest.drop 8).take n).toArray⟩ ∧ w = wx)
       case first =>
        have hsl := H.out.rest
        by_cases hn0 : n = 0
        ·subst hn0
         have kc : (convert 45 9 (.slice (some ⟨br, orr, none⟩) 0 0)).run Tryz.prog w = .ok (.string ⟨#[]⟩) w := by
          have h0 := hsl.take (m := 0) (Nat.zero_le _)
          obtain ⟨c, hb, hB⟩ := hsl.blk
          have h1 : Sl w B 5 1 (.slice (some ⟨br, orr, none⟩) 0 0) 0 (bvs []) := by
           obtain ⟨q1, ⟨q2, q3⟩ | ⟨b', off, cap', c', hv, hB', hb', h3, h4, h5, h6⟩⟩ := h0
           ·cases q2
           ·cases hv; exact ⟨rfl, .inr ⟨_, _, _, _, rfl, hB', hb', Nat.le_refl _, by simp [maxLen], by omega, fun j hj => by omega⟩⟩
          exact run_string_sl 45 5 Tryz.underlying45 Tryz.underlying5 9 Tryz.underlying9 [] h1
         go_wp2_with fail
         go_meet
         exact ⟨by simp, rfl⟩
        ·have kc : (convert 45 9 (.slice (some ⟨br, orr + 8, none⟩) n n)).run Tryz.prog w = .ok (.string ⟨((σ.rest.drop 8).take n).toArray⟩) w := by
          obtain ⟨q1, ⟨q2, q3⟩ | ⟨b', off, cap', c', hv, hB', hb', h3, h4, h5, h6⟩⟩ := hsl
          ·cases q2
          ·cases hv
           have h1 : Sl w B 5 1 (.slice (some ⟨br, orr + 8, none⟩) n n) n (bvs ((σ.rest.drop 8).take n)) := by
            refine ⟨by simp [bvs]; omega, .inr ⟨_, _, _, _, rfl, hB', hb', Nat.le_refl _, by unfold maxLen; omega, by omega, fun j hj => ?_⟩⟩
            rw [Nat.add_assoc, h6 _ (by omega)]
            simp only [bvs, List.getElem?_map, List.getElem?_take, List.getElem?_drop]
            rw [if_pos (by omega)]
           exact run_string_sl 45 5 Tryz.underlying45 Tryz.underlying5 9 Tryz.underlying9 _ h1
         have hn8 : ¬ 8 + n = 8 := by omega
         clear hsl
         go_wp2_with fail
         go_meet
         exact ⟨rfl, rfl⟩
       case rest =>
        obtain ⟨rfl, rfl⟩ := hcut
        have HPAD : Hid (∀ k, k < padN n → (((σ.rest.drop (8 + n)).take (padN n))[k]?).isSome = true) := fun k hk => by simp; omega
        by_cases hcp : cp = 8 + n
        ·have hp0 : padN n = 0 := by omega
         have hcf2 : cp - (8 + n + padN n) = 0 := by omega
         have hcf : cp = 8 + n + padN n := by omega
         have HDN := Lib.hid (next_done H.out (σ.rest.drop (8 + n)) (σ.at' + (8 + n)) (.slice (some ⟨br, orr, none⟩) (σ.rest.length - (8 + n)) 0) (next_end H.out (8 + n) (by omega)))
         have HX3 : Hid (σ.next most = (.some ((σ.rest.drop 8).take n), { σ with rest := σ.rest.drop (8 + n), at' := σ.at' + (8 + n) })) := by
          show _ = _
          rw [HX.out, if_neg]
          ·rw [hp0, Nat.add_zero]
          ·rw [hp0]; simp
         clear HX
         go_wp2_with fail
         go_loopg [84] 0 (fun gk iv wr => iv = .int .i64 0 ∧ w = wr)
         case atStart => exact ⟨rfl, rfl⟩
         case round =>
          obtain ⟨rfl, rfl⟩ := hrel
          go_wp2_with fail
          go_ret2
          rw [HX3.out]
          have := HDN.out
          simp only [Int.natCast_add] at this
          exact ⟨rfl, this⟩
        ·have hcp2 : ¬ cp - (8 + n) = 0 := by omega
         go_wp2_with fail
         go_loopg [84] (padN n) (fun gk iv wr => ∃ k : Nat, gk = padN n - k ∧ k ≤ padN n ∧ iv = .int .i64 k ∧ w = wr ∧ Hid (∀ j, j < k → σ.rest.getD (8 + n + j) 0 = 0))
         case atStart => exact ⟨0, rfl, Nat.zero_le _, rfl, rfl, fun j hj => by omega⟩
         case round =>
          obtain ⟨k, rfl, hk, rfl, rfl, HZ⟩ := hrel
          by_cases hlt2 : k < padN n
          ·have cc := HCR.out (8 + n + k) (by omega)
           unfold bv at cc
           rw [show orr + (8 + n + k) = orr + (8 + n) + k by omega] at cc
           generalize hx : σ.rest.getD (8 + n + k) 0 = x at *
           have HX2 := Lib.hid hx
           clear hx
           have hx256 := UInt8.toNat_lt x
           by_cases hx0 : x = 0
           ·have hb3 : ((x.toNat : Int) == 0) = true := by rw [hx0]; rfl
            have hb4 : ((x.toNat : Int) != 0) = false := by unfold bne; rw [hb3]; rfl
            have HZ2 : Hid (∀ j, j < k + 1 → σ.rest.getD (8 + n + j) 0 = 0) := by
             intro j hj
             by_cases e : j = k
             ·rw [e, HX2.out, hx0]
             ·exact HZ.out j (by omega)
            clear hx0
            go_wp2_with fail
            go_roundg (padN n - (k + 1))
            case measure => omega
            case rel => exact ⟨k + 1, rfl, by omega, by go_num, rfl, HZ2⟩
           ·have hb3 : ((x.toNat : Int) == 0) = false := by
             rw [beq_eq_false_iff_ne]; intro e; exact hx0 (UInt8.toNat_inj.1 (show x.toNat = 0 by omega))
            have hb4 : ((x.toNat : Int) != 0) = true := by unfold bne; rw [hb3]; rfl
            have HX3 : Hid (σ.next most = (.none, σ.fail 4 σ.at')) := by
             show _ = _
             rw [HX.out, if_pos]
             rw [List.any_eq_true]
             refine ⟨x, ?_, by simpa using hx0⟩
             rw [← HX2.out]
             have hjl : 8 + n + k < σ.rest.length := by omega
             rw [List.getD, List.getElem?_eq_getElem hjl]
             simp only [Option.getD_some]
             rw [List.mem_take_iff_getElem]
             exact ⟨k, by simp; omega, by simp⟩
            clear hx0 HX
            go_wp2_with fail
            refine (fail_any ⟨_, _, _, _, H.out⟩ 4 _).mono ?_
            rintro e w' ⟨rfl, h1, h2⟩
            have H1 := Lib.hid h1
            have H2 := Lib.hid h2
            clear h1 h2
            go_wp2_with fail
            go_ret2
            rw [HX3.out]
            exact ⟨rfl, H1.out, H2.out⟩
          ·obtain rfl : k = padN n := by omega
           have HX3 : Hid (σ.next most = (.some ((σ.rest.drop 8).take n), { σ with rest := σ.rest.drop (8 + n + padN n), at' := σ.at' + (8 + n + padN n) })) := by
            show _ = _
            rw [HX.out, if_neg]
            intro hany
            rw [List.any_eq_true] at hany
            obtain ⟨y, hy, hy0⟩ := hany
            rw [List.mem_take_iff_getElem] at hy
            obtain ⟨j, hj, rfl⟩ := hy
            have := HZ.out j (by simp at hj; omega)
            rw [List.getD, List.getElem?_eq_getElem (by simp at hj; omega)] at this
            simp only [Option.getD_some] at this
            simp [this] at hy0
           clear HX
           by_cases hcf : cp = 8 + n + padN n
           ·have hcf2 : cp - (8 + n + padN n) = 0 := by omega
            have HDN := Lib.hid (next_done H.out (σ.rest.drop (8 + n + padN n)) (σ.at' + (8 + n + padN n)) (.slice (some ⟨br, orr, none⟩) (σ.rest.length - (8 + n + padN n)) 0) (next_end H.out (8 + n + padN n) (by omega)))
            go_wp2_with fail
            go_ret2
            rw [HX3.out]
            have := HDN.out
            simp only [Int.natCast_add] at this
            exact ⟨rfl, this⟩
           ·have hcf2 : ¬ cp - (8 + n + padN n) = 0 := by omega
            have hdr := H.out.rest.drop (m := 8 + n + padN n) hfl
            have hdn := next_done H.out (σ.rest.drop (8 + n + padN n)) (σ.at' + (8 + n + padN n)) _ (by simpa [bvs] using hdr)
            have HDN := Lib.hid hdn
            clear hdr hdn
            go_wp2_with fail
            go_ret2
            rw [HX3.out]
            have := HDN.out
            simp only [Int.natCast_add] at this
            exact ⟨rfl, this⟩
 ·have hb : (σ.err == 0) = false := by rw [beq_eq_false_iff_ne]; exact he
  have hb2 : (σ.err != 0) = true := by unfold bne; rw [hb]; rfl
  have HN : Hid (σ.next most = (.none, σ)) := by show _ = _; rw [PSt.next, if_pos (.inl he)]
  clear he
  go_enter Tryz.func82, Tryz.ntmps82
  go_wp2_with fail
  go_ret2
  rw [HN.out]
  exact ⟨rfl, ⟨_, _, _, _, H.out⟩, Kp.refl _ _ _⟩
abbrev RT : TypeId := 173
structure RQ where
 at' : Nat
 e : Int
 bad : Int
 l : List Node
def RQ.fail (q : RQ) (e p : Int) : RQ := if q.e = 0 then { q with e := e, bad := p } else q
def RQ.rs (S : List UInt8) (q : RQ) : RS := ⟨S.drop q.at', q.at', q.l⟩
structure RAt (B b : Nat) (trs : List (Value × List Node)) (S : List UInt8) (q : RQ) (w : World) (vl : Value) : Prop where
 blk : Blk w b #[sv S, .int .i64 q.at', .int .i64 q.e, .int .i64 q.bad, vl] RT
 le : B ≤ b
 nodes : Sl w B 49 3 vl q.l.length (nodeCells q.l)
 small : S.length ≤ 549755813888
 at_le : q.at' ≤ S.length
 kept : ∀ t ∈ trs, Sl w B 49 3 t.1 t.2.length (nodeCells t.2) ∧ Ahead 3 vl t.1
theorem RAt.keeps {B b : Nat} {trs : List (Value × List Node)} {S : List UInt8} {q : RQ} {w w' : World} {vl : Value} (h : RAt B b trs S q w vl) (hk : Keeps Non w w') : RAt B b trs S q w' vl :=
 ⟨h.blk.keeps hk (fun h => h), h.le, h.nodes.kp (Kp.of_keeps (B := B) (Ts := []) hk) (.inl (by simp)), h.small, h.at_le, fun t ht => ⟨(h.kept t ht).1.kp (Kp.of_keeps (B := B) (Ts := []) hk) (.inl (by simp)), (h.kept t ht).2⟩⟩
theorem RAt.kpSet {B b : Nat} {trs : List (Value × List Node)} {S : List UInt8} {q : RQ} {w : World} {vl : Value} (h : RAt B b trs S q w vl) (j : Nat) (v : Value) : Kp B [RT] w (w.setCell ⟨b, j, none⟩ v) := (Kp.refl _ _ _).set h.blk (.inr ⟨h.le, by simp⟩) _ _
theorem RQ.fail_bad {q : RQ} (h : q.e ≠ 0) (e p : Int) : q.fail e p = q := by rw [RQ.fail, if_neg h]
def RQ.add (q : RQ) (n : Node) : RQ := { q with l := q.l ++ [n] }
def SameE (q q' : RQ) : Prop := q'.e = q.e ∧ q'.bad = q.bad
def Res (S : List UInt8) (r : RE RS) (q : RQ) : Prop :=
 match r with
 | .error x => q.e = x.1 ∧ q.bad = x.2 ∧ x.1 ≠ 0
 | .ok ρ => q.e = 0 ∧ q.rs S = ρ ∧ q.at' ≤ S.length
theorem Res.error {S : List UInt8} {x : Int × Int} {q q' : RQ} (h : SameE q q') (h1 : q.e = x.1) (h2 : q.bad = x.2) (h3 : x.1 ≠ 0) : Res S (.error x) q' := ⟨h.1.trans h1, h.2.trans h2, h3⟩
theorem infoWant : (Tryz.prog.info? 113).map (fun i => (i.zero, i.size, i.bytes)) = some (some (.agg #[.int .i64 0, .nilFunc]), 2, 16) := by kernel_rfl
theorem JobAt.one {w : World} {b : Nat} {j : Job} {f : Value} (h : JobAt w b j f) : f.oneCell' = true := by
 cases j with
 | word may act => obtain ⟨_, _, _, _, rfl, _⟩ := h; rfl
 | leads => rw [show f = _ from h]; rfl
 | name => rw [show f = _ from h]; rfl
 | keep k => obtain ⟨_, _, rfl, _⟩ := h; rfl
 | cpath => rw [show f = _ from h]; rfl
 | cref => rw [show f = _ from h]; rfl
 | csum => rw [show f = _ from h]; rfl
theorem Sl.own_lt {w : World} {B : Nat} {E : TypeId} {size : Nat} {v : Value} {n : Nat} {xs : List Value} (h : Sl w B E size v n xs) {k : Nat} (hk : v.ownBlock = some k) : k < w.heap.size := by
 obtain ⟨-, ⟨rfl, -⟩ | ⟨b', o', c', cc, rfl, -, h2, -⟩⟩ := h
 ·cases hk
 ·cases hk; exact h2.lt
theorem wantCells_at (us : List (Job × Value)) (k : Nat) (h : k < us.length) : (wantCells us)[k * 2]? = some (.int .i64 (us[k].1.most : Nat)) ∧ (wantCells us)[k * 2 + 1]? = some us[k].2 := by
 have e : wantCells us = wantCells (us.take k) ++ (wantC us[k] ++ wantCells (us.drop (k + 1))) := by
  have e1 : us = us.take k ++ (us[k] :: us.drop (k + 1)) := by rw [← List.drop_eq_getElem_cons h, List.take_append_drop]
  have e2 : wantCells (us[k] :: us.drop (k + 1)) = wantC us[k] ++ wantCells (us.drop (k + 1)) := rfl
  rw [← e2, ← wantCells_append, ← e1]
 have hl : (wantCells (us.take k)).length = k * 2 := by rw [wantCells_length, List.length_take]; omega
 refine ⟨?_, ?_⟩ <;> rw [e, List.getElem?_append_right (by omega), hl]
 ·simp [wantC]
 ·rw [show k * 2 + 1 - k * 2 = 1 by omega]; simp [wantC]
theorem Kp.of_drew {B : Nat} {Ts : List TypeId} {a w : World} (h : Kp B Ts a.drew w) : Kp B Ts a w := ⟨h.os, h.tape, h.output, h.size, h.block⟩
theorem Keeps.of_drew {S : Nat → Prop} {a w : World} (h : Keeps S a.drew w) : Keeps S a w := ⟨h.os, h.tape, h.output, h.size, h.block⟩
theorem plan_step {B b : Nat} {tail : PT} {ts : List (Job × Value)} {σ : PSt} {w w1 : World} {vr vt vl va : Value} (H : PAt B b tail ts σ w vr vt vl va) (j : Job) (f : Value) (hj : JobAt w b j f) (C : Array Value) (ao : Option Addr) (cc n : Nat) (hn : n = ts.length + 1)
 (hs : Sl w1 B 113 2 (.slice ao n cc) n (wantCells ts ++ [.int .i64 (j.most : Nat), f])) (hk : Kp B [113] (w.alloc (.cells C 113)) w1) :
 PAt B b tail (ts ++ [(j, f)]) σ (w1.setCell ⟨b, 4, none⟩ (.slice ao n cc)) vr (.slice ao n cc) vl va ∧ Kp B [113, TB] w (w1.setCell ⟨b, 4, none⟩ (.slice ao n cc)) := by
 subst hn
 have hk0 : Kp B [113] w w1 := ((Kp.refl _ _ _).alloc _).trans hk
 have b1 := H.blk.kp hk0 (.inr (by decide))
 have k2 : Kp B [TB] w1 (w1.setCell ⟨b, 4, none⟩ (.slice ao (ts.length + 1) cc)) := (Kp.refl _ _ _).set b1 (.inr ⟨H.le, by simp⟩) _ _
 have b2 := b1.set 4 (.slice ao (ts.length + 1) cc)
 rw [(pcells_set ..).2.2.2.2.1] at b2
 have sub : ∀ T ∈ ([113] : List TypeId), T ∈ paTs := by intro T hT; simp only [List.mem_singleton] at hT; subst hT; simp
 have subB : ∀ T ∈ ([TB] : List TypeId), T ∈ paTs := by intro T hT; simp only [List.mem_singleton] at hT; subst hT; simp
 refine ⟨⟨b2, H.le, (H.rest.kp hk0 (.inl (by decide))).kp k2 (.inl (by decide)), ?_, (H.nodes.kp hk0 (.inl (by decide))).kp k2 (.inl (by decide)), (H.above.kp hk0 (.inl (by decide))).kp k2 (.inl (by decide)), ?_, fun t ht => ⟨((H.kept t ht).1.kp hk0 (.inl (by decide))).kp k2 (.inl (by decide)), (H.kept t ht).2⟩⟩, (hk0.mono (.inr ⟨Nat.le_refl _, by simp⟩)).trans (k2.mono (.inr ⟨Nat.le_refl _, by simp⟩))⟩
 ·rw [List.length_append, wantCells_append]
  exact hs.kp k2 (.inl (by decide))
 ·intro t ht
  rcases List.mem_append.1 ht with ht | ht
  ·exact ((H.jobs t ht).kp hk0 sub).kp k2 subB
  ·obtain rfl := List.mem_singleton.1 ht
   exact (hj.kp hk0 sub).kp k2 subB
set_option maxHeartbeats 1600000 in
set_option maxRecDepth 100000 in
theorem plan_any {B b : Nat} {tail : PT} {ts : List (Job × Value)} {σ : PSt} {w : World} {vr vt vl va : Value} (h : PAt B b tail ts σ w vr vt vl va) (us : List (Job × Value)) (bl ol cp : Nat) (hv : Sl w 0 113 2 (.slice (some ⟨bl, ol, none⟩) us.length cp) us.length (wantCells us)) (hnb : vt.ownBlock ≠ some bl)
 (hj : ∀ t ∈ us, JobAt w b t.1 t.2) (hl : ts.length + us.length ≤ 1099511627776) :
 Calls Tryz.prog 45 #[.pointer (some ⟨b, 0, none⟩), .slice (some ⟨bl, ol, none⟩) us.length cp] w fun ed w' => ed = .returned (.tuple #[]) ∧ PA B b tail (ts ++ us.reverse) σ w' ∧ Kp B [113, TB] w w' := by
 obtain ⟨a0, c0, hsh, hcl, hcm⟩ := hv.shape
 cases hsh
 unfold maxLen at hcm
 have HV := Lib.hid hv
 have H := Lib.hid h
 have HJ := Lib.hid hj
 have HNB := Lib.hid hnb
 clear hv h hj hnb
 go_enter Tryz.func45, Tryz.ntmps45
 go_wp2_with fail
 go_loopg [7] us.length (fun gk iv wr => ∃ (k : Nat) (vt' : Value), gk = us.length - k ∧ k ≤ us.length ∧ iv = .int .i64 k ∧ Hid (PAt B b tail (ts ++ us.reverse.take k) σ wr vr vt' vl va) ∧ Hid (Kp B [113, TB] w wr) ∧ Hid (vt'.ownBlock ≠ some bl) ∧ Hid (Sl wr 0 113 2 (.slice (some ⟨bl, ol, none⟩) us.length cp) us.length (wantCells us)))
 case atStart => exact ⟨0, vt, rfl, Nat.zero_le _, rfl, by show PAt _ _ _ _ _ _ _ _ _ _; simpa using H.out, Kp.refl _ _ _, HNB, HV⟩
 case round =>
  clear H HNB HV
  obtain ⟨k, vt', rfl, hk, rfl, H, HK, HNB, HV⟩ := hrel
  by_cases hlt : k < us.length
  ·obtain ⟨i0, hi, hz0, hz1, hz2⟩ := info_parts infoWant
   have c4 : wr.cell? ⟨b, 4, none⟩ = some vt' := (H.out.blk.cell 4).trans (pcells_get ..).2.2.2.2.1
   have f4 := H.out.blk.free 4
   obtain ⟨m, hm⟩ : ∃ m, us.length = m + k + 1 := ⟨us.length - 1 - k, by omega⟩
   have hml : m < us.length := by omega
   obtain ⟨b', o', c', hsh, -, -, -, hltb, hcc, -⟩ := HV.out.pos (by omega)
   cases hsh
   have hat := wantCells_at us m hml
   have d0 : wr.cell? ⟨bl, ol + m * 2, none⟩ = some (.int .i64 (us[m].1.most : Nat)) := (hcc _ (by omega)).trans hat.1
   have d1 : wr.cell? ⟨bl, ol + m * 2 + 1, none⟩ = some us[m].2 := (hcc _ (by omega)).trans hat.2
   have hone := (HJ.out us[m] (List.getElem_mem hml)).one
   have hrev : us.reverse.take (k + 1) = us.reverse.take k ++ [us[m]] := by
    rw [List.take_succ_eq_append_getElem (by simp; omega)]
    congr 2
    rw [List.getElem_reverse]
    congr 1
    omega
   have HREV := Lib.hid hrev
   have HUM : Hid (us[m] ∈ us) := List.getElem_mem hml
   generalize us[m] = u at *
   obtain ⟨j, f⟩ := u
   simp only at d0 d1 hone
   have hlen : (ts ++ us.reverse.take k).length = ts.length + k := by simp; omega
   have hsl := H.out.todo
   have hblt := H.out.lt
   have hbw := H.out.le
   have e1 : IntKind.i64.wrap ((us.length : Int) - 1) = (us.length : Int) - 1 := IntWalk.i64_in _ (by omega)
   have e2 : IntKind.i64.wrap ((us.length : Int) - 1 - (k : Int)) = (m : Int) := by rw [IntWalk.i64_in _ (by omega)]; omega
   have e3 : (0 : Int) ≤ (m : Int) := by omega
   have e4 : (m : Int) < (us.length : Int) := by omega
   have HM := Lib.hid hm
   have HLN := Lib.hid hlen
   have hl2 : (ts ++ us.reverse.take k).length ≤ 1099511627776 := by omega
   clear hat hcc hrev hm hlen
   go_upto_region 3 with (fail)
   have HJF : Hid (JobAt wr b j f) := (HJ.out _ HUM.out).kp HK.out (by intro T hT; simp only [List.mem_cons, List.not_mem_nil, or_false] at hT; rcases hT with rfl | rfl <;> simp)
   go_region_law (refine step_append_own2 rfl _ _ 103 103 rfl 113 i0 _ 2 16 Tryz.underlying103 hi hz0 hz1 hz2 rfl B vt' _ _ rfl _ rfl 1 [.int .i64 (j.most : Nat), f] (by simp; omega) (by first | exact hsl.alloc _ | exact hsl) (by first | exact Src.ofSl Tryz.underlying103 (Sl.of_new wr 0 (Nat.zero_le _) 113 2 1 [.int .i64 (j.most : Nat), f] rfl (by simp [maxLen])) (by intro u hu; simp only [List.mem_cons, List.not_mem_nil, or_false] at hu; rcases hu with rfl | rfl; rfl; exact hone)) (by unfold maxLen; omega) (by omega) ?_; intro ao cc w1 hs1 hk1 hkk1 hb1; have HK1 := Lib.hid (Kp.of_drew hk1); have HKK1 := Lib.hid (Keeps.of_drew hkk1); have HS1 := Lib.hid hs1; have HB1 := Lib.hid hb1; have B1 := Lib.hid ((H.out.blk.alloc (.cells #[.int .i64 (j.most : Nat), f] 113)).kp HK1.out (.inr (by decide))); have c41 : w1.cell? ⟨b, 4, none⟩ = some vt' := (B1.out.cell 4).trans (pcells_get ..).2.2.2.2.1; have f41 := B1.out.free 4; clear hs1 hk1 hkk1 hb1)
   all_goals (
    have hst := plan_step H.out j f HJF.out _ ao cc (ts.length + k + 1) (by rw [HLN.out]) (by have h1 := HS1.out; rw [HLN.out] at h1; exact h1) HK1.out
    have HST := Lib.hid hst
    clear hst
    go_wp2_with fail
    go_roundg (us.length - (k + 1)))
   all_goals first
    | (case measure => omega)
    | (case rel =>
        refine ⟨k + 1, _, rfl, by omega, by go_num, by rw [HREV.out, ← List.append_assoc]; exact HST.out.1, HK.out.trans HST.out.2, ?_, ?_⟩
        ·show ¬ _
         have hb1 := HB1.out
         rw [HLN.out] at hb1
         rcases hb1 with e | e
         ·rw [e]; exact HNB.out
         ·rw [e]; intro e2; simp at e2; omega
        ·refine (HV.out.keep fun b' c' ho _ hb => ?_)
         cases ho
         have h1 : Blk w1 bl c' 113 := (hb.alloc _).keeps HKK1.out (fun e => HNB.out e)
         exact h1.set_ne _ _ (fun e => absurd (h1.inj (by simp only at e; subst e; exact B1.out)).2 (by decide)))
  ·have hkl : k = us.length := by omega
   have HF : Hid (us.reverse.take k = us.reverse) := List.take_of_length_le (by simp; omega)
   clear hkl
   go_wp2_with fail
   go_end0
   refine ⟨rfl, ?_, HK.out⟩
   have := H.out
   rw [HF.out] at this
   exact ⟨_, _, _, _, this⟩
def RQ.clear (q : RQ) : RQ := { q with l := [] }
theorem dataB_len {k : Int} {s : List UInt8} (h : dataB k s = true) : s.length ≤ 100 := by
 unfold dataB at h
 split at h
 ·simp at h; omega
 ·split at h
  ·simp at h; rw [h]; simp
  ·split at h
   ·simpa using h
   ·cases h
theorem join_len {p s : List UInt8} (h : nameB s = true) : (joinP p s).length ≤ p.length + 49 := by
 have := name_len h
 unfold joinP
 split
 ·omega
 ·simp; omega
theorem VF.small {d : Nat} {p last : List UInt8} {r : List Node} (h : VF d p last r) : ∀ n ∈ r, n.path.length ≤ p.length + 49 * d ∧ n.data.length ≤ 100 := by
 induction h with
 | nil => intro n hn; cases hn
 | leaf d p last s y r h1 h2 h3 h4 h5 h6 ih =>
   intro n hn
   rcases List.mem_cons.1 hn with rfl | hn
   ·have := join_len (p := p) h2
    rw [h1]
    exact ⟨by omega, dataB_len h5⟩
   ·exact ih n hn
 | dir d p last s y sub r h1 h2 h3 h4 h5 h6 h7 ih1 ih2 =>
   intro n hn
   have hj := join_len (p := p) h2
   rcases List.mem_cons.1 hn with rfl | hn
   ·rw [h1, h5]
    exact ⟨by omega, Nat.zero_le _⟩
   ·rcases List.mem_append.1 hn with hn | hn
    ·have := ih1 n hn
     exact ⟨by omega, this.2⟩
    ·exact ih2 n hn
theorem wrong_small {l : List Node} (h : wrongL l = -1) : l.length ≤ 30 ∧ (∀ n ∈ l, n.path.length ≤ 245 ∧ n.data.length ≤ 100) ∧ (packP l).length ≤ 30000 := by
 obtain ⟨x, r, rfl, hv, hl⟩ := VN_of_wrong h
 have h1 : ∀ n ∈ x :: r, n.path.length ≤ 245 ∧ n.data.length ≤ 100 := by
  intro n hn
  obtain ⟨hp, ⟨-, rfl, hd⟩ | ⟨-, hd, hf⟩⟩ := hv
  ·simp only [List.mem_singleton] at hn
   subst hn
   rw [hp]
   exact ⟨Nat.zero_le _, dataB_len hd⟩
  ·rcases List.mem_cons.1 hn with rfl | hn
   ·rw [hp, hd]
    exact ⟨Nat.zero_le _, Nat.zero_le _⟩
   ·have := hf.small n hn
    simp at this
    omega
 refine ⟨hl, h1, ?_⟩
 have h2 := packP_len (x :: r)
 have h3 : ∀ l : List Node, (∀ n ∈ l, n.path.length ≤ 245 ∧ n.data.length ≤ 100) → (l.map fun x => x.path.length + x.data.length).sum ≤ l.length * 345 := by
  intro l
  induction l with
  | nil => intro _; simp
  | cons x r ih =>
    intro hx
    have h3 := ih fun y hy => hx y (List.mem_cons_of_mem _ hy)
    have h4 := hx x (List.mem_cons_self ..)
    simp only [List.map_cons, List.sum_cons, List.length_cons, Nat.succ_mul]
    omega
 have h4 := h3 _ h1
 generalize (List.map (fun x => x.path.length + x.data.length) (x :: r)).sum = A at *
 generalize (x :: r).length = B at *
 generalize (packP (x :: r)).length = C at *
 omega
def RQ.failIf (q : RQ) (e p : Int) : RQ := if e = 0 then q else q.fail e p
end Go.Proofs.YtdkogijdfgfpeaaGreatDoor
