/- frame.Put: strings with their lengths, filled up. -/
import Derived.Test.YtohbjbicmgnblaaDoorChecked
import Derived.Test.YtohbjbicmgnblaaDoorBuild
namespace Go.Proofs.YtohbjbicmgnblaaDoor
open Go Go.RowKit
set_option linter.unusedVariables false

def padN (n : Nat) : Nat := (8 - n % 8) % 8
def leB (n i : Nat) : UInt8 := UInt8.ofNat (n / 2 ^ (8 * i) % 256)
def le8 (n : Nat) : List UInt8 := (List.range 8).map (leB n)
def putL (s : List UInt8) : List UInt8 := le8 s.length ++ s ++ List.replicate (padN s.length) 0
def putAll (l : List (List UInt8)) : List UInt8 := l.flatMap putL
/-- a string of bytes, as a value -/
def sv (s : List UInt8) : Value := .string ⟨s.toArray⟩
def svs (l : List (List UInt8)) : List Value := l.map sv
theorem svs_one (l : List (List UInt8)) : ∀ u ∈ svs l, u.oneCell' = true := fun u hu => by
  obtain ⟨_, _, rfl⟩ := List.mem_map.1 hu
  rfl
theorem putL_length (s : List UInt8) : (putL s).length = 8 + s.length + padN s.length := by simp [putL, le8]; omega
theorem padN_lt (n : Nat) : padN n < 8 := by unfold padN; omega
theorem putAll_snoc (l : List (List UInt8)) (k : Nat) (h : k < l.length) : putAll (l.take (k + 1)) = putAll (l.take k) ++ putL l[k] := by
  unfold putAll; rw [List.take_succ_eq_append_getElem h, List.flatMap_append]; simp
theorem neg_and7 (n : Nat) : bits BinOp.and IntKind.i64 (-(n : Int)) 7 = (padN n : Int) := by
  have hx : (BitVec.ofInt 64 (-(n : Int)) &&& BitVec.ofInt 64 7).toNat = padN n := by
    rw [BitVec.toNat_and]
    have h7 : (BitVec.ofInt 64 7).toNat = 2 ^ 3 - 1 := by decide
    rw [h7, Nat.and_two_pow_sub_one_eq_mod, BitVec.toNat_ofInt]
    unfold padN
    omega
  show IntKind.i64.wrap ((BitVec.ofInt 64 (-(n : Int)) &&& BitVec.ofInt 64 7).toNat : Int) = _
  rw [hx, IntKind.wrap_i64]
  have := padN_lt n
  omega
theorem zeros_take (k : Nat) (h : k ≤ 7) : (⟨#[0, 0, 0, 0, 0, 0, 0]⟩ : ByteArray).extract 0 k = ⟨(List.replicate k (0 : UInt8)).toArray⟩ := by
  rcases k with _ | _ | _ | _ | _ | _ | _ | _ | k <;> first | rfl | omega
theorem leB_int (n i : Nat) : ((n : Int) / 2 ^ (8 * i) % 256) = ((leB n i).toNat : Int) := by
  unfold leB
  rw [UInt8.toNat_ofNat']
  have : n / 2 ^ (8 * i) % 256 % 2 ^ 8 = n / 2 ^ (8 * i) % 256 := Nat.mod_eq_of_lt (by omega)
  rw [this]
  simp
theorem le8_snoc (n j : Nat) (h : j < 8) : (le8 n).take (j + 1) = (le8 n).take j ++ [leB n j] := by
  rw [List.take_succ_eq_append_getElem (by simp [le8]; omega)]; simp [le8]
theorem le8_all (n : Nat) : (le8 n).take 8 = le8 n := List.take_of_length_le (by simp [le8])
def roomOf (l : List (List UInt8)) : Nat := (l.map fun s => s.length + 16).sum
theorem putAll_le (l : List (List UInt8)) : (putAll l).length ≤ roomOf l := by
  induction l with
  | nil => simp [putAll]
  | cons s l ih =>
    have := padN_lt s.length
    have h1 := putL_length s
    simp only [putAll, List.flatMap_cons, List.length_append, roomOf, List.map_cons, List.sum_cons] at *
    omega
theorem roomOf_take (l : List (List UInt8)) (k : Nat) (h : k < l.length) : roomOf (l.take k) + (l[k].length + 16) ≤ roomOf l := by
  have e : roomOf l = roomOf (l.take k) + roomOf (l.drop k) := by
    unfold roomOf
    rw [← List.sum_append, ← List.map_append, List.take_append_drop]
  have e2 : roomOf (l.drop k) = (l[k].length + 16) + roomOf (l.drop (k + 1)) := by
    rw [List.drop_eq_getElem_cons h]; rfl
  omega

set_option maxHeartbeats 800000 in
set_option maxRecDepth 100000 in
theorem put_any (v : Value) (l : List (List UInt8)) (w : World) (hv : Sl w 0 9 1 v l.length (svs l)) (hl : 0 < l.length) (hr : roomOf l ≤ 70368744177664) :
    Calls Tryd.prog 30 #[v] w fun e w' => e = .returned (sv (putAll l)) ∧ Keeps Non w w' := by
  obtain ⟨b, off, cap, rfl, -, hnc, hcm, hbl, hc, -⟩ := hv.pos hl
  unfold maxLen at hcm
  have HC : Hid (∀ k, k < l.length → w.cell? ⟨b, off + k, none⟩ = some (sv (l.getD k []))) := fun k hk => by
    rw [hc k (by omega)]; simp [svs, List.getD, List.getElem?_eq_getElem hk]
  clear hc hv
  go_enter Tryd.func30, Tryd.ntmps30
  go_wp2
  go_loopw [10] (fun i wr => ∃ k : Nat, k ≤ l.length ∧ i = .int .i64 k ∧ BuilderAt wr w.heap.size w.heap.size (putAll (l.take k)) ∧ Kp w.heap.size [75, 5] w wr) (fun i _ => l.length - (intOf i).toNat)
  case atStart => exact ⟨0, by omega, rfl, BuilderAt.new w, (Kp.refl _ _ _).alloc _⟩
  case round =>
    obtain ⟨k, hk, rfl, hbu, hkp⟩ := hrel
    by_cases hlt : k < l.length
    · have hcell : wr.cell? ⟨b, off + k, none⟩ = some (sv (l.getD k [])) := ((hkp.below (Nat.le_refl _)).cell (p := ⟨b, off + k, none⟩) hbl).trans (HC.out k hlt)
      have hroom := roomOf_take l k hlt
      have hput := putAll_le (l.take k)
      have hsn := putAll_snoc l k hlt
      have hge : l.getD k [] = l[k] := by simp [List.getD, List.getElem?_eq_getElem hlt]
      rw [hge] at hcell
      have HSN := Lib.hid hsn
      clear hge hsn
      generalize hx : l[k] = x at *
      generalize hy : putAll (l.take k) = y at *
      have HK := Lib.hid hkp
      clear hkp
      unfold sv at hcell
      go_wp2
      go_loopw [16] (fun i wq => ∃ j : Nat, j ≤ 8 ∧ i = .int .i64 j ∧ BuilderAt wq w.heap.size w.heap.size (y ++ (le8 x.length).take j) ∧ Kp w.heap.size [75, 5] w wq) (fun i _ => 8 - (intOf i).toNat)
      case atStart => exact ⟨0, by omega, rfl, by simpa using hbu, HK.out⟩
      case round =>
        obtain ⟨j, hj, rfl, hbu', hkp'⟩ := hrel
        have HK' := Lib.hid hkp'
        clear hkp' hbu HK
        by_cases hlt' : j < 8
        · have hby : ((x.length : Int) / 2 ^ (8 * j) % 256) = ((leB x.length j).toNat : Int) := leB_int _ _
          have hlen : (y ++ (le8 x.length).take j).length + 1 ≤ 140737488355328 := by rw [List.length_append, List.length_take]; omega
          have HL := Lib.hid hlen
          have HB := Lib.hid hby
          clear hlen hby
          go_wp2_with fail
          rw [HB.out]
          refine (writeByte_any _ _ _ (leB x.length j) _ hbu' HL.out).mono ?_
          rintro e w1 ⟨rfl, hb1, hk1⟩
          have HK1 := Lib.hid (HK'.out.trans hk1)
          rw [List.append_assoc, ← le8_snoc _ _ hlt'] at hb1
          clear hk1 hbu' HK'
          go_wp2
          go_roundw
          case rel => exact ⟨j + 1, by omega, by go_num, hb1, HK1.out⟩
          case measure => simp [intOf]; omega
        · obtain rfl : j = 8 := by omega
          rw [le8_all] at hbu'
          have hl1 : (y ++ le8 x.length).length = y.length + 8 := by simp [le8]
          go_wp2_with fail
          refine (writeString_any _ _ _ ⟨x.toArray⟩ _ hbu' (by rw [hl1]; show _ + x.toArray.size ≤ _; simp; omega)).mono ?_
          rintro e w1 ⟨rfl, hb1, hk1⟩
          have HK1 := Lib.hid (HK'.out.trans hk1)
          clear hk1 hbu' HK'
          have hand := neg_and7 x.length
          have hp := padN_lt x.length
          go_wp2_with fail
          rw [zeros_take _ (by omega)]
          have hl2 : (y ++ le8 x.length ++ x).length = y.length + 8 + x.length := by simp [le8]; omega
          refine (writeString_any _ _ _ _ _ hb1 (by rw [hl2]; show _ + (List.replicate (padN x.length) (0 : UInt8)).toArray.size ≤ _; simp; omega)).mono ?_
          rintro e w2 ⟨rfl, hb2, hk2⟩
          have HK2 := Lib.hid (HK1.out.trans hk2)
          have hb3 : BuilderAt w2 w.heap.size w.heap.size (putAll (l.take (k + 1))) := by
            rw [HSN.out]; simpa [putL] using hb2
          clear hk2 hb1 hb2 HK1 hand hl2
          go_wp2
          go_roundw
          case rel => exact ⟨k + 1, by omega, by go_num, hb3, HK2.out⟩
          case measure => simp [intOf]; omega
    · obtain rfl : k = l.length := by omega
      rw [List.take_length] at hbu
      have HK := Lib.hid hkp
      clear hkp
      go_wp2_with fail
      refine (bstring_any _ _ _ _ hbu ?_).mono ?_
      · intro e
        have : putAll l = putL l[0] ++ putAll (l.drop 1) := by
          cases l with
          | nil => simp at hl
          | cons a r => simp [putAll]
        have h8 := congrArg List.length this
        rw [e, List.length_append, putL_length] at h8
        simp at h8
        omega
      · rintro e w1 ⟨rfl, hb1⟩
        have HB := Lib.hid hb1
        clear hb1
        go_wp2
        go_ret
        refine ⟨rfl, ?_⟩
        have h1 : Below w.heap.size w w1 := (HK.out.below (Nat.le_refl _)).trans HB.out
        exact Keeps.of_below h1 (fun k hk _ => hk)
end Go.Proofs.YtohbjbicmgnblaaDoor
