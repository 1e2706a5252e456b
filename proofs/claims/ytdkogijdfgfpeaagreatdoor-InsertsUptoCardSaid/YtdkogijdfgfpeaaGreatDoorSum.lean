/- The sum of bytes: both functions give the same eight bytes. -/
import Derived.Test.YtdkogijdfgfpeaaGreatDoorChecked
import Derived.Test.YtdkogijdfgfpeaaGreatDoorMem
import Derived.Lib.Hide
namespace Go.Proofs.YtdkogijdfgfpeaaGreatDoor
open Go Go.RowKit
set_option linter.unusedVariables false

def hstep (x : Int) (b : UInt8) : Int := IntKind.u64.wrap (bits BinOp.xor IntKind.u64 x (IntKind.u64.wrap ↑b.toNat) * 1099511628211)
def hashL (l : List UInt8) : Int := l.foldl hstep 14695981039346656037
theorem take_snoc (s : ByteArray) (k : Nat) (h : k < s.size) : s.data.toList.take (k + 1) = s.data.toList.take k ++ [s[k]] := by
  rw [List.take_succ_eq_append_getElem (by simpa using h)]; rfl
theorem take_all (s : ByteArray) (k : Nat) (h : ¬ k < s.size) : s.data.toList.take k = s.data.toList := by
  rw [List.take_of_length_le]; simpa using h
theorem hashL_snoc (s : ByteArray) (k : Nat) (h : k < s.size) : hashL (s.data.toList.take (k + 1)) = hstep (hashL (s.data.toList.take k)) s[k] := by
  rw [take_snoc s k h]; simp [hashL]
/-- the k-th byte of the sum -/
def hbyte (x : Int) (k : Nat) : Int := x / 2 ^ (8 * k) % 256

/-- its first j bytes, as a string -/
def sumL (x : Int) (j : Nat) : List UInt8 := (List.range j).map fun k => UInt8.ofNat (hbyte x k).toNat
def sumB (x : Int) (j : Nat) : ByteArray := ⟨(sumL x j).toArray⟩
theorem sumB_snoc (x : Int) (j : Nat) : sumB x j ++ ⟨#[UInt8.ofNat (x / 2 ^ (8 * j) % 256).toNat]⟩ = sumB x (j + 1) := by
  apply ByteArray.ext
  simp [sumB, sumL, List.range_succ, hbyte]
theorem sumB_size (x : Int) (j : Nat) : (sumB x j).size = j := by simp [sumB, sumL, ByteArray.size]
/-- the sum of bytes -/
def sumOf (l : List UInt8) : ByteArray := sumB (hashL l) 8

/-- a row of eight, the first j filled -/
def SumRow (w : World) (b : Nat) (x : Int) (j : Nat) : Prop := ∃ c, Blk w b c 5 ∧ c.size = 8 ∧ ∀ i, i < j → c[i]? = some (.int .u8 (hbyte x i))
theorem SumRow.cell {w : World} {b : Nat} {x : Int} {j : Nat} (h : SumRow w b x j) (hj : j < 8) : ∃ v, w.cell? ⟨b, j, none⟩ = some v := by
  obtain ⟨c, h1, h2, h3⟩ := h
  exact ⟨c[j], by rw [h1.cell, Array.getElem?_eq_getElem (by omega)]⟩
theorem SumRow.free {w : World} {b : Nat} {x : Int} {j : Nat} (h : SumRow w b x j) (k : Nat) : w.frozen? ⟨b, k, none⟩ = false := by
  obtain ⟨c, h1, h2, h3⟩ := h
  exact h1.free _
theorem SumRow.set {w : World} {b : Nat} {x : Int} {j : Nat} (h : SumRow w b x j) (hj : j < 8) : SumRow (w.setCell ⟨b, j, none⟩ (.int .u8 (hbyte x j))) b x (j + 1) := by
  obtain ⟨c, h1, h2, h3⟩ := h
  refine ⟨_, h1.set j _, by simpa using h2, fun i hi => ?_⟩
  by_cases e : i = j
  · subst e; rw [Array.getElem?_setIfInBounds]; simp; omega
  · rw [Array.getElem?_setIfInBounds_ne (by omega)]; exact h3 i (by omega)
theorem hbyte_nat (x : Int) (i : Nat) : ((UInt8.ofNat (hbyte x i).toNat).toNat : Int) = hbyte x i := by
  have h0 : 0 ≤ hbyte x i := Int.emod_nonneg _ (by omega)
  have h1 : hbyte x i < 256 := Int.emod_lt_of_pos _ (by omega)
  rw [UInt8.toNat_ofNat']; omega
theorem SumRow.str {P : Program} {w : World} {b : Nat} {x : Int} (h : SumRow w b x 8) {t e d : TypeId} (ht : P.underlying t = some (.slice e)) (he : P.underlying e = some (.int .u8)) (hd : P.underlying d = some .string) :
    (convert t d (.slice (some ⟨b, 0, none⟩) 8 8)).run P w = .ok (.string (sumB x 8)) w := by
  obtain ⟨c, h1, h2, h3⟩ := h
  refine run_string_sl (E := 5) (B := 0) t e ht he d hd (sumL x 8) ⟨by simp [bvs, sumL], .inr ⟨b, 0, 8, c, rfl, by omega, h1, by omega, by simp [maxLen], by omega, fun j hj => ?_⟩⟩
  have hj' : j < 8 := by omega
  rw [Nat.zero_add, h3 j hj', bvs, List.getElem?_map, sumL, List.getElem?_map, List.getElem?_range hj']
  exact congrArg (fun n => some (Value.int .u8 n)) (hbyte_nat x j).symm

set_option maxHeartbeats 400000 in
set_option maxRecDepth 100000 in
theorem sum_any (s : ByteArray) (w : World) (hs : s.size ≤ maxLen) :
    Calls Tryz.prog 42 #[.string s] w fun e w' => e = .returned (.string (sumOf s.data.toList)) ∧ Keeps Non w w' := by
  unfold maxLen at hs
  go_enter Tryz.func42, Tryz.ntmps42
  go_wp2
  go_loop [3, 9] (fun h i => ∃ k : Nat, k ≤ s.size ∧ i = .int .i64 k ∧ ∃ x : Int, h = .int .u64 x ∧ Hid (x = hashL (s.data.toList.take k))) (fun _ i => s.size - (intOf i).toNat)
  case atStart => exact ⟨0, by omega, rfl, 14695981039346656037, rfl, rfl⟩
  case round =>
    obtain ⟨k, hk, rfl, x, rfl, hx⟩ := hrel
    by_cases hlt : k < s.size
    · go_wp2
      go_round
      case rel => exact ⟨k + 1, by omega, by go_num, _, rfl, by have := hashL_snoc s k hlt; rw [← hx.out] at this; exact this.symm⟩
      case measure => simp [intOf]; omega
    · have hmk : ∀ w, (Instr.makeSlice 45 (.int .i64 8) (.int .i64 8)).run Tryz.prog w = .ok (.slice (some ⟨w.heap.size, 0, none⟩) 8 8) (w.alloc (.cells #[.int .u8 0, .int .u8 0, .int .u8 0, .int .u8 0, .int .u8 0, .int .u8 0, .int .u8 0, .int .u8 0] 5)) := fun _ => by kernel_rfl
      go_wp2
      clear hmk
      go_loopw [6, 23] (fun _ i wr => ∃ j : Nat, j ≤ 8 ∧ i = .int .i64 j ∧ SumRow wr w.heap.size x j ∧ Keeps Non w wr) (fun _ i _ => 8 - (intOf i).toNat)
      case atStart => exact ⟨0, by omega, rfl, ⟨_, Blk.new _ _ _, by simp, fun i hi => by omega⟩, (Keeps.refl _ _).alloc _⟩
      case round =>
        obtain ⟨j, hj, rfl, hrow, hkp⟩ := hrel
        by_cases hlt' : j < 8
        · obtain ⟨v, hc⟩ := hrow.cell hlt'
          have hf := hrow.free j
          have HS : Hid (SumRow (wr.setCell ⟨w.heap.size, j, none⟩ (.int .u8 (hbyte x j))) w.heap.size x (j + 1)) := hrow.set hlt'
          have HK : Hid (Keeps Non w (wr.setCell ⟨w.heap.size, j, none⟩ (.int .u8 (hbyte x j)))) := hkp.setCell _ _ (.inr (Nat.le_refl _))
          clear hkp hrow
          go_wp2
          go_roundw
          case rel => exact ⟨j + 1, by omega, by go_num, HS.out, HK.out⟩
          case measure => simp [intOf]; omega
        · obtain rfl : j = 8 := by omega
          rw [take_all s k hlt] at hx
          have hst := hrow.str Tryz.underlying45 Tryz.underlying5 Tryz.underlying9
          have HK := Lib.hid hkp
          clear hkp hrow
          go_wp2
          go_ret
          obtain rfl := hx.out
          exact ⟨rfl, HK.out⟩
set_option maxHeartbeats 400000 in
set_option maxRecDepth 100000 in
theorem rsum_any (s : ByteArray) (w : World) (hs : s.size ≤ maxLen) :
    Calls Tryz.prog 107 #[.string s] w fun e w' => e = .returned (.string (sumOf s.data.toList)) ∧ Keeps Non w w' := by
  unfold maxLen at hs
  go_enter Tryz.func107, Tryz.ntmps107
  go_wp2
  go_loop [3, 4] (fun h i => ∃ k : Nat, k ≤ s.size ∧ i = .int .i64 k ∧ ∃ x : Int, h = .int .u64 x ∧ Hid (x = hashL (s.data.toList.take k))) (fun _ i => s.size - (intOf i).toNat)
  case atStart => exact ⟨0, by omega, rfl, 14695981039346656037, rfl, rfl⟩
  case round =>
    obtain ⟨k, hk, rfl, x, rfl, hx⟩ := hrel
    by_cases hlt : k < s.size
    · go_wp2
      go_round
      case rel => exact ⟨k + 1, by omega, by go_num, _, rfl, by have := hashL_snoc s k hlt; rw [← hx.out] at this; exact this.symm⟩
      case measure => simp [intOf]; omega
    · go_wp2
      have kc := fun (w : World) (n : Int) => run_string_one (P := Tryz.prog) 45 5 Tryz.underlying45 Tryz.underlying5 9 Tryz.underlying9 5 w n
      go_loopw [5, 6] (fun o i wr => ∃ j : Nat, j ≤ 8 ∧ i = .int .i64 j ∧ o = .string (sumB x j) ∧ Keeps Non w wr) (fun _ i _ => 8 - (intOf i).toNat)
      case atStart => exact ⟨0, by omega, rfl, rfl, Keeps.refl _ _⟩
      case round =>
        obtain ⟨j, hj, rfl, rfl, hkp⟩ := hrel
        have HK := Lib.hid hkp
        clear hkp
        by_cases hlt' : j < 8
        · have hsz : (sumB x j).size ≤ 8 := by rw [sumB_size]; exact hj
          go_wp2
          go_roundw
          case rel => exact ⟨j + 1, by omega, by go_num, congrArg Value.string (sumB_snoc x j), HK.out.alloc _⟩
          case measure => simp [intOf]; omega
        · obtain rfl : j = 8 := by omega
          go_wp2
          go_ret
          rw [take_all s k hlt] at hx
          obtain rfl := hx.out
          exact ⟨rfl, HK.out⟩
end Go.Proofs.YtdkogijdfgfpeaaGreatDoor
