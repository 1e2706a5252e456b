/- utf8.ValidString by the shelf's contract, laid at this translation in plain words. -/
import Derived.Test.YtohbjbicmgnblaaDoorChecked
import Derived.Shelf.Unicode.ValidAny
import Derived.Ground.NamesProg
import Derived.KernelRfl
import Derived.Test.YtohbjbicmgnblaaDoorMem
namespace Go.Proofs
open Go.Shelf
def Tryd.laysValid_ren : Go.Shelf.Ren := ⟨fun | 196 => 60 | 259 => 65 | n => n, fun | 9 => 9 | 4 => 4 | 3 => 3 | 5 => 5 | 12 => 12 | 119 => 113 | 0 => 0 | 46 => 117 | 139 => 116 | 138 => 115 | 53 => 121 | n => n, fun | 3 => 1 | 4 => 2 | n => n⟩
theorem Tryd.laysValid : Go.Proofs.Lays.n196 Tryd.prog Tryd.laysValid_ren := {
  mixed := by kernel_rfl
  f196 := Tryd.func60.trans (congrArg some (by kernel_rfl))
  f259 := Tryd.func65.trans (congrArg some (by kernel_rfl))
  t0 := Tryd.underlying0
  a0 := Tryd.isAgg0
  z0 := Tryd.sizeOf0
  v0 := Tryd.zeroValue0
  t3 := Tryd.underlying3
  a3 := Tryd.isAgg3
  z3 := Tryd.sizeOf3
  v3 := Tryd.zeroValue3
  t4 := Tryd.underlying4
  a4 := Tryd.isAgg4
  z4 := Tryd.sizeOf4
  v4 := Tryd.zeroValue4
  t5 := Tryd.underlying5
  a5 := Tryd.isAgg5
  z5 := Tryd.sizeOf5
  v5 := Tryd.zeroValue5
  t9 := Tryd.underlying9
  a9 := Tryd.isAgg9
  z9 := Tryd.sizeOf9
  v9 := Tryd.zeroValue9
  t12 := Tryd.underlying12
  a12 := Tryd.isAgg12
  z12 := Tryd.sizeOf12
  v12 := Tryd.zeroValue12
  t46 := Tryd.underlying117
  a46 := Tryd.isAgg117
  z46 := Tryd.sizeOf117
  v46 := Tryd.zeroValue117
  t53 := Tryd.underlying121
  a53 := Tryd.isAgg121
  z53 := Tryd.sizeOf121
  v53 := Tryd.zeroValue121
  t119 := Tryd.underlying113
  a119 := Tryd.isAgg113
  z119 := Tryd.sizeOf113
  t138 := Tryd.underlying115
  a138 := Tryd.isAgg115
  z138 := Tryd.sizeOf115
  v138 := Tryd.zeroValue115
  t139 := Tryd.underlying116
  a139 := Tryd.isAgg116
  z139 := Tryd.sizeOf116
  v139 := Tryd.zeroValue116
  g3 := by kernel_rfl
  g4 := by kernel_rfl }
end Go.Proofs
namespace Go.Proofs.YtohbjbicmgnblaaDoor
open Go Go.RowKit
set_option linter.unusedVariables false
/-- the two tables of unicode/utf8 lie as laid -/
def Tabs (w : World) : Prop := Lib.Utf8Tabs 1 2 w
def tabTop : Nat := max 1 2 + 1
theorem Tabs.below {B : Nat} {w w' : World} (h : Tabs w) (k : Below B w w') (hB : tabTop ≤ B) : Tabs w' := by
  unfold tabTop at hB
  refine ⟨fun c hc => ?_, fun i hi => ?_⟩
  · rw [k.cell (by simp; omega)]; exact h.1 c hc
  · rw [k.cell (by simp; omega), k.cell (by simp; omega)]; exact h.2 i hi
theorem Tabs.top {w : World} (h : Tabs w) : tabTop ≤ w.heap.size := by
  have h1 := World.block_lt_of_cell? _ _ (h.1 0 (by decide))
  have h2 := World.block_lt_of_cell? _ _ (h.2 0 (by decide)).1
  unfold tabTop
  simp at h1 h2
  omega
theorem Tabs.keeps {w w' : World} (h : Tabs w) (k : Keeps Non w w') : Tabs w' := h.below (k.below (Nat.le_refl _) (fun _ _ h => h)) h.top
theorem Tabs.kp {w w' : World} (h : Tabs w) {B : Nat} {Ts : List TypeId} (k : Kp B Ts w w') (hB : tabTop ≤ B) : Tabs w' := by
  refine h.below (B := tabTop) ?_ (Nat.le_refl _)
  exact ⟨k.os, k.tape, k.output, k.size, fun i hi => by
    rcases k.block i (Nat.lt_of_lt_of_le hi h.top) with e | ⟨hb, _⟩
    · exact e
    · omega⟩

theorem validString_any (s : ByteArray) (w : World) (hs : s.size ≤ 9223372036854775807) (hT : Tabs w) :
    Calls Tryd.prog 60 #[.string s] w fun e w' => e = .returned (.bool (Lib.validD s.data.toList)) ∧ Keeps Non w w' :=
  (Any.utf8_ValidString Tryd.laysValid s w hs hT).mono fun e w' ⟨he, hb⟩ => ⟨he, Keeps.of_below hb (fun k hk _ => hk)⟩
end Go.Proofs.YtohbjbicmgnblaaDoor
